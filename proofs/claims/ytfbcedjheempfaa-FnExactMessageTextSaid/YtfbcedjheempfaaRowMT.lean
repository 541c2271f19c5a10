/- The law FnExactMessageText holds: whatever message is handed in, the program's MessageText answers as the reference's does. Conditions: none. -/
import Derived.Test.YtfbcedjheempfaaL11
import Derived.Test.YtfbcedjheempfaaRows
namespace Go.Proofs.Ytfbcedjheempfaa
open Go.ChangeShapes Go.WideShapes Go.ChangeAt Go.RowKit Go.Sim
set_option linter.unusedVariables false

theorem MT.own : ownKnob Try.prog.godebug = none := by kernel_rfl
theorem MT.laidOut : laidOutB Try.prog = true := by kernel_rfl
theorem MT.gl {W : World} (hsh : W.ShapedOpen Try.prog) : Try.prog.globals.size ≤ W.heap.size := globals_le hsh (n := 0) (by kernel_rfl) (by kernel_rfl)

set_option maxRecDepth 100000 in
theorem MT.lifted (os : Os) (started : os.Started) (H : Type) (enc : TypeId × Value → H) :
    ReturnsInHanded {} Try.checked os 5 .any (Rows.fnExactMessageTextSpec.pre6 enc Try.prog Try.f5 Rows.fnExactMessageTextRow.domain false) (Rows.fnExactMessageTextSpec.post enc Try.prog Try.f5 false true false false) := by
  refine returnsInHanded_of_change_shaped (C := Try.checked) MT.own started (by kernel_rfl) Try.func5
    (ChangeSpec.witness6 (enc := enc) (C := Try.checked) false ⟨#[], #[.agg #[.int .i64 0, .int .i64 0, .int .i64 0, .int .i64 0, .string ByteArray.empty]], []⟩ 8 (by kernel_rfl) (by kernel_rfl) (by kernel_rfl) (by kernel_rfl)) ?_
  intro W base args ds gs before hval0 hW hcnd _ hsh _
  have hval : ∀ (j : Nat) t v, Try.f5.params[j]? = some t → args[j]? = some v → Value.okWide Try.prog W .any base t v := hval0
  have hW' := hW
  obtain ⟨p, q, hA0, hV, rfl, hfz, hnd⟩ := hW
  have hA : DataW.TrodAll enc Try.prog W 0 (fun _ => true) true Try.f5.params.toList args.toList ds p := hA0
  rw [Try.params5] at hA hval
  obtain ⟨v0, d0, rfl, rfl, h0⟩ := trodAll_one hA
  obtain ⟨rfl, rfl⟩ := trodVars_none hV
  have k0 := h0
  have lt0 : ∀ x ∈ p, x.block < W.heap.size := by obtain ⟨m, hm⟩ := k0; exact DataW.trod_lt m _ _ _ hm
  obtain ⟨cs, rfl⟩ := okWide_agg (ts := [3, 3, 3, 3, 9]) (by kernel_rfl) (hval 0 23 v0 rfl rfl)
  clear hA0 hval0
  simp only [List.append_nil] at hW'
  refine (row_struct (P := Try.prog) (f := 5) (t := 23) 8 (by kernel_rfl) (MT.gl hsh) h0 (fun h acs r _ => ?_)).mono fun e W' ⟨he, bel⟩ => ?_
  · obtain ⟨cks, rfl, hr⟩ := r.fields (ts := [3, 3, 3, 3, 9]) (by kernel_rfl)
    match cks, hr with
    | [c0, c1, c2, c3, c4], ⟨r0, r1, r2, r3, r4, _⟩ =>
      obtain ⟨k, rfl, _⟩ := r0.ofInt und3
      obtain ⟨w, rfl, _⟩ := r1.ofInt und3
      obtain ⟨t, rfl, _⟩ := r2.ofInt und3
      obtain ⟨y, rfl, _⟩ := r3.ofInt und3
      obtain ⟨s, rfl, hs⟩ := r4.ofStr und9
      exact law_MessageText ⟨k, w, t, y, s⟩ hs h
  · subst he
    exact ⟨_, rfl, _, _, _, [], _, [], hW', trodAll_mk1 (shut_bool und4 _), trodAll_mk1 (Below.trod MT.laidOut (by kernel_rfl) (of_decide_eq_true (by kernel_rfl)) k0 bel lt0), rfl, bel.frame _, fun h => by cases h⟩

theorem fnExactMessageText_holds : Rows.FnExactMessageTextSaid :=
  OpenClaim.holds_of_wide 5 Try.f5 rfl rfl rfl rfl rfl rfl rfl ⟨rfl, rfl, rfl, rfl, rfl⟩ rfl rfl rfl rfl rfl (by kernel_rfl) Try.func5 (by kernel_rfl)
    (of_decide_eq_true (by kernel_rfl)) (by unfold Func.isWrapper; first | (rw [if_pos (by decide +kernel)]; kernel_rfl) | (rw [if_neg (by decide +kernel)]; exact ⟨rfl, rfl⟩))
    (fun os started H enc _ => MT.lifted os started H enc)
end Go.Proofs.Ytfbcedjheempfaa
