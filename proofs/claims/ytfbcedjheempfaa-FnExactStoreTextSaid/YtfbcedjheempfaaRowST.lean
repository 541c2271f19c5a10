/- The law FnExactStoreText holds: whatever store is handed in, the program's StoreText answers as the reference's does. Conditions: none. -/
import Derived.Test.YtfbcedjheempfaaL19
import Derived.Test.YtfbcedjheempfaaSimO
import Derived.Test.YtfbcedjheempfaaRows
namespace Go.Proofs.Ytfbcedjheempfaa
open Go.ChangeShapes Go.WideShapes Go.ChangeAt Go.RowKit Go.Sim
set_option linter.unusedVariables false

theorem ST.own : ownKnob Try.prog.godebug = none := by kernel_rfl
theorem ST.laidOut : laidOutB Try.prog = true := by kernel_rfl
theorem ST.gl {W : World} (hsh : W.ShapedOpen Try.prog) : Try.prog.globals.size ≤ W.heap.size := globals_le hsh (n := 0) (by kernel_rfl) (by kernel_rfl)

set_option maxRecDepth 100000 in
theorem ST.lifted (os : Os) (started : os.Started) (H : Type) (enc : TypeId × Value → H) :
    ReturnsInHanded {} Try.checked os 9 .any (Rows.fnExactStoreTextSpec.pre6 enc Try.prog Try.f9 Rows.fnExactStoreTextRow.domain false) (Rows.fnExactStoreTextSpec.post enc Try.prog Try.f9 false true false false) := by
  refine returnsInHanded_of_change_shaped (C := Try.checked) ST.own started (by kernel_rfl) Try.func9
    (ChangeSpec.witness6 (enc := enc) (C := Try.checked) false ⟨#[], #[.agg #[.slice none 0 0, .slice none 0 0, .string ByteArray.empty]], []⟩ 8 (by kernel_rfl) (by kernel_rfl) (by kernel_rfl) (by kernel_rfl)) ?_
  intro W base args ds gs before hval0 hW hcnd _ hsh _
  have hval : ∀ (j : Nat) t v, Try.f9.params[j]? = some t → args[j]? = some v → Value.okWide Try.prog W .any base t v := hval0
  have hW' := hW
  obtain ⟨p, q, hA0, hV, rfl, hfz, hnd⟩ := hW
  have hA : DataW.TrodAll enc Try.prog W 0 (fun _ => true) true Try.f9.params.toList args.toList ds p := hA0
  rw [Try.params9] at hA hval
  obtain ⟨v0, d0, rfl, rfl, h0⟩ := trodAll_one hA
  obtain ⟨rfl, rfl⟩ := trodVars_none hV
  have k0 := h0
  have lt0 : ∀ x ∈ p, x.block < W.heap.size := by obtain ⟨m, hm⟩ := k0; exact DataW.trod_lt m _ _ _ hm
  obtain ⟨cs, rfl⟩ := okWide_agg (ts := [58, 59, 9]) (by kernel_rfl) (hval 0 61 v0 rfl rfl)
  clear hA0 hval0
  simp only [List.append_nil] at hW'
  refine (row_struct (P := Try.prog) (f := 9) (t := 61) 8 (by kernel_rfl) (ST.gl hsh) h0 (fun h acs r _ => ?_)).mono fun e W' ⟨he, bel⟩ => ?_
  · obtain ⟨cks, rfl, hr⟩ := r.fields (ts := [58, 59, 9]) (by kernel_rfl)
    match cks, hr with
    | [c0, c1, c2], ⟨r0, r1, r2, _⟩ =>
      obtain ⟨A, ca, vs, rfl, rA, zA, nA⟩ := Rep.list (e := 131) (k := 2) Var.enc (fun x => x.name.size ≤ maxLen ∧ x.val.size ≤ maxLen) und58 (by kernel_rfl) (fun c rc => by
        obtain ⟨cks, rfl, hr⟩ := rc.fields (ts := [9, 9]) (by kernel_rfl)
        match cks, hr with
        | [d0, d1], ⟨q0, q1, _⟩ =>
          obtain ⟨a, rfl, ha⟩ := q0.ofStr und9
          obtain ⟨b, rfl, hb⟩ := q1.ofStr und9
          exact ⟨⟨a, b⟩, rfl, ha, hb⟩) r0
      obtain ⟨B, cb, cl, rfl, rB, zB, nB⟩ := Rep.list (e := 133) (k := 3) Cell.enc (fun x => x.name.size ≤ maxLen ∧ x.key.size ≤ maxLen ∧ x.val.size ≤ maxLen) und59 (by kernel_rfl) (fun c rc => by
        obtain ⟨cks, rfl, hr⟩ := rc.fields (ts := [9, 9, 9]) (by kernel_rfl)
        match cks, hr with
        | [d0, d1, d2], ⟨q0, q1, q2, _⟩ =>
          obtain ⟨a, rfl, ha⟩ := q0.ofStr und9
          obtain ⟨b, rfl, hb⟩ := q1.ofStr und9
          obtain ⟨c, rfl, hc⟩ := q2.ofStr und9
          exact ⟨⟨a, b, c⟩, rfl, ha, hb, hc⟩) r1
      obtain ⟨s, rfl, hs⟩ := r2.ofStr und9
      exact CE.withBig fun big => law_StoreText ⟨vs, cl, s⟩ A B ca cb h ⟨rA, rB⟩ ⟨zA, zB, hs, nA, nB⟩ big
  · subst he
    exact ⟨_, rfl, _, _, _, [], _, [], hW', trodAll_mk1 (shut_bool und4 _), trodAll_mk1 (Below.trod ST.laidOut (by kernel_rfl) (of_decide_eq_true (by kernel_rfl)) k0 bel lt0), rfl, bel.frame _, fun h => by cases h⟩

theorem fnExactStoreText_holds : Rows.FnExactStoreTextSaid :=
  OpenClaim.holds_of_wide 9 Try.f9 rfl rfl rfl rfl rfl rfl rfl ⟨rfl, rfl, rfl, rfl, rfl⟩ rfl rfl rfl rfl rfl (by kernel_rfl) Try.func9 (by kernel_rfl)
    (of_decide_eq_true (by kernel_rfl)) (by unfold Func.isWrapper; first | (rw [if_pos (by decide +kernel)]; kernel_rfl) | (rw [if_neg (by decide +kernel)]; exact ⟨rfl, rfl⟩))
    (fun os started H enc _ => ST.lifted os started H enc)
end Go.Proofs.Ytfbcedjheempfaa
