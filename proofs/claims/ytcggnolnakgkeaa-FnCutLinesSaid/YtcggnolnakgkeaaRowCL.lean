/- The law FnCutLines holds: for all bytes it answers yes. Conditions: none. -/
import Derived.Test.YtcggnolnakgkeaaRows
import Derived.Test.YtcggnolnakgkeaaB5
namespace Go.Proofs.Ytcggnolnakgkeaa
open Go.ChangeShapes Go.WideShapes Go.ChangeAt Go.RowKit Go.Sim
set_option linter.unusedVariables false

theorem CL.own : ownKnob Try.prog.godebug = none := by kernel_rfl
theorem CL.laidOut : laidOutB Try.prog = true := by kernel_rfl
theorem CL.gs : Try.prog.globals.size = 0 := by kernel_rfl
theorem CL.gl {W : World} : Try.prog.globals.size ≤ W.heap.size := by rw [CL.gs]; exact Nat.zero_le _

set_option maxRecDepth 100000 in
theorem CL.lifted (os : Os) (started : os.Started) (H : Type) (enc : TypeId × Value → H) :
    ReturnsInHanded {} Try.checked os 3 .any (Rows.fnCutLinesSpec.pre6 enc Try.prog Try.f3 Rows.fnCutLinesRow.domain false) (Rows.fnCutLinesSpec.post enc Try.prog Try.f3 false true false false) := by
  refine returnsInHanded_of_change_shaped (C := Try.checked) CL.own started (by kernel_rfl) Try.func3
    (ChangeSpec.witness6 (enc := enc) (C := Try.checked) false ⟨#[], #[.slice none 0 0], []⟩ 8 (by kernel_rfl) (by kernel_rfl) (by kernel_rfl) (by kernel_rfl)) ?_
  intro W base args ds gs before hval0 hW hcnd _ hsh _
  have hval : ∀ (j : Nat) t v, Try.f3.params[j]? = some t → args[j]? = some v → Value.okWide Try.prog W .any base t v := hval0
  have hW' := hW
  obtain ⟨p, q, hA0, hV, rfl, hfz, hnd⟩ := hW
  have hA : DataW.TrodAll enc Try.prog W 0 (fun _ => true) true Try.f3.params.toList args.toList ds p := hA0
  rw [Try.params3] at hA hval
  obtain ⟨v0, d0, rfl, rfl, h0⟩ := trodAll_one hA
  obtain ⟨rfl, rfl⟩ := trodVars_none hV
  have k0 := h0
  have lt0 : ∀ x ∈ p, x.block < W.heap.size := by obtain ⟨m, hm⟩ := k0; exact DataW.trod_lt m _ _ _ hm
  obtain ⟨a0, l0, c0, rfl⟩ := okWide_slice und22 (hval 0 22 v0 rfl rfl)
  clear hA0 hval0
  simp only [List.append_nil] at hW'
  refine (row_cell (P := Try.prog) (f := 3) (t := 22) 8 (by kernel_rfl) CL.gl rfl h0 (fun h av r _ => ?_)).mono fun e W' ⟨he, bel⟩ => ?_
  · obtain ⟨A, c, l, e, hR, hok, hlen⟩ := Rep.list (e := 5) (k := 1) byV (fun n : Nat => n < 256) und22 (by kernel_rfl) (fun c rc => by
      obtain ⟨n, rfl, hw⟩ := rc.ofInt und5
      have hb := byte_wf hw
      exact ⟨n.toNat, by rw [byV, Int.toNat_of_nonneg hb.1], by omega⟩) r
    simp only [List.cons.injEq, and_true] at e
    subst e
    exact law_FnCutLines A c l h hR hok hlen
  · subst he
    exact ⟨_, rfl, _, _, _, [], _, [], hW', trodAll_mk1 (shut_bool und4 _), trodAll_mk1 (Below.trod CL.laidOut (by kernel_rfl) (of_decide_eq_true (by kernel_rfl)) k0 bel lt0), rfl, bel.frame _, fun h => by cases h⟩

theorem fnCutLines_holds : Rows.FnCutLinesSaid :=
  OpenClaim.holds_of_wide 3 Try.f3 rfl rfl rfl rfl rfl rfl rfl ⟨rfl, rfl, rfl, rfl, rfl⟩ rfl rfl rfl rfl rfl (by kernel_rfl) Try.func3 (by kernel_rfl)
    (of_decide_eq_true (by kernel_rfl)) (by unfold Func.isWrapper; first | (rw [if_pos (by decide +kernel)]; kernel_rfl) | (rw [if_neg (by decide +kernel)]; exact ⟨rfl, rfl⟩))
    (fun os started H enc _ => CL.lifted os started H enc)
end Go.Proofs.Ytcggnolnakgkeaa
