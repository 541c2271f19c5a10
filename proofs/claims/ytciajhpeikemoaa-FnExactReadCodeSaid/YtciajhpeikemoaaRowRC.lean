/- The law FnExactReadCode holds: whatever text is handed in, the program's ReadCode answers as the reference's does. Conditions: none. -/
import Derived.Test.YtciajhpeikemoaaRows
import Derived.Test.YtciajhpeikemoaaB6
namespace Go.Proofs.Ytciajhpeikemoaa
open Go.ChangeShapes Go.WideShapes Go.ChangeAt Go.RowKit Go.Sim
set_option linter.unusedVariables false

theorem RRC.own : ownKnob Try.prog.godebug = none := by kernel_rfl
theorem RRC.laidOut : laidOutB Try.prog = true := by kernel_rfl
theorem RRC.gl {W : World} (hsh : W.ShapedOpen Try.prog) : Try.prog.globals.size ≤ W.heap.size := globals_le hsh (n := 0) (by kernel_rfl) (by kernel_rfl)

set_option maxRecDepth 100000 in
theorem RRC.lifted (os : Os) (started : os.Started) (H : Type) (enc : TypeId × Value → H) :
    ReturnsInHanded {} Try.checked os 5 .any (Rows.fnExactReadCodeSpec.pre6 enc Try.prog Try.f5 Rows.fnExactReadCodeRow.domain false) (Rows.fnExactReadCodeSpec.post enc Try.prog Try.f5 false true false false) := by
  refine returnsInHanded_of_change_shaped (C := Try.checked) RRC.own started (by kernel_rfl) Try.func5
    (ChangeSpec.witness6 (enc := enc) (C := Try.checked) false ⟨#[], #[.string ByteArray.empty], []⟩ 8 (by kernel_rfl) (by kernel_rfl) (by kernel_rfl) (by kernel_rfl)) ?_
  intro W base args ds gs before hval0 hW hcnd _ hsh _
  have hval : ∀ (j : Nat) t v, Try.f5.params[j]? = some t → args[j]? = some v → Value.okWide Try.prog W .any base t v := hval0
  have hW' := hW
  obtain ⟨p, q, hA0, hV, rfl, hfz, hnd⟩ := hW
  have hA : DataW.TrodAll enc Try.prog W 0 (fun _ => true) true Try.f5.params.toList args.toList ds p := hA0
  rw [Try.params5] at hA hval
  obtain ⟨v0, d0, rfl, rfl, h0⟩ := trodAll_one hA
  obtain ⟨rfl, rfl⟩ := trodVars_none hV
  have k0 := h0
  have lt0 : ∀ x ∈ p, x.block < W.heap.size := by obtain ⟨m, hm⟩ := k0; exact DataW.trod_lt m _ _ _ hm
  obtain ⟨s0, rfl⟩ := okWide_string und9 (hval 0 9 v0 rfl rfl)
  clear hA0 hval0
  simp only [List.append_nil] at hW'
  refine (row_cell (P := Try.prog) (f := 5) (t := 9) 8 (by kernel_rfl) (RRC.gl hsh) rfl h0 (fun h av r _ => ?_)).mono fun e W' ⟨he, bel⟩ => ?_
  · obtain ⟨s, e, hs⟩ := r.ofStr und9
    simp only [List.cons.injEq, and_true] at e
    subst e
    exact law_ReadCode s hs h
  · subst he
    exact ⟨_, rfl, _, _, _, [], _, [], hW', trodAll_mk1 (shut_bool und4 _), trodAll_mk1 (Below.trod RRC.laidOut (by kernel_rfl) (of_decide_eq_true (by kernel_rfl)) k0 bel lt0), rfl, bel.frame _, fun h => by cases h⟩

theorem fnExactReadCode_holds : Rows.FnExactReadCodeSaid :=
  OpenClaim.holds_of_wide 5 Try.f5 rfl rfl rfl rfl rfl rfl rfl ⟨rfl, rfl, rfl, rfl, rfl⟩ rfl rfl rfl rfl rfl (by kernel_rfl) Try.func5 (by kernel_rfl)
    (of_decide_eq_true (by kernel_rfl)) (by unfold Func.isWrapper; first | (rw [if_pos (by decide +kernel)]; kernel_rfl) | (rw [if_neg (by decide +kernel)]; exact ⟨rfl, rfl⟩))
    (fun os started H enc _ => RRC.lifted os started H enc)
end Go.Proofs.Ytciajhpeikemoaa
