/- The law FnFinds holds: for all bytes it answers yes. Conditions: none. -/
import Derived.Test.YtciajhpeikemoaaRows
import Derived.Test.YtciajhpeikemoaaB7
namespace Go.Proofs.Ytciajhpeikemoaa
open Go.ChangeShapes Go.WideShapes Go.ChangeAt Go.RowKit Go.Sim
set_option linter.unusedVariables false

theorem FI.own : ownKnob Try.prog.godebug = none := by kernel_rfl
theorem FI.laidOut : laidOutB Try.prog = true := by kernel_rfl
theorem FI.gl {W : World} (hsh : W.ShapedOpen Try.prog) : Try.prog.globals.size ≤ W.heap.size := globals_le hsh (n := 0) (by kernel_rfl) (by kernel_rfl)

set_option maxRecDepth 100000 in
theorem FI.lifted (os : Os) (started : os.Started) (H : Type) (enc : TypeId × Value → H) :
    ReturnsInHanded {} Try.checked os 11 .any (Rows.fnFindsSpec.pre6 enc Try.prog Try.f11 Rows.fnFindsRow.domain false) (Rows.fnFindsSpec.post enc Try.prog Try.f11 false true false false) := by
  refine returnsInHanded_of_change_shaped (C := Try.checked) FI.own started (by kernel_rfl) Try.func11
    (ChangeSpec.witness6 (enc := enc) (C := Try.checked) false ⟨#[], #[.slice none 0 0], []⟩ 8 (by kernel_rfl) (by kernel_rfl) (by kernel_rfl) (by kernel_rfl)) ?_
  intro W base args ds gs before hval0 hW hcnd _ hsh _
  have hval : ∀ (j : Nat) t v, Try.f11.params[j]? = some t → args[j]? = some v → Value.okWide Try.prog W .any base t v := hval0
  have hW' := hW
  obtain ⟨p, q, hA0, hV, rfl, hfz, hnd⟩ := hW
  have hA : DataW.TrodAll enc Try.prog W 0 (fun _ => true) true Try.f11.params.toList args.toList ds p := hA0
  rw [Try.params11] at hA hval
  obtain ⟨v0, d0, rfl, rfl, h0⟩ := trodAll_one hA
  obtain ⟨rfl, rfl⟩ := trodVars_none hV
  have k0 := h0
  have lt0 : ∀ x ∈ p, x.block < W.heap.size := by obtain ⟨m, hm⟩ := k0; exact DataW.trod_lt m _ _ _ hm
  obtain ⟨a0, l0, c0, rfl⟩ := okWide_slice und22 (hval 0 22 v0 rfl rfl)
  clear hA0 hval0
  simp only [List.append_nil] at hW'
  refine (row_cell (P := Try.prog) (f := 11) (t := 22) 8 (by kernel_rfl) (FI.gl hsh) rfl h0 (fun h av r _ => ?_)).mono fun e W' ⟨he, bel⟩ => ?_
  · obtain ⟨A, c, l, e, hR, hok, hlen⟩ := Rep.list (e := 5) (k := 1) byV (fun n : Nat => n < 256) und22 (by kernel_rfl) (fun c rc => by
      obtain ⟨n, rfl, hw⟩ := rc.ofInt und5
      have hb := byte_wf hw
      exact ⟨n.toNat, by rw [byV, Int.toNat_of_nonneg hb.1], by omega⟩) r
    simp only [List.cons.injEq, and_true] at e
    subst e
    exact law_Finds0 A c l h hR hok hlen
  · subst he
    exact ⟨_, rfl, _, _, _, [], _, [], hW', trodAll_mk1 (shut_bool und4 _), trodAll_mk1 (Below.trod FI.laidOut (by kernel_rfl) (of_decide_eq_true (by kernel_rfl)) k0 bel lt0), rfl, bel.frame _, fun h => by cases h⟩

theorem fnFinds_holds : Rows.FnFindsSaid :=
  OpenClaim.holds_of_wide 11 Try.f11 rfl rfl rfl rfl rfl rfl rfl ⟨rfl, rfl, rfl, rfl, rfl⟩ rfl rfl rfl rfl rfl (by kernel_rfl) Try.func11 (by kernel_rfl)
    (of_decide_eq_true (by kernel_rfl)) (by unfold Func.isWrapper; first | (rw [if_pos (by decide +kernel)]; kernel_rfl) | (rw [if_neg (by decide +kernel)]; exact ⟨rfl, rfl⟩))
    (fun os started H enc _ => FI.lifted os started H enc)
end Go.Proofs.Ytciajhpeikemoaa
