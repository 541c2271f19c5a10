/- The law FnExactCutLines holds: whatever lines and number are handed in, the program's CutLines answers as the reference's does. Conditions: none. -/
import Derived.OpenShut
import Derived.Test.YtcggnolnakgkeaaRows
import Derived.Test.YtcggnolnakgkeaaB5
namespace Go.Proofs.Ytcggnolnakgkeaa
open Go.ChangeShapes Go.WideShapes Go.ChangeAt Go.RowKit Go.Sim
set_option linter.unusedVariables false

theorem XC.own : ownKnob Try.prog.godebug = none := by kernel_rfl
theorem XC.laidOut : laidOutB Try.prog = true := by kernel_rfl
theorem XC.gs : Try.prog.globals.size = 0 := by kernel_rfl
theorem XC.gl {W : World} : Try.prog.globals.size ≤ W.heap.size := by rw [XC.gs]; exact Nat.zero_le _
theorem int_wf {n : Int} (h : (Lit.int .i64 n).wf = true) : n ≤ 9223372036854775807 := by
  have e1 : IntKind.i64.min = -9223372036854775808 := by decide
  have e2 : IntKind.i64.max = 9223372036854775807 := by decide
  simp [Lit.wf, e1, e2] at h
  omega

set_option maxRecDepth 100000 in
theorem XC.lifted (os : Os) (started : os.Started) (H : Type) (enc : TypeId × Value → H) :
    ReturnsInHanded {} Try.checked os 4 .any (Rows.fnExactCutLinesSpec.pre6 enc Try.prog Try.f4 Rows.fnExactCutLinesRow.domain false) (Rows.fnExactCutLinesSpec.post enc Try.prog Try.f4 false true false false) := by
  refine returnsInHanded_of_change_shaped (C := Try.checked) XC.own started (by kernel_rfl) Try.func4
    (ChangeSpec.witness6 (enc := enc) (C := Try.checked) false ⟨#[], #[.slice none 0 0, .int .i64 0], []⟩ 8 (by kernel_rfl) (by kernel_rfl) (by kernel_rfl) (by kernel_rfl)) ?_
  intro W base args ds gs before hval0 hW hcnd _ hsh _
  have hval : ∀ (j : Nat) t v, Try.f4.params[j]? = some t → args[j]? = some v → Value.okWide Try.prog W .any base t v := hval0
  have hW' := hW
  obtain ⟨p, q, hA0, hV, rfl, hfz, hnd⟩ := hW
  have hA : DataW.TrodAll enc Try.prog W 0 (fun _ => true) true Try.f4.params.toList args.toList ds p := hA0
  rw [Try.params4] at hA hval
  obtain ⟨v0, v1, d0, d1, p0, p1, rfl, rfl, rfl, h0, h1⟩ := trodAll_two hA
  obtain ⟨rfl, rfl⟩ := trodVars_none hV
  have k0 := h0
  have k1 := h1
  have lt0 : ∀ x ∈ p0, x.block < W.heap.size := by obtain ⟨m, hm⟩ := k0; exact DataW.trod_lt m _ _ _ hm
  have lt1 : ∀ x ∈ p1, x.block < W.heap.size := by obtain ⟨m, hm⟩ := k1; exact DataW.trod_lt m _ _ _ hm
  obtain ⟨a0, l0, c0, rfl⟩ := okWide_slice und24 (hval 0 24 v0 rfl rfl)
  obtain ⟨n0, rfl⟩ := okWide_int und3 (hval 1 3 v1 rfl rfl)
  clear hA0 hval0
  simp only [List.append_nil] at hW'
  refine (row_two_cells (P := Try.prog) (f := 4) (t1 := 24) (t2 := 3) 8 (by kernel_rfl) (by kernel_rfl) XC.gl rfl rfl h0 h1 (fun h a1 a2 r1 r2 hlv => ?_)).mono fun e W' ⟨he, bel⟩ => ?_
  · obtain ⟨A, c, l, e, hR, hok, hlen⟩ := Rep.list (e := 9) (k := 1) encTx (fun x => x.size ≤ maxLen) und24 (by kernel_rfl) (fun c rc => by
      obtain ⟨a, rfl, ha⟩ := rc.ofStr und9
      exact ⟨a, rfl, ha⟩) r1
    obtain ⟨n, e2, hn⟩ := r2.ofInt und3
    simp only [List.cons.injEq, and_true] at e e2
    subst e
    subst e2
    exact CE.withBig fun big => law_CutLines l A c n h hR hok hlen (int_wf hn) big hlv
  · subst he
    exact ⟨_, rfl, _, _, _, [], _, [], hW', trodAll_mk1 (shut_bool und4 _), trodAll_cons_mk (Below.trod XC.laidOut (by kernel_rfl) (of_decide_eq_true (by kernel_rfl)) k0 bel lt0) (trodAll_mk1 (Below.trod XC.laidOut (by kernel_rfl) (of_decide_eq_true (by kernel_rfl)) k1 bel lt1)), rfl, bel.frame _, fun h => by cases h⟩

theorem fnExactCutLines_holds : Rows.FnExactCutLinesSaid :=
  OpenClaim.holds_of_wide 4 Try.f4 rfl rfl rfl rfl rfl rfl rfl ⟨rfl, rfl, rfl, rfl, rfl⟩ rfl rfl rfl rfl rfl (by kernel_rfl) Try.func4 (by kernel_rfl)
    (of_decide_eq_true (by kernel_rfl)) (by unfold Func.isWrapper; first | (rw [if_pos (by decide +kernel)]; kernel_rfl) | (rw [if_neg (by decide +kernel)]; exact ⟨rfl, rfl⟩))
    (fun os started H enc _ => XC.lifted os started H enc)
end Go.Proofs.Ytcggnolnakgkeaa
