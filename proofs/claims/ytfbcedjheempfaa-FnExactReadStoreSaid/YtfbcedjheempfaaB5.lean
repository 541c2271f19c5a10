/- Parts of the proof of the row: the ground, contracts of the functions that it reaches (L21, P5, L22, SimP, SimQ, L23, L24). Conditions: those that each theorem names. -/
import Derived.Test.YtfbcedjheempfaaB4
namespace Go.Proofs.Ytfbcedjheempfaa
open Go Go.Sim Go.Proofs
set_option linter.unusedSimpArgs false
set_option linter.unusedVariables false
set_option maxRecDepth 100000
set_option maxHeartbeats 1000000
def nmV (s : ByteArray) (r : Nat × Bool) : Nat := (oN (if r.2 then none else rv s r.1)).toNat
def nmN (s : ByteArray) (r : Nat × Bool) : Nat × Bool := (nxN (if r.2 then none else rv s r.1) r.1, (if r.2 then none else rv s r.1).isNone)
theorem nmV_eq (s : ByteArray) (r : Nat × Bool) : oN (if r.2 then none else rv s r.1) = (nmV s r : Nat) := by
  unfold nmV
  generalize (if r.2 then none else rv s r.1) = q
  cases q with
  | none => rfl
  | some p => simp [oN]
theorem l07Var_q (p : Nat) (s : ByteArray) (r : Nat × Bool) (hs : s.size ≤ maxLen - 16) (h : AH) (e : h.ob p = rdP p s r) : CD Try.prog 65 [.pointer (some ⟨p, 0, none⟩)] h (.int .i64 (nmV s r : Nat)) (h.set p (rdP p s (nmN s r))) := by
  have := l07Var_p p s r hs h e
  rw [nmV_eq] at this
  exact this
def sStore (s : ByteArray) (K1 K2 : Nat) : Store := ⟨(itV s (nmN s (0, false)) K1).2, (itC s (nmN s (itV s (nmN s (0, false)) K1).1) K2).2, shT s (itC s (nmN s (itV s (nmN s (0, false)) K1).1) K2).1⟩
def sEnd (s : ByteArray) (K1 K2 : Nat) : Nat × Bool := shN s (itC s (nmN s (itV s (nmN s (0, false)) K1).1) K2).1
/-- Where the two loops stop. -/
structure Stops (s : ByteArray) (K1 K2 : Nat) : Prop where
  a1 : K1 ≤ 100
  a2 : K1 ≤ nmV s (0, false)
  a3 : ∀ j, j < K1 → (itV s (nmN s (0, false)) j).1.2 = false
  a4 : ¬ (K1 < nmV s (0, false) ∧ K1 < 100 ∧ (itV s (nmN s (0, false)) K1).1.2 = false)
  b1 : K2 ≤ 2100
  b2 : K2 ≤ nmV s (itV s (nmN s (0, false)) K1).1
  b3 : ∀ j, j < K2 → (itC s (nmN s (itV s (nmN s (0, false)) K1).1) j).1.2 = false
  b4 : ¬ (K2 < nmV s (itV s (nmN s (0, false)) K1).1 ∧ K2 < 2100 ∧ (itC s (nmN s (itV s (nmN s (0, false)) K1).1) K2).1.2 = false)
def sOk (s : ByteArray) (K1 K2 : Nat) : Bool := !(sEnd s K1 K2).2 && (storeOk (sStore s K1 K2) && decide (storeT (sStore s K1 K2) = s))
theorem ReadStore_s (s : ByteArray) (hs : s.size ≤ maxLen - 16) (h : AH) : CC Try.prog 44 [.string s] h (fun v h' => ∃ vA vB K1 K2, Stops s K1 K2 ∧ v = .tuple #[.agg #[vA, vB, .string (if sOk s K1 K2 = true then sStore s K1 K2 else store0).out], .bool (sOk s K1 K2)] ∧ OwnS h h' vA vB (if sOk s K1 K2 = true then sStore s K1 K2 else store0) ∧ Pre h h') := by
  refine CC.withBig (fun big => ?_)
  have hc := l07Var_q (h.n + 1) s (0, false) hs
  generalize hN : nmV s (0, false) = N at hc
  have hc' : ∀ h1 : AH, h1.ob (h.n + 1) = .cells [.string s, .int .i64 0, .bool false] .solo (h.n + 1) → _ := fun h1 e => hc h1 e
  refine CC.ofN Try.func44 Try.ntmps44 Try.results44 rfl (by decide) (by kernel_rfl) ?_
  simp -implicitDefEqProofs only [push_cast, seval]
  with_reducible refine CD.to (hc' _ (by (try simp -implicitDefEqProofs only [push_cast, seval, rdOb]); try rfl)) ?_
  simp -implicitDefEqProofs only [push_cast, seval]
  refine WC.loopA (by kernel_rfl) [7] [8, 19, 20, 21, 22, 23, 24, 25, 26, 27, 28, 29, 30, 31, 32, 33, 34, 35, 36, 37, 38, 39, 40, 41, 42, 43, 44, 45, 46] (fun a : Nat × Value => [.int .i64 (a.1 : Nat)]) (fun a h' => ((a.1 ≤ 100 ∧ a.1 ≤ N ∧ ∀ j, j < a.1 → (itV s (nmN s (0, false)) j).1.2 = false) ∧ h.n + 3 ≤ h'.n ∧ h'.ob h.n = .cells [.slice none 0 0, .slice none 0 0, .string ⟨#[]⟩] .solo h.n) ∧ h'.ob (h.n + 1) = rdP (h.n + 1) s (itV s (nmN s (0, false)) a.1).1 ∧ h'.ob (h.n + 2) = .cells [a.2, .slice none 0 0, .string ⟨#[]⟩] .solo (h.n + 2) ∧ Gr (h.n + 3) h' a.2 2 ((itV s (nmN s (0, false)) a.1).2.map Var.enc).flatten ∧ Pre h h') (fun a => 100 - a.1) (0, .slice none 0 0) (by kernel_rfl) ⟨⟨⟨Nat.zero_le _, Nat.zero_le _, fun j hj => absurd hj (Nat.not_lt_zero j)⟩, Nat.le_refl _, ?_⟩, ?_, ?_, Gr.nil _ _ _ _, ?_⟩ ?_
  · simp only [set_ne _ (show h.n ≠ h.n + 1 by omega), set_ne _ (show h.n ≠ h.n + 2 by omega)]
    exact (alloc_lt _ (by show h.n < h.n + 2; omega)).trans ((alloc_lt _ (by show h.n < h.n + 1; omega)).trans (alloc_same _))
  · simp -implicitDefEqProofs only [push_cast, seval]
    rfl
  · simp -implicitDefEqProofs only [push_cast, seval]
  · refine Pre.set (Pre.set ((((Pre.refl _).alloc _).alloc _).alloc _) ?_ _) ?_ _ <;> omega
  intro a g h1 hJ
  have hi := hJ.1.1.1
  have hj := hJ.1.1.2.1
  have hall := hJ.1.1.2.2
  have hn := hJ.1.2.1
  have o0 := hJ.1.2.2
  have o1 := hJ.2.1
  have o2 := hJ.2.2.1
  have hg := hJ.2.2.2.1
  have hp := hJ.2.2.2.2
  clear hJ
  generalize hL : itV s (nmN s (0, false)) a.1 = L at *
  simp only [rdP] at o1
  have k1 : h.n + 1 < h1.n := by omega
  have k2 : h.n + 2 < h1.n := by omega
  simp -implicitDefEqProofs only [push_cast, seval, rd_of o1, rd1_of o1, o1, k1]
  with_reducible refine bcase_d (fun hb1 => ?_) (fun hb1 => ?_)
  rotate_left
  have hs' : ¬ (a.1 < N ∧ a.1 < 100 ∧ L.1.2 = false) := fun e => by omega
  simp -implicitDefEqProofs only [push_cast, seval]
  rotate_left
  simp -implicitDefEqProofs only [push_cast, seval]
  with_reducible refine bcase_d (fun hb2 => ?_) (fun hb2 => ?_)
  rotate_left
  have hs' : ¬ (a.1 < N ∧ a.1 < 100 ∧ L.1.2 = false) := fun e => by omega
  simp -implicitDefEqProofs only [push_cast, seval]
  rotate_left 2
  simp -implicitDefEqProofs only [push_cast, seval, rd_of o1, rd1_of o1, o1, k1]
  cases hb3 : L.1.2
  rotate_left
  have hs' : ¬ (a.1 < N ∧ a.1 < 100 ∧ L.1.2 = false) := fun e => by rw [hb3] at e; simp at e
  simp -implicitDefEqProofs only [push_cast, seval, rd_of o1, rd1_of o1, o1, k1, hb3]
  rotate_left 3
  · simp -implicitDefEqProofs only [push_cast, seval, rd_of o1, rd1_of o1, o1, k1, hb3]
    have o1' : h1.ob (h.n + 1) = rdP (h.n + 1) s L.1 := o1
    with_reducible refine CD.to (l07Short_p (h.n + 1) s L.1 hs _ o1') ?_
    simp -implicitDefEqProofs only [push_cast, seval, k1, k2]
    with_reducible refine CD.to (l07Short_p (h.n + 1) s (shN s L.1) hs _ (by simp only [set_ne _ (show h.n + 1 ≠ h1.n by omega)]; exact (alloc_lt (h := h1.set _ _) _ k1).trans (set_same _ _))) ?_
    simp -implicitDefEqProofs only [push_cast, seval, k1, k2, rd_of o2, rd1_of o2, o2, zl2]
    have hf : ((L.2.map Var.enc).flatten).length = L.2.length * 2 := flat_len (k := 2) _ (fun _ => rfl)
    have hl : (itV s (nmN s (0, false)) a.1).2.length = a.1 := itV_len _ _ _
    rw [hL] at hl
    refine Gr.app1 (h0 := h) si48 (by decide) (by decide) (notInt_sl und48) ((hg.mono (by omega)).keep (Nat.le_succ h1.n) (fun i hi => fiveS_ob _ _ _ _ _ (by have := hg.range hi; omega) (hg.range hi).2)) (fiveS_pre _ _ _ _ _ hp (by omega)) rfl ?_ (by decide) (fun h' gr ow p' hn' he => ?_)
    · rw [hf]; omega
    have q0 : h'.ob h.n = _ := ((he _ (show h.n < h1.n + 1 by omega) (hg.not_low (by omega))).trans (fiveS_ob _ _ _ _ _ (by omega) (by omega))).trans o0
    have q1 : h'.ob (h.n + 1) = rdP (h.n + 1) s (shN s (shN s L.1)) := (he _ (show h.n + 1 < h1.n + 1 by omega) (hg.not_low (by omega))).trans (fiveS_at _ _ _ _ _ k1)
    have q2 : h'.ob (h.n + 2) = _ := ((he _ (show h.n + 2 < h1.n + 1 by omega) (hg.not_low (by omega))).trans (fiveS_ob _ _ _ _ _ (by omega) k2)).trans o2
    have k4 : h'.n = h1.n + 1 + 2 := hn'
    have k3 : h.n + 2 < h'.n := by omega
    simp -implicitDefEqProofs only [push_cast, seval, k3, rd_of q2, rd1_of q2, q2]
    rw [wrapSucc (by omega)]
    refine ⟨(a.1 + 1, .slice (some ⟨h1.n + 2, 0, none⟩) (((L.2.map Var.enc).flatten).length / 2 + 1) 2), by kernel_rfl, ⟨⟨⟨by show a.1 + 1 ≤ 100; omega, by show a.1 + 1 ≤ N; omega, ?_⟩, by show h.n + 3 ≤ h'.n; omega, ?_⟩, ?_, ?_, ?_, ?_⟩, by show 100 - (a.1 + 1) < 100 - a.1; omega⟩
    · intro j hj
      by_cases e : j = a.1
      · rw [e, hL]; exact hb3
      · exact hall j (by have hj' : j < a.1 + 1 := hj; omega)
    · exact q0
    · show h'.ob (h.n + 1) = rdP (h.n + 1) s (itV s (nmN s (0, false)) (a.1 + 1)).1
      rw [q1, itV, hL]
    · rfl
    · show Gr (h.n + 3) (h'.set (h.n + 2) _) _ 2 ((itV s (nmN s (0, false)) (a.1 + 1)).2.map Var.enc).flatten
      rw [itV, hL, flat_snoc]
      exact .inr ⟨_, _, _, rfl, by show h.n + 3 ≤ h1.n + 1 + 1; omega, ow.same (set_ne _ (by show h1.n + 1 + 1 ≠ h.n + 2; omega)) (Nat.le_refl _)⟩
    · exact p'.set (by omega) _
  all_goals
    have o1' : h1.ob (h.n + 1) = rdP (h.n + 1) s L.1 := o1
    with_reducible refine CD.to (l07Var_q (h.n + 1) s L.1 hs _ o1') ?_
    simp -implicitDefEqProofs only [push_cast, seval]
    generalize hM : nmV s L.1 = M
    refine WC.loopA (by kernel_rfl) [9] [10, 49, 50, 51, 52, 53, 54, 55, 56, 57, 58, 59, 60, 61, 62, 63, 64, 65, 66, 67, 68, 69, 70, 71, 72, 73, 74, 75, 76, 77, 78, 79] (fun c : Nat × Value => [.int .i64 (c.1 : Nat)]) (fun c h' => ((c.1 ≤ 2100 ∧ c.1 ≤ M ∧ ∀ j, j < c.1 → (itC s (nmN s L.1) j).1.2 = false) ∧ h1.n ≤ h'.n) ∧ h'.ob (h.n + 1) = rdP (h.n + 1) s (itC s (nmN s L.1) c.1).1 ∧ h'.ob (h.n + 2) = .cells [a.2, c.2, .string ⟨#[]⟩] .solo (h.n + 2) ∧ Gr h1.n h' c.2 3 ((itC s (nmN s L.1) c.1).2.map Cell.enc).flatten ∧ (∀ i, i < h1.n → i ≠ h.n + 1 → i ≠ h.n + 2 → h'.ob i = h1.ob i)) (fun c => 2100 - c.1) (0, .slice none 0 0) (by kernel_rfl) ⟨⟨⟨Nat.zero_le _, Nat.zero_le _, fun j hj => absurd hj (Nat.not_lt_zero j)⟩, Nat.le_refl _⟩, ?_, ?_, Gr.nil _ _ _ _, ?_⟩ ?_
    · exact set_same _ _
    · exact (set_ne _ (by omega)).trans o2
    · intro i _ h1' _
      exact set_ne _ h1'
    intro c g2 h2 hJ
    have ci := hJ.1.1.1
    have cj := hJ.1.1.2.1
    have call := hJ.1.1.2.2
    have cn := hJ.1.2
    have u1 := hJ.2.1
    have u2 := hJ.2.2.1
    have cg := hJ.2.2.2.1
    have ck := hJ.2.2.2.2
    clear hJ
    generalize hC : itC s (nmN s L.1) c.1 = C at *
    have cp : Pre h h2 := ⟨by omega, fun i hi => (ck i (by omega) (by omega) (by omega)).trans (hp.ob i hi)⟩
    simp only [rdP] at u1
    have m1 : h.n + 1 < h2.n := by omega
    have m2 : h.n + 2 < h2.n := by omega
    simp -implicitDefEqProofs only [push_cast, seval, rd_of u1, rd1_of u1, u1, m1]
    with_reducible refine bcase_d (fun hc1 => ?_) (fun hc1 => ?_)
    rotate_left
    have hs2 : ¬ (c.1 < M ∧ c.1 < 2100 ∧ C.1.2 = false) := fun e => by omega
    simp -implicitDefEqProofs only [push_cast, seval]
    rotate_left
    simp -implicitDefEqProofs only [push_cast, seval]
    with_reducible refine bcase_d (fun hc2 => ?_) (fun hc2 => ?_)
    rotate_left
    have hs2 : ¬ (c.1 < M ∧ c.1 < 2100 ∧ C.1.2 = false) := fun e => by omega
    simp -implicitDefEqProofs only [push_cast, seval]
    rotate_left 2
    simp -implicitDefEqProofs only [push_cast, seval, rd_of u1, rd1_of u1, u1, m1]
    cases hc3 : C.1.2
    rotate_left
    have hs2 : ¬ (c.1 < M ∧ c.1 < 2100 ∧ C.1.2 = false) := fun e => by rw [hc3] at e; simp at e
    simp -implicitDefEqProofs only [push_cast, seval, rd_of u1, rd1_of u1, u1, m1, hc3]
    rotate_left 3
    · simp -implicitDefEqProofs only [push_cast, seval, rd_of u1, rd1_of u1, u1, m1, hc3]
      have u1' : h2.ob (h.n + 1) = rdP (h.n + 1) s C.1 := u1
      with_reducible refine CD.to (l07Short_p (h.n + 1) s C.1 hs _ u1') ?_
      simp -implicitDefEqProofs only [push_cast, seval, m1, m2]
      with_reducible refine CD.to (l07Short_p (h.n + 1) s (shN s C.1) hs _ (by simp only [set_ne _ (show h.n + 1 ≠ h2.n by omega)]; exact (alloc_lt (h := h2.set _ _) _ m1).trans (set_same _ _))) ?_
      simp -implicitDefEqProofs only [push_cast, seval, m1, m2]
      with_reducible refine CD.to (l07Short_p (h.n + 1) s (shN s (shN s C.1)) hs _ (by simp only [set_ne _ (show h.n + 1 ≠ h2.n by omega), set_same])) ?_
      simp -implicitDefEqProofs only [push_cast, seval, m1, m2, rd_of u2, rd1_of u2, u2, zl3]
      have hl : (itC s (nmN s L.1) c.1).2.length = c.1 := itC_len _ _ _
      rw [hC] at hl
      have hf : ((C.2.map Cell.enc).flatten).length = C.2.length * 3 := flat_len (k := 3) _ (fun _ => rfl)
      refine Gr.app1 (h0 := h) si49 (by decide) (by decide) (notInt_sl und49) ((cg.mono (by omega)).keep (Nat.le_succ h2.n) (fun i hi => sevenS_ob _ _ _ _ _ _ _ (by have := cg.range hi; omega) (cg.range hi).2)) (sevenS_pre _ _ _ _ _ _ _ cp (by omega)) rfl ?_ (by decide) (fun h' gr ow p' hn' he => ?_)
      · rw [hf]; omega
      have q1 : h'.ob (h.n + 1) = rdP (h.n + 1) s (shN s (shN s (shN s C.1))) := (he _ (show h.n + 1 < h2.n + 1 by omega) (cg.not_low (by omega))).trans (sevenS_at _ _ _ _ _ _ _ m1)
      have q2 : h'.ob (h.n + 2) = _ := ((he _ (show h.n + 2 < h2.n + 1 by omega) (cg.not_low (by omega))).trans (sevenS_ob _ _ _ _ _ _ _ (by omega) m2)).trans u2
      have qk : ∀ i, i < h1.n → i ≠ h.n + 1 → i ≠ h.n + 2 → h'.ob i = h1.ob i := fun i a1 a2 a3 => ((he i (show i < h2.n + 1 by omega) (cg.not_low a1)).trans (sevenS_ob _ _ _ _ _ _ _ a2 (by omega))).trans (ck i a1 a2 a3)
      have k4 : h'.n = h2.n + 1 + 2 := hn'
      have k3 : h.n + 2 < h'.n := by omega
      simp -implicitDefEqProofs only [push_cast, seval, k3, rd_of q2, rd1_of q2, q2]
      rw [wrapSucc (by omega)]
      refine ⟨(c.1 + 1, .slice (some ⟨h2.n + 2, 0, none⟩) (((C.2.map Cell.enc).flatten).length / 3 + 1) 3), by kernel_rfl, ⟨⟨⟨by show c.1 + 1 ≤ 2100; omega, by show c.1 + 1 ≤ M; omega, ?_⟩, by show h1.n ≤ h'.n; omega⟩, ?_, ?_, ?_, ?_⟩, by show 2100 - (c.1 + 1) < 2100 - c.1; omega⟩
      · intro j hj
        by_cases e : j = c.1
        · rw [e, hC]; exact hc3
        · exact call j (by have hj' : j < c.1 + 1 := hj; omega)
      · show h'.ob (h.n + 1) = rdP (h.n + 1) s (itC s (nmN s L.1) (c.1 + 1)).1
        rw [q1, itC, hC]
      · rfl
      · show Gr h1.n (h'.set (h.n + 2) _) _ 3 ((itC s (nmN s L.1) (c.1 + 1)).2.map Cell.enc).flatten
        rw [itC, hC, flat_snoc]
        exact .inr ⟨_, _, _, rfl, by show h1.n ≤ h2.n + 2; omega, ow.same (set_ne _ (by show h2.n + 1 + 1 ≠ h.n + 2; omega)) (Nat.le_refl _)⟩
      · intro i a1 a2 a3
        exact (set_ne _ a3).trans (qk i a1 a2 a3)
    all_goals
      have u1' : h2.ob (h.n + 1) = rdP (h.n + 1) s C.1 := u1
      have m0 : h.n < h2.n := by omega
      with_reducible refine CD.to (l07Short_p (h.n + 1) s C.1 hs _ u1') ?_
      simp -implicitDefEqProofs only [push_cast, seval, m0, m1, m2, rd_of u2, rd1_of u2, u2]
      have w0 : h2.ob h.n = _ := (ck h.n (by omega) (by omega) (by omega)).trans o0
      have ga := hg.read (by decide) (fun _ => rfl)
      have gc := cg.read (by decide) (fun _ => rfl)
      with_reducible refine Exists.elim ga (fun A ga => ?_)
      with_reducible refine Exists.elim ga (fun cA ga => ?_)
      with_reducible refine Exists.elim gc (fun B gc => ?_)
      with_reducible refine Exists.elim gc (fun cB gc => ?_)
      have mx := maxLen_eq
      have hz : Sz ⟨L.2, C.2, shT s C.1⟩ := ⟨fun x hx => by have := itV_size s (nmN s (0, false)) a.1 x (by rw [hL]; exact hx); omega, fun x hx => by have := itC_size s (nmN s L.1) c.1 x (by rw [hC]; exact hx); omega, by have := shT_size s C.1; show (shT s C.1).size ≤ maxLen; omega, by show L.2.length < _; rw [← hL, itV_len]; omega, by show C.2.length < _; rw [← hC, itC_len]; omega⟩
      have hO := StoreText_s ⟨L.2, C.2, shT s C.1⟩ A B cA cB ((h2.set (h.n + 1) (rdP (h.n + 1) s (shN s C.1))).set (h.n + 2) (AOb.cells [a.2, c.2, .string (shT s C.1)] .solo (h.n + 2))) ⟨ga.2 _ (fun i a1 a2 => (set_ne _ (by omega)).trans ((set_ne _ (by omega)).trans (ck i a2 (by omega) (by omega)))), gc.2 _ (fun i a1 a2 => (set_ne _ (by omega)).trans (set_ne _ (by omega)))⟩ hz
      simp only [← ga.1, ← gc.1] at hO
      with_reducible refine CD.to hO ?_
      simp -implicitDefEqProofs only [push_cast, seval, m0, m1, m2, w0, rd_of w0, rdP]
      have hst : Stops s a.1 c.1 := ⟨hi, by rw [hN]; exact hj, hall, by rw [hN, hL]; exact hs', ci, by rw [hL, hM]; exact cj, by rw [hL]; exact call, by rw [hL, hM, hC]; exact hs2⟩
      have eSt : sStore s a.1 c.1 = ⟨L.2, C.2, shT s C.1⟩ := by simp only [sStore, hL, hC]
      have eEn : sEnd s a.1 c.1 = shN s C.1 := by simp only [sEnd, hL, hC]
      cases hd1 : (shN s C.1).2
      rotate_left
      · have eO : sOk s a.1 c.1 = false := by rw [sOk, eEn, hd1]; rfl
        simp -implicitDefEqProofs only [push_cast, seval, m0, m1, m2, w0, rd_of w0, rdP, hd1]
        repeat' (first | with_reducible (first | exact Keep.refl _ _ | assumption | exact byte_lt _ _ | apply Keep.alloc | (refine Keep.set ?_ ?_; rotate_left; · omega) | apply Pre.alloc | apply Pre.set | exact Pre.refl _ | exact le_alloc _ | (refine Pre.keep ?_; assumption) | (refine Pre.n ?_; assumption)) | ((with_reducible (first | refine bcase_d (fun hb => ?_) (fun hb => ?_) | refine bcase_mk (fun hb => ?_) (fun hb => ?_))) <;> try simp -implicitDefEqProofs only [push_cast, seval, m0, m1, m2, w0, rd_of w0, rdP, hd1]) | with_reducible refine And.intro ?_ ?_ | omega | (simp only [alloc_n, set_n, kill_n]; omega) | (exfalso; omega))
        refine ⟨.slice none 0 0, .slice none 0 0, a.1, c.1, hst, ?_⟩
        rw [eO]
        exact ⟨rfl, OwnS.zero _ _, ((cp.set (by omega) _).set (by omega) _).set (Nat.le_refl _) _⟩
      · simp -implicitDefEqProofs only [push_cast, seval, m0, m1, m2, w0, rd_of w0, rdP, hd1]
        repeat' (first | with_reducible (first | exact Keep.refl _ _ | assumption | exact byte_lt _ _ | apply Keep.alloc | (refine Keep.set ?_ ?_; rotate_left; · omega) | apply Pre.alloc | apply Pre.set | exact Pre.refl _ | exact le_alloc _ | (refine Pre.keep ?_; assumption) | (refine Pre.n ?_; assumption)) | ((with_reducible (first | refine bcase_d (fun hb => ?_) (fun hb => ?_) | refine bcase_mk (fun hb => ?_) (fun hb => ?_))) <;> try simp -implicitDefEqProofs only [push_cast, seval, m0, m1, m2, w0, rd_of w0, rdP, hd1]) | with_reducible refine And.intro ?_ ?_ | omega | (simp only [alloc_n, set_n, kill_n]; omega) | (exfalso; omega))
        all_goals first
          | (rw [ga.1, gc.1]; simp [Sim.one]; done)
          | (have eK : sOk s a.1 c.1 = true := by
               rw [sOk, eEn, eSt, hd1]; simp_all
             refine ⟨a.2, c.2, a.1, c.1, hst, ?_⟩
             rw [eK, if_pos rfl, eSt]
             refine ⟨rfl, ⟨h1.n, by omega, ?_, fun i e => (hg.range e).2, ?_⟩, ?_⟩
             · exact (hg.mono (by omega)).keep cn (fun i e => by have := hg.range e; rw [set_ne _ (by omega), set_ne _ (by omega), set_ne _ (by omega)]; exact ck i (by omega) (by omega) (by omega))
             · exact cg.keep (Nat.le_refl _) (fun i e => by have := cg.range e; rw [set_ne _ (by omega), set_ne _ (by omega), set_ne _ (by omega)])
             · exact ((cp.set (by omega) _).set (by omega) _).set (Nat.le_refl _) _)
          | (have eK : sOk s a.1 c.1 = false := by
               rw [sOk, eEn, eSt, hd1]; simp_all
             refine ⟨.slice none 0 0, .slice none 0 0, a.1, c.1, hst, ?_⟩
             rw [eK]
             exact ⟨rfl, OwnS.zero _ _, ((cp.set (by omega) _).set (by omega) _).set (Nat.le_refl _) _⟩)
end Go.Proofs.Ytfbcedjheempfaa
/- Stores read back. Conditions: those that each theorem names. -/
set_option linter.unusedSimpArgs false
set_option linter.unusedVariables false
namespace Go.Sim
/-- A short text that was read is what lies there. -/
theorem rs_short {s : ByteArray} {a : Nat} {p : Nat × Nat} (h : rs s (a : Nat) = some p) : short (s.extract p.2 (p.2 + p.1)) = s.extract a (p.2 + p.1) ∧ a ≤ p.2 + p.1 ∧ p.2 + p.1 ≤ s.size := by
  have h1 := rs_some h
  have h2 := rv_some h1.1
  have h3 := rv_vt h1.1
  have hz : (s.extract p.2 (p.2 + p.1)).size = p.1 := by simp only [ByteArray.size_extract]; omega
  refine ⟨?_, by omega, h1.2.2⟩
  rw [short, hz, h3, extract_app s a p.2 (p.2 + p.1) (by omega) (by omega)]
end Go.Sim
namespace Go.Proofs.Ytfbcedjheempfaa
open Go Go.Sim Go.Proofs
set_option linter.unusedSimpArgs false
set_option linter.unusedVariables false
theorem shN_bad {s : ByteArray} {r : Nat × Bool} (h : r.2 = true) : (shN s r).2 = true := by simp [shN, h]
theorem shN_good {s : ByteArray} {r : Nat × Bool} (h : (shN s r).2 = false) : r.2 = false := by
  cases e : r.2 with
  | false => rfl
  | true => rw [shN_bad e] at h; cases h
theorem sh_back {s : ByteArray} {r : Nat × Bool} (h : (shN s r).2 = false) : short (shT s r) = s.extract r.1 (shN s r).1 ∧ r.1 ≤ (shN s r).1 ∧ (shN s r).1 ≤ s.size := by
  have hr := shN_good h
  unfold shN at h
  simp only [hr, Bool.false_eq_true, if_false] at h
  cases hq : rs s r.1 with
  | none => rw [hq] at h; cases h
  | some p =>
    have := rs_short hq
    simpa [shT, shN, hr, hq, sT, nxT] using this
theorem itV_good {s : ByteArray} {r : Nat × Bool} : ∀ {i : Nat}, (itV s r i).1.2 = false → r.2 = false ∧ ∀ j, j ≤ i → (itV s r j).1.2 = false
  | 0, h => ⟨h, fun j hj => by have : j = 0 := by omega
                               subst this; exact h⟩
  | i + 1, h => by
    have h1 := itV_good (i := i) (shN_good (shN_good h))
    exact ⟨h1.1, fun j hj => by
      by_cases e : j = i + 1
      · subst e; exact h
      · exact h1.2 j (by omega)⟩
theorem itC_good {s : ByteArray} {r : Nat × Bool} : ∀ {i : Nat}, (itC s r i).1.2 = false → r.2 = false ∧ ∀ j, j ≤ i → (itC s r j).1.2 = false
  | 0, h => ⟨h, fun j hj => by have : j = 0 := by omega
                               subst this; exact h⟩
  | i + 1, h => by
    have h1 := itC_good (i := i) (shN_good (shN_good (shN_good h)))
    exact ⟨h1.1, fun j hj => by
      by_cases e : j = i + 1
      · subst e; exact h
      · exact h1.2 j (by omega)⟩
theorem extract_self (s : ByteArray) (a : Nat) : s.extract a a = ⟨#[]⟩ := by
  apply ByteArray.ext
  simp
theorem itV_text {s : ByteArray} {r : Nat × Bool} (hr : r.1 ≤ s.size) : ∀ {i : Nat}, (itV s r i).1.2 = false → cat ((itV s r i).2.map Var.txt) = s.extract r.1 (itV s r i).1.1 ∧ r.1 ≤ (itV s r i).1.1 ∧ (itV s r i).1.1 ≤ s.size
  | 0, h => ⟨by simp only [itV, extract_self]; rfl, Nat.le_refl _, hr⟩
  | i + 1, h => by
    have g1 := shN_good h
    have b2 := sh_back h
    have b1 := sh_back g1
    have ih := itV_text hr (i := i) (shN_good g1)
    simp only [itV, List.map_append, List.map_cons, List.map_nil, cat_snoc, Var.txt]
    rw [ih.1, b1.1, b2.1, extract_app s _ _ _ b1.2.1 b2.2.1, extract_app s _ _ _ ih.2.1 (by omega)]
    exact ⟨rfl, by omega, b2.2.2⟩
theorem itC_text {s : ByteArray} {r : Nat × Bool} (hr : r.1 ≤ s.size) : ∀ {i : Nat}, (itC s r i).1.2 = false → cat ((itC s r i).2.map Cell.txt) = s.extract r.1 (itC s r i).1.1 ∧ r.1 ≤ (itC s r i).1.1 ∧ (itC s r i).1.1 ≤ s.size
  | 0, h => ⟨by simp only [itC, extract_self]; rfl, Nat.le_refl _, hr⟩
  | i + 1, h => by
    have g2 := shN_good h
    have g1 := shN_good g2
    have b3 := sh_back h
    have b2 := sh_back g2
    have b1 := sh_back g1
    have ih := itC_text hr (i := i) (shN_good g1)
    simp only [itC, List.map_append, List.map_cons, List.map_nil, cat_snoc, Cell.txt]
    rw [ih.1, b1.1, b2.1, b3.1, extract_app s _ _ _ b1.2.1 b2.2.1, extract_app s _ _ _ (by omega) b3.2.1, extract_app s _ _ _ ih.2.1 (by omega)]
    exact ⟨rfl, by omega, b3.2.2⟩
theorem nm_back {s : ByteArray} {r : Nat × Bool} (h : (nmN s r).2 = false) : r.2 = false ∧ vt (nmV s r : Nat) = s.extract r.1 (nmN s r).1 ∧ r.1 ≤ (nmN s r).1 ∧ (nmN s r).1 ≤ s.size := by
  unfold nmN nmV at *
  cases hr : r.2 with
  | true => simp [hr] at h
  | false =>
    simp only [hr, Bool.false_eq_true, if_false] at h ⊢
    cases hq : rv s r.1 with
    | none => rw [hq] at h; cases h
    | some p =>
      have h3 := rv_vt hq
      have h2 := rv_some hq
      simp only [oN, nxN, Int.toNat_natCast]
      exact ⟨trivial, h3, by omega, h2.2.2.2⟩
theorem s_text {s : ByteArray} {K1 K2 : Nat} (h : (sEnd s K1 K2).2 = false) :
    vt (nmV s (0, false) : Nat) ++ cat ((sStore s K1 K2).vars.map Var.txt) ++ vt (nmV s (itV s (nmN s (0, false)) K1).1 : Nat) ++ cat ((sStore s K1 K2).cells.map Cell.txt) ++ short (sStore s K1 K2).out = s.extract 0 (sEnd s K1 K2).1 ∧ (sEnd s K1 K2).1 ≤ s.size ∧
    (∀ j, j ≤ K1 → (itV s (nmN s (0, false)) j).1.2 = false) ∧ (∀ j, j ≤ K2 → (itC s (nmN s (itV s (nmN s (0, false)) K1).1) j).1.2 = false) ∧ (nmN s (0, false)).2 = false ∧ (nmN s (itV s (nmN s (0, false)) K1).1).2 = false := by
  unfold sEnd at h ⊢
  have b5 := sh_back h
  have gC := shN_good h
  have kC := itC_good gC
  have b3 := nm_back kC.1
  have kV := itV_good b3.1
  have b1 := nm_back kV.1
  have t2 := itV_text b1.2.2.2 b3.1
  have t4 := itC_text b3.2.2.2 gC
  simp only [sStore]
  refine ⟨?_, b5.2.2, kV.2, kC.2, kV.1, kC.1⟩
  rw [b1.2.1, t2.1, b3.2.1, t4.1, b5.1, extract_app s _ _ _ b1.2.2.1 t2.2.1, extract_app s _ _ _ (by omega) b3.2.2.1, extract_app s _ _ _ (by omega) t4.2.1, extract_app s _ _ _ (by omega) b5.2.1]
theorem ct_le {s : ByteArray} {most : Nat} {r : Nat × Bool} (h : nmV s r ≤ most) : ctM s most r = nmV s r ∧ ctN s most r = nmN s r := by
  unfold ctM ctV ctN nmN
  rw [nmV_eq, if_neg (by omega), decide_eq_false (by omega), Bool.or_false]
  exact ⟨rfl, rfl⟩
theorem ct_good {s : ByteArray} {most : Nat} {r : Nat × Bool} (h : (ctN s most r).2 = false) : nmV s r ≤ most := by
  unfold ctN at h
  rw [nmV_eq] at h
  simp only [Bool.or_eq_false_iff, decide_eq_false_iff_not] at h
  omega
theorem same_read {s : ByteArray} {K1 K2 : Nat} (e1 : K1 = nmV s (0, false)) (l1 : K1 ≤ 60) (e2 : K2 = nmV s (itV s (nmN s (0, false)) K1).1) (l2 : K2 ≤ 2000) : iStore s = sStore s K1 K2 ∧ shN s (iC s).1 = sEnd s K1 K2 := by
  have c1 := ct_le (most := 60) (show nmV s (0, false) ≤ 60 by omega)
  have eL : iL s = itV s (nmN s (0, false)) K1 := by
    rw [iL, show (60 : Int) = ((60 : Nat) : Int) from rfl, c1.1, c1.2, e1]
  have c2 := ct_le (most := 2000) (show nmV s (itV s (nmN s (0, false)) K1).1 ≤ 2000 by omega)
  have eC : iC s = itC s (nmN s (itV s (nmN s (0, false)) K1).1) K2 := by
    rw [iC, eL, show (2000 : Int) = ((2000 : Nat) : Int) from rfl, c2.1, c2.2, ← e2]
  exact ⟨by rw [iStore, sStore, eL, eC], by rw [sEnd, eC]⟩
theorem read_agree {s : ByteArray} {K1 K2 : Nat} (st : Stops s K1 K2) : sOk s K1 K2 = iOk s ∧ (iOk s = true → sStore s K1 K2 = iStore s) := by
  have key : (sOk s K1 K2 = true ∨ iOk s = true) → sOk s K1 K2 = true ∧ iOk s = true ∧ sStore s K1 K2 = iStore s := by
    intro hh
    have facts : K1 = nmV s (0, false) ∧ K1 ≤ 60 ∧ K2 = nmV s (itV s (nmN s (0, false)) K1).1 ∧ K2 ≤ 2000 := by
      rcases hh with h | h
      · simp only [sOk, Bool.and_eq_true, Bool.not_eq_true', decide_eq_true_eq] at h
        have t := s_text h.1
        have l := storeOk_len h.2.1
        simp only [sStore, itV_len, itC_len] at l
        have a4 := st.a4
        have b4 := st.b4
        have a2 := st.a2
        have b2 := st.b2
        have g1 := t.2.2.1 K1 (Nat.le_refl _)
        have g2 := t.2.2.2.1 K2 (Nat.le_refl _)
        refine ⟨?_, l.1, ?_, l.2.1⟩
        · by_cases e : K1 < nmV s (0, false)
          · exact absurd ⟨e, by omega, g1⟩ a4
          · omega
        · by_cases e : K2 < nmV s (itV s (nmN s (0, false)) K1).1
          · exact absurd ⟨e, by omega, g2⟩ b4
          · omega
      · simp only [iOk, Bool.and_eq_true, Bool.not_eq_true', decide_eq_true_eq] at h
        have gC := shN_good h.1.1
        have kC := itC_good gC
        have n2 : nmV s (iL s).1 ≤ 2000 := ct_good (most := 2000) kC.1
        have c2 := ct_le n2
        have b3 := nm_back (c2.2 ▸ kC.1)
        have kV := itV_good b3.1
        have n1 : nmV s (0, false) ≤ 60 := ct_good (most := 60) kV.1
        have c1 := ct_le n1
        have eL : iL s = itV s (nmN s (0, false)) (nmV s (0, false)) := by
          rw [iL, show (60 : Int) = ((60 : Nat) : Int) from rfl, c1.1, c1.2]
        have a2 := st.a2
        have e1 : K1 = nmV s (0, false) := by
          by_cases e : K1 < nmV s (0, false)
          · refine absurd ⟨e, by omega, ?_⟩ st.a4
            have := kV.2 K1 (by rw [show (60 : Int) = ((60 : Nat) : Int) from rfl, c1.1]; omega)
            rw [show (60 : Int) = ((60 : Nat) : Int) from rfl, c1.2] at this
            exact this
          · omega
        have eL' : itV s (nmN s (0, false)) K1 = iL s := by rw [eL, e1]
        have b2 := st.b2
        have b4 := st.b4
        rw [eL'] at b2 b4 ⊢
        refine ⟨e1, by omega, ?_, by omega⟩
        by_cases e : K2 < nmV s (iL s).1
        · refine absurd ⟨e, by omega, ?_⟩ b4
          have := kC.2 K2 (by rw [show (2000 : Int) = ((2000 : Nat) : Int) from rfl, c2.1]; omega)
          rw [show (2000 : Int) = ((2000 : Nat) : Int) from rfl, c2.2] at this
          exact this
        · omega
    have sm := same_read facts.1 facts.2.1 facts.2.2.1 facts.2.2.2
    have txt : (sEnd s K1 K2).2 = false → storeT (sStore s K1 K2) = s.extract 0 (sEnd s K1 K2).1 ∧ (sEnd s K1 K2).1 ≤ s.size := fun h => by
      have t := s_text h
      have v1 : (sStore s K1 K2).vars.length = nmV s (0, false) := by rw [← facts.1]; exact itV_len _ _ _
      have v2 : (sStore s K1 K2).cells.length = nmV s (itV s (nmN s (0, false)) K1).1 := by rw [← facts.2.2.1]; exact itC_len _ _ _
      refine ⟨?_, t.2.1⟩
      rw [← t.1, storeT, varsT_all, cellsT_all, v1, v2]
    rcases hh with h | h
    · refine ⟨h, ?_, sm.1.symm⟩
      simp only [sOk, Bool.and_eq_true, Bool.not_eq_true', decide_eq_true_eq] at h
      have t := txt h.1
      rw [h.2.2] at t
      have hz := congrArg ByteArray.size t.1
      simp only [ByteArray.size_extract] at hz
      simp only [iOk, Bool.and_eq_true, Bool.not_eq_true', decide_eq_true_eq, sm.1, sm.2]
      exact ⟨⟨h.1, by omega⟩, h.2.1⟩
    · refine ⟨?_, h, sm.1.symm⟩
      simp only [iOk, Bool.and_eq_true, Bool.not_eq_true', decide_eq_true_eq, sm.1, sm.2] at h
      have t := txt h.1.1
      simp only [sOk, Bool.and_eq_true, Bool.not_eq_true', decide_eq_true_eq]
      refine ⟨h.1.1, h.2, ?_⟩
      rw [t.1, show (sEnd s K1 K2).1 = s.size by omega, extract_all]
  cases hs : sOk s K1 K2 <;> cases hi : iOk s <;> simp_all
end Go.Proofs.Ytfbcedjheempfaa
/- Lines of slices that grow: what a heap that stands for a world tells of them; writes into one's own slices. Conditions: those that each theorem names. -/
set_option linter.unusedVariables false
set_option linter.unusedSimpArgs false
namespace Go.Sim
variable {P : Program} {h : AH}

structure Fit (h : AH) : Prop where
  tipu : ∀ i j ci cj n, h.ob i = .cells ci .tip n → h.ob j = .cells cj .tip n → i = j
  solo : ∀ i cs n, h.ob i = .cells cs .solo n → n = i ∧ ∀ j, (h.ob j).own = some i → j = i
theorem CC.withFit {f : FuncId} {args : List Value} {R : Value → AH → Prop} (hc : Fit h → CC P f args h R) : CC P f args h R := fun FB w0 μ w cargs o a K Q s => hc ⟨s.tipu, s.solo⟩ FB w0 μ w cargs o a K Q s
/-- What stands in an object that one may write: its line. -/
structure Line (h : AH) (i ln : Nat) : Prop where
  ob : ∃ all st, h.ob i = .cells all st ln ∧ (st = .solo ∨ st = .tip)
theorem Fit.ne (f : Fit h) {i j li lj : Nat} (a : Line h i li) (b : Line h j lj) (hij : i ≠ j) : (h.ob j).own ≠ some li := by
  obtain ⟨ca, sa, ea, ha⟩ := a.ob
  obtain ⟨cb, sb, eb, hb⟩ := b.ob
  rw [eb]
  intro e
  have e2 : lj = li := by
    rcases hb with rfl | rfl <;> simpa [AOb.own] using e
  subst e2
  rcases ha with rfl | rfl
  · have := f.solo i ca lj ea
    exact hij (this.2 j (by rw [eb]; rcases hb with rfl | rfl <;> simp [AOb.own, this.1])).symm
  · rcases hb with rfl | rfl
    · have := f.solo j cb lj eb
      exact hij (this.2 i (by rw [ea]; simp [AOb.own, this.1]))
    · exact hij (f.tipu i j ca cb lj ea eb)
/-- One's own slice is written in place. -/
theorem wrO_own {i ln off : Nat} {all : List Value} {st : Stat} (e : h.ob i = .cells all st ln) (hs : st = .solo ∨ st = .tip) (vs : List Value) (hb : off + vs.length ≤ all.length) :
    ∃ h', wrO h i (h.ob i) off vs = some h' ∧ h'.n = h.n ∧ h'.ob i = .cells (putL all off vs) st ln ∧ ∀ j, j ≠ i → (h.ob j).own ≠ some ln → h'.ob j = h.ob j := by
  rw [e]
  rcases hs with rfl | rfl
  · refine ⟨h.set i (.cells (putL all off vs) .solo ln), by rw [wrO_solo, if_pos hb], rfl, set_same _ _, fun j hj _ => set_ne _ hj⟩
  · refine ⟨(h.kill ln).set i (.cells (putL all off vs) .tip ln), by rw [wrO_tip, if_pos hb], rfl, set_same _ _, fun j hj ho => ?_⟩
    rw [set_ne _ hj]
    simp only [AH.kill, ho, if_false]
end Go.Sim
/- Marks: one's own slices are written over, field by field. Conditions: those that each theorem names. -/
set_option linter.unusedVariables false
set_option linter.unusedSimpArgs false
namespace Go.Sim
variable {P : Program} {h : AH}

/-- Only this object was written, and what is stale by it forgotten. -/
structure Wr (h h' : AH) (id : Nat) : Prop where
  n : h'.n = h.n
  line : ∀ l, Line h id l ↔ Line h' id l
  ob : ∀ j, j ≠ id → (∀ l, Line h id l → (h.ob j).own ≠ some l) → h'.ob j = h.ob j
theorem Wr.refl (h : AH) (id : Nat) : Wr h h id := ⟨rfl, fun _ => Iff.rfl, fun _ _ _ => rfl⟩
theorem Wr.trans {a b c : AH} {id : Nat} (x : Wr a b id) (y : Wr b c id) : Wr a c id :=
  ⟨y.n.trans x.n, fun l => (x.line l).trans (y.line l), fun j hj hl => by
    have e := x.ob j hj hl
    rw [← e]
    refine y.ob j hj (fun l hb => ?_)
    rw [e]
    exact hl l ((x.line l).2 hb)⟩
theorem Own.line {id off n k : Nat} {cs : List Value} (w : Own h id off n k cs) : ∃ l, Line h id l := by
  obtain ⟨all, st, ln, e, hs, _, _⟩ := w.ob
  exact ⟨ln, ⟨all, st, e, hs⟩⟩
theorem Line.uniq {id l l' : Nat} (a : Line h id l) (b : Line h id l') : l = l' := by
  obtain ⟨_, _, e, _⟩ := a.ob
  obtain ⟨_, _, e', _⟩ := b.ob
  rw [e] at e'
  injection e'
/-- What stands beside it stays. -/
theorem Wr.keep {h' : AH} {id j : Nat} (w : Wr h h' id) (f : Fit h) {li : Nat} (hi : Line h id li) (hj : j ≠ id) (hl : (∃ lj, Line h j lj) ∨ (h.ob j).own = none) : h'.ob j = h.ob j := by
  refine w.ob j hj (fun l hl' => ?_)
  rcases hl with ⟨lj, hl⟩ | hl
  · exact f.ne hl' hl (fun e => hj e.symm)
  · rw [hl]; exact fun e => by cases e
theorem putL_in' {vs cs : List Value} {o j : Nat} (h1 : o ≤ j) (h2 : j < o + vs.length) (h3 : o + vs.length ≤ cs.length) : (putL cs o vs)[j]? = vs[j - o]? := by
  have := putL_in vs cs o (j - o) (by omega) h3
  rw [show o + (j - o) = j by omega] at this
  rw [this, List.getElem?_eq_getElem]
theorem Own.wr {id off n k : Nat} {cs : List Value} (w : Own h id off n k cs) {lo : Nat} {vs : List Value} (hb : lo + vs.length ≤ n * k) {K : AH → Prop}
    (hk : ∀ h', Own h' id off n k (putL cs lo vs) → Wr h h' id → K h') : onS (wrO h id (h.ob id) (off + lo) vs) K := by
  obtain ⟨all, st, ln, e, hs, hl, hd⟩ := w.ob
  obtain ⟨h', e1, hn, e2, e3⟩ := wrO_own e hs vs (off := off + lo) (by omega)
  rw [e1]
  refine hk h' ⟨by rw [hn]; exact w.lt, by rw [putL_length]; exact w.len, _, st, ln, e2, hs, by rw [putL_length]; exact hl, ?_⟩ ⟨hn, fun l => ?_, fun j hj ho => e3 j hj (ho ln ⟨all, st, e, hs⟩)⟩
  · rw [← hd]
    apply List.ext_getElem?
    intro m
    rw [List.getElem?_drop]
    by_cases h1 : m < lo
    · rw [putL_out _ _ _ _ (.inl (by omega)), putL_out _ _ _ _ (.inl h1), List.getElem?_drop]
    · by_cases h2 : m < lo + vs.length
      · rw [putL_in' (by omega) (by omega) (by omega), putL_in' (by omega) (by omega) (by simp; omega)]
        congr 1; omega
      · rw [putL_out _ _ _ _ (.inr (by omega)), putL_out _ _ _ _ (.inr (by omega)), List.getElem?_drop]
  · constructor
    · rintro ⟨a, s, ea, hs'⟩
      rw [e] at ea
      obtain ⟨rfl, rfl, rfl⟩ : all = a ∧ st = s ∧ ln = l := by simpa using ea
      exact ⟨_, _, e2, hs⟩
    · rintro ⟨a, s, ea, hs'⟩
      rw [e2] at ea
      obtain ⟨_, rfl, rfl⟩ : _ = a ∧ st = s ∧ ln = l := by simpa using ea
      exact ⟨_, _, e, hs⟩
/-- What stands: it is not written to beside. -/
def live (h : AH) (j : Nat) : Prop := (∃ l, Line h j l) ∨ (h.ob j).own = none
/-- Only this slice was written. -/
structure WrV (h h' : AH) (v : Value) : Prop where
  n : h'.n = h.n
  ob : ∀ j, ¬ atBlock v j → live h j → h'.ob j = h.ob j
theorem WrV.refl (h : AH) (v : Value) : WrV h h v := ⟨rfl, fun _ _ _ => rfl⟩
theorem Wr.toV {h' : AH} {id off n m c k : Nat} {cs : List Value} (w : Wr h h' id) (f : Fit h) (o : Own h id off n k cs) : WrV h h' (.slice (some ⟨id, off, none⟩) m c) := by
  obtain ⟨l, hl⟩ := o.line
  exact ⟨w.n, fun j hj hv => w.keep f hl (fun e => hj (show id = j from e.symm)) hv⟩
theorem Gr.live {n0 : Nat} {v : Value} {k : Nat} {cs : List Value} (w : Gr n0 h v k cs) {i : Nat} (e : atBlock v i) : live h i := by
  rcases w with ⟨c, rfl, rfl⟩ | ⟨id, off, n, rfl, b, o⟩
  · exact e.elim
  · have e' : id = i := e
    subst e'
    exact .inl o.line
/-- The marks from k on. -/
def marks (f : Nat → Value) (k n : Nat) : List Value := (List.range n).map fun j => f (k + j)
theorem marks_length (f : Nat → Value) (k n : Nat) : (marks f k n).length = n := by simp [marks]
theorem marks_get (f : Nat → Value) (k n : Nat) {j : Nat} (h : j < n) : (marks f k n)[j]? = some (f (k + j)) := by simp [marks, h]
/-- The first i cells are marked. -/
def Mkd (f : Nat → Value) (k : Nat) (cs : List Value) (i : Nat) : Prop := ∀ j, j < i → cs[j]? = some (f (k + j))
theorem Mkd.zero (f : Nat → Value) (k : Nat) (cs : List Value) : Mkd f k cs 0 := fun j hj => absurd hj (Nat.not_lt_zero j)
theorem Mkd.put {f : Nat → Value} {k : Nat} {cs : List Value} {i : Nat} (m : Mkd f k cs i) (hi : i < cs.length) {v : Value} (hv : v = f (k + i)) : Mkd f k (putL cs i [v]) (i + 1) := fun j hj => by
  by_cases e : j = i
  · subst e; rw [putL_in' (Nat.le_refl _) (by simp) (by simp; omega)]; simp [hv]
  · rw [putL_out _ _ _ _ (.inl (by omega))]; exact m j (by omega)
theorem Mkd.all {f : Nat → Value} {k : Nat} {cs : List Value} {n : Nat} (m : Mkd f k cs n) (hn : cs.length = n) : cs = marks f k n := by
  apply List.ext_getElem?
  intro j
  by_cases hj : j < n
  · rw [m j hj, marks_get f k n hj]
  · rw [List.getElem?_eq_none (by omega), List.getElem?_eq_none (by rw [marks_length]; omega)]

/-- The figures of a number, ahead of a text. -/
def dg : Nat → Nat → ByteArray → ByteArray
  | 0, _, o => o
  | f + 1, k, o => if k = 0 then o else dg f (k / 10) (⟨#[UInt8.ofNat (48 + k % 10)]⟩ ++ o)
def mt (k : Nat) : ByteArray := ⟨#[109]⟩ ++ dg k k ⟨#[]⟩
theorem dg_zero (f : Nat) (o : ByteArray) : dg f 0 o = o := by cases f <;> rfl
theorem dg_fuel : ∀ {f g k : Nat} (o : ByteArray), k ≤ f → k ≤ g → dg f k o = dg g k o
  | f, g, 0, o, _, _ => by rw [dg_zero, dg_zero]
  | 0, _, k + 1, _, h, _ => absurd h (by omega)
  | _, 0, k + 1, _, _, h => absurd h (by omega)
  | f + 1, g + 1, k + 1, o, hf, hg => by
    simp only [dg]
    rw [if_neg (by omega), if_neg (by omega)]
    exact dg_fuel _ (by omega) (by omega)
theorem dg_step {k : Nat} (hk : 0 < k) (o : ByteArray) : dg k k o = dg (k / 10) (k / 10) (⟨#[UInt8.ofNat (48 + k % 10)]⟩ ++ o) := by
  obtain ⟨k', rfl⟩ : ∃ k', k = k' + 1 := ⟨k - 1, by omega⟩
  rw [dg, if_neg (by omega)]
  exact dg_fuel _ (by omega) (Nat.le_refl _)
end Go.Sim
namespace Go.Proofs.Ytfbcedjheempfaa
open Go Go.Sim Go.Proofs
set_option linter.unusedSimpArgs false
set_option linter.unusedVariables false
set_option maxRecDepth 100000
set_option maxHeartbeats 1000000
theorem markText_c (k : Nat) (h0 : 0 < k) (hk : k < 4000000000000) (h : AH) : CD Try.prog 62 [.int .i64 (k : Nat)] h (.string (mt k)) h := by
  refine CD.quiet ?_ (low_string _ _)
  refine CC.ofN Try.func62 Try.ntmps62 Try.results62 rfl (by decide) (by kernel_rfl) ?_
  simp (maxSteps := 1000000) -implicitDefEqProofs only [push_cast, seval]
  with_reducible refine bcase_d (fun hb => ?_) (fun hb => ?_)
  · exfalso; omega
  simp (maxSteps := 1000000) -implicitDefEqProofs only [push_cast, seval]
  refine WC.loopA (by kernel_rfl) [0, 3] [6, 7, 8, 9, 10, 11, 12, 13, 14, 15, 16, 17] (fun a : Nat × ByteArray => [.int .i64 (a.1 : Nat), .string a.2]) (fun a h' => (dg a.1 a.1 a.2 = dg k k ⟨#[]⟩ ∧ a.2.size + a.1 ≤ k) ∧ Pre h h') (fun a => a.1) (k, ⟨#[]⟩) (by kernel_rfl) ⟨⟨rfl, by show 0 + k ≤ k; omega⟩, Pre.refl _⟩ ?_
  intro a g h1 hJ
  have hd := hJ.1.1
  have hl := hJ.1.2
  have hp := hJ.2
  clear hJ
  simp (maxSteps := 1000000) -implicitDefEqProofs only [push_cast, seval]
  with_reducible refine bcase_d (fun hb => ?_) (fun hb => ?_)
  · have e1 : (IntKind.u8.wrap (IntKind.i64.wrap (48 + (a.1 : Int).tmod 10))).toNat = 48 + a.1 % 10 := by
      rw [Int.tmod_eq_emod_of_nonneg (by omega), w64 (by omega) (by omega), w8 (by omega) (by omega)]; omega
    have e2 : IntKind.i64.wrap ((a.1 : Int).tdiv 10) = ((a.1 / 10 : Nat) : Int) := by
      rw [Int.tdiv_eq_ediv_of_nonneg (by omega), w64 (by omega) (by omega)]; omega
    simp (maxSteps := 1000000) -implicitDefEqProofs only [push_cast, seval, e1, e2]
    have z1 : (ByteArray.mk #[UInt8.ofNat (48 + a.1 % 10)]).size = 1 := rfl
    refine And.intro (by rw [z1]; omega) ⟨(a.1 / 10, ⟨#[UInt8.ofNat (48 + a.1 % 10)]⟩ ++ a.2), by kernel_rfl, ⟨⟨?_, ?_⟩, hp.alloc _⟩, ?_⟩
    · rw [← hd, dg_step (k := a.1) (by omega)]
    · show (ByteArray.mk #[UInt8.ofNat (48 + a.1 % 10)] ++ a.2).size + a.1 / 10 ≤ k
      rw [ByteArray.size_append, z1]; omega
    · show a.1 / 10 < a.1
      omega
  · have e : a.1 = 0 := by omega
    have z1 : (ByteArray.mk #[109]).size = 1 := rfl
    rw [e, dg_zero] at hd
    rw [hd] at hl
    simp (maxSteps := 1000000) -implicitDefEqProofs only [push_cast, seval]
    refine And.intro (by rw [z1, hd]; omega) ?_
    repeat' (first | with_reducible (first | exact Keep.refl _ _ | assumption | exact byte_lt _ _ | apply Keep.alloc | (refine Keep.set ?_ ?_; rotate_left; · omega) | apply Pre.alloc | apply Pre.set | exact Pre.refl _ | exact le_alloc _ | (refine Pre.keep ?_; assumption) | (refine Pre.n ?_; assumption)) | ((with_reducible (first | refine bcase_d (fun hb => ?_) (fun hb => ?_) | refine bcase_mk (fun hb => ?_) (fun hb => ?_))) <;> try simp (maxSteps := 1000000) -implicitDefEqProofs only [push_cast, seval]) | with_reducible refine And.intro ?_ ?_ | omega | (simp only [alloc_n, set_n, kill_n]; omega) | (exfalso; omega))
    rw [hd]; rfl
/-- A slice whose cells are marked. -/
def fS (k : Nat) : Value := .string (mt k)
def fI (k : Nat) : Value := .int .i64 (k : Nat)
theorem markVarS_o (id off n : Nat) (cs : List Value) (k : Nat) (h : AH) (o : Own h id off n 2 cs) (h0 : 0 < k) (hk : k + n * 2 < 4000000000000) (hn : n < 274877906944) :
    CC Try.prog 91 [.slice (some ⟨id, off, none⟩) n 2, .int .i64 (k : Nat)] h (fun v h' => v = .int .i64 ((k + n * 2 : Nat) : Int) ∧ Own h' id off n 2 (marks fS k (n * 2)) ∧ Wr h h' id) := by
  refine CC.ofN Try.func91 Try.ntmps91 Try.results91 rfl (by decide) (by kernel_rfl) ?_
  simp (maxSteps := 1000000) -implicitDefEqProofs only [push_cast, seval]
  refine WC.loopA (by kernel_rfl) [1, 5] [6, 7, 8, 9, 10, 11, 12, 13, 14, 15, 16, 17, 18, 19, 20, 21, 22, 23, 24, 25, 26, 27] (fun a : Nat × Nat × List Value => [.int .i64 (a.2.1 : Nat), .int .i64 (a.1 : Nat)]) (fun a h' => (a.1 ≤ n ∧ a.2.1 = k + a.1 * 2 ∧ Mkd fS k a.2.2 (a.1 * 2)) ∧ Own h' id off n 2 a.2.2 ∧ Wr h h' id) (fun a => n - a.1) (0, k, cs) (by kernel_rfl) ⟨⟨Nat.zero_le _, rfl, Mkd.zero _ _ _⟩, o, Wr.refl _ _⟩ ?_
  intro a g h1 hJ
  have hi := hJ.1.1
  have hK := hJ.1.2.1
  have hm := hJ.1.2.2
  have o0 := hJ.2.1
  have r0 := hJ.2.2
  clear hJ
  have l0 := o0.lt
  have n0 := o0.len
  simp (maxSteps := 1000000) -implicitDefEqProofs only [push_cast, seval]
  with_reducible refine bcase_d (fun hb => ?_) (fun hb => ?_)
  · have hi' : a.1 < n := by omega
    with_reducible refine nameN (a.2.1 + 1) (fun K1 hK1 => ?_)
    have w1 : IntKind.i64.wrap ((a.2.1 : Int) + 1) = (K1 : Nat) := by rw [wrapSucc (by omega), hK1]
    with_reducible refine nameN (K1 + 1) (fun K2 hK2 => ?_)
    have w2 : IntKind.i64.wrap ((K1 : Int) + 1) = (K2 : Nat) := by rw [wrapSucc (by omega), hK2]
    simp (maxSteps := 1000000) -implicitDefEqProofs only [push_cast, seval]
    with_reducible refine CD.to (markText_c a.2.1 (by omega) (by omega) _) ?_
    simp (maxSteps := 1000000) -implicitDefEqProofs only [push_cast, seval, l0, w1, w2]
    refine And.intro (by omega) (And.intro (by omega) ?_)
    refine (show Own _ id off n 2 _ from o0).wr (lo := a.1 * 2) (vs := [.string (mt a.2.1)]) (by simp only [List.length_cons, List.length_nil]; omega) (fun h2 o1 q1 => ?_)
    have l1 := o1.lt
    simp (maxSteps := 1000000) -implicitDefEqProofs only [push_cast, seval, l1, w1, w2]
    with_reducible refine CD.to (markText_c K1 (by omega) (by omega) _) ?_
    simp (maxSteps := 1000000) -implicitDefEqProofs only [push_cast, seval, l1, w1, w2]
    refine And.intro (by omega) (And.intro (by omega) ?_)
    refine (show Own _ id off n 2 _ from o1).wr (lo := a.1 * 2 + 1) (vs := [.string (mt K1)]) (by simp only [List.length_cons, List.length_nil]; omega) (fun h3 o2 q2 => ?_)
    have l2 := o2.lt
    simp (maxSteps := 1000000) -implicitDefEqProofs only [push_cast, seval, l2, w1, w2]
    rw [wrapSucc (by omega)]
    refine ⟨(a.1 + 1, K2, putL (putL (a.2.2) (a.1 * 2) [.string (mt a.2.1)]) (a.1 * 2 + 1) [.string (mt K1)]), by kernel_rfl, ⟨⟨by show a.1 + 1 ≤ n; omega, by show K2 = k + (a.1 + 1) * 2; omega, ?_⟩, o2, r0.trans ((q1).trans q2)⟩, by show n - (a.1 + 1) < n - a.1; omega⟩
    rw [show (a.1 + 1) * 2 = a.1 * 2 + 1 + 1 from by omega]
    exact ((hm).put (by (try simp only [putL_length]); omega) (by show _ = fS _; rw [show k + (a.1 * 2) = a.2.1 by omega]; rfl)).put (by (try simp only [putL_length]); omega) (by show _ = fS _; rw [show k + (a.1 * 2 + 1) = K1 by omega]; rfl)
  · have e : a.1 = n := by omega
    simp (maxSteps := 1000000) -implicitDefEqProofs only [push_cast, seval]
    rw [e] at hm
    have hq := hm.all n0
    rw [hq] at o0
    refine ⟨?_, o0, r0⟩
    rw [hK, e]
    push_cast
    rfl

theorem heldVarS_o (id off n c : Nat) (k : Nat) (h : AH) (o : Own h id off n 2 (marks fS k (n * 2))) (h0 : 0 < k) (hk : k + n * 2 < 4000000000000) (hn : n < 274877906944) :
    CD Try.prog 93 [.slice (some ⟨id, off, none⟩) n c, .int .i64 (k : Nat)] h (.int .i64 ((k + n * 2 : Nat) : Int)) h := by
  refine CD.quiet ?_ (low_int _ _ _)
  refine CC.ofN Try.func93 Try.ntmps93 Try.results93 rfl (by decide) (by kernel_rfl) ?_
  simp (maxSteps := 1000000) -implicitDefEqProofs only [push_cast, seval]
  refine WC.loopA (by kernel_rfl) [1, 5] [4, 6, 7, 8, 9, 10, 11, 12, 13, 14, 15, 16, 17, 18, 19, 20, 21, 22, 23, 24, 25, 26, 27, 28, 29, 30, 31] (fun a : Nat × Nat => [.int .i64 (a.2 : Nat), .int .i64 (a.1 : Nat)]) (fun a h' => (a.1 ≤ n ∧ a.2 = k + a.1 * 2) ∧ Pre h h') (fun a => n - a.1) (0, k) (by kernel_rfl) ⟨⟨Nat.zero_le _, rfl⟩, Pre.refl _⟩ ?_
  intro a g h1 hJ
  have hi := hJ.1.1
  have hK := hJ.1.2
  have hp := hJ.2
  clear hJ
  have o1 := o.pre hp
  have l1 := o1.lt
  simp (maxSteps := 1000000) -implicitDefEqProofs only [push_cast, seval]
  with_reducible refine bcase_d (fun hb => ?_) (fun hb => ?_)
  · have hi' : a.1 < n := by omega
    with_reducible refine nameN (a.2 + 1) (fun K1 hK1 => ?_)
    have w1 : IntKind.i64.wrap ((a.2 : Int) + 1) = (K1 : Nat) := by rw [wrapSucc (by omega), hK1]
    with_reducible refine nameN (K1 + 1) (fun K2 hK2 => ?_)
    have w2 : IntKind.i64.wrap ((K1 : Int) + 1) = (K2 : Nat) := by rw [wrapSucc (by omega), hK2]
    have g0 : rd1 h1 id (off + a.1 * 2) = some (.string (mt a.2)) := by
      have := o1.rd1 (j := a.1 * 2) (by omega)
      rw [show off + a.1 * 2 = off + (a.1 * 2) by omega, this, List.getD_eq_getElem?_getD, marks_get fS k (n * 2) (by omega)]
      rw [show k + (a.1 * 2) = a.2 by omega]; rfl
    have g1 : rd1 h1 id (off + a.1 * 2 + 1) = some (.string (mt K1)) := by
      have := o1.rd1 (j := a.1 * 2 + 1) (by omega)
      rw [show off + a.1 * 2 + 1 = off + (a.1 * 2 + 1) by omega, this, List.getD_eq_getElem?_getD, marks_get fS k (n * 2) (by omega)]
      rw [show k + (a.1 * 2 + 1) = K1 by omega]; rfl
    simp (maxSteps := 1000000) -implicitDefEqProofs only [push_cast, seval, l1, w1, w2, g0, g1]
    refine WC.draw' (by kernel_rfl) (by kernel_rfl) (.q 0 (.q 1 (.q 2 (.q 3 (.q 4 (.q 5 (.c 6 (.q 7 (.done))))))))) (by kernel_rfl) ?_
    simp (maxSteps := 1000000) -implicitDefEqProofs only [push_cast, seval, l1, w1, w2, g0, g1]
    refine And.intro (by omega) (And.intro (by omega) ?_)
    simp (maxSteps := 1000000) -implicitDefEqProofs only [push_cast, seval, l1, w1, w2, g0, g1]
    refine CQ.pure (fun h' => markText_c a.2 (by omega) (by omega) h') ?_
    simp (maxSteps := 1000000) -implicitDefEqProofs only [push_cast, seval, l1, w1, w2, g0, g1]
    refine WC.draw' (by kernel_rfl) (by kernel_rfl) (.q 0 (.q 1 (.q 2 (.q 3 (.q 4 (.q 5 (.c 6 (.q 7 (.done))))))))) (by kernel_rfl) ?_
    simp (maxSteps := 1000000) -implicitDefEqProofs only [push_cast, seval, l1, w1, w2, g0, g1]
    refine And.intro (by omega) (And.intro (by omega) ?_)
    simp (maxSteps := 1000000) -implicitDefEqProofs only [push_cast, seval, l1, w1, w2, g0, g1]
    refine CQ.pure (fun h' => markText_c K1 (by omega) (by omega) h') ?_
    simp (maxSteps := 1000000) -implicitDefEqProofs only [push_cast, seval, l1, w1, w2, g0, g1]
    rw [wrapSucc (by omega)]
    exact ⟨(a.1 + 1, K2), by kernel_rfl, ⟨⟨by show a.1 + 1 ≤ n; omega, by show K2 = k + (a.1 + 1) * 2; omega⟩, hp⟩, by show n - (a.1 + 1) < n - a.1; omega⟩
  · have e : a.1 = n := by omega
    simp (maxSteps := 1000000) -implicitDefEqProofs only [push_cast, seval]
    refine ⟨by rw [hK, e]; push_cast; rfl, hp.keep⟩
theorem markVarS_n (c k : Nat) (hk : k < 4000000000000) (h : AH) : CD Try.prog 91 [.slice none 0 c, .int .i64 (k : Nat)] h (.int .i64 (k : Nat)) h := by
  refine CD.quiet ?_ (low_int _ _ _)
  refine CC.ofN Try.func91 Try.ntmps91 Try.results91 rfl (by decide) (by kernel_rfl) ?_
  simp (maxSteps := 1000000) -implicitDefEqProofs only [push_cast, seval]
  refine WC.loopA (by kernel_rfl) [1, 5] [6, 7, 8, 9, 10, 11, 12, 13, 14, 15, 16, 17, 18, 19, 20, 21, 22, 23, 24, 25, 26, 27] (fun a : Nat => [.int .i64 (k : Nat), .int .i64 (a : Nat)]) (fun a h' => a = 0 ∧ Pre h h') (fun a => 1 - a) 0 (by kernel_rfl) ⟨rfl, Pre.refl _⟩ ?_
  intro a g h1 hJ
  have e := hJ.1
  have hp := hJ.2
  clear hJ
  subst e
  simp (maxSteps := 1000000) -implicitDefEqProofs only [push_cast, seval]
  repeat' (first | with_reducible (first | exact Keep.refl _ _ | assumption | exact byte_lt _ _ | apply Keep.alloc | (refine Keep.set ?_ ?_; rotate_left; · omega) | apply Pre.alloc | apply Pre.set | exact Pre.refl _ | exact le_alloc _ | (refine Pre.keep ?_; assumption) | (refine Pre.n ?_; assumption)) | ((with_reducible (first | refine bcase_d (fun hb => ?_) (fun hb => ?_) | refine bcase_mk (fun hb => ?_) (fun hb => ?_))) <;> try simp (maxSteps := 1000000) -implicitDefEqProofs only [push_cast, seval]) | with_reducible refine And.intro ?_ ?_ | omega | (simp only [alloc_n, set_n, kill_n]; omega) | (exfalso; omega))
theorem heldVarS_n (c k : Nat) (hk : k < 4000000000000) (h : AH) : CD Try.prog 93 [.slice none 0 c, .int .i64 (k : Nat)] h (.int .i64 (k : Nat)) h := by
  refine CD.quiet ?_ (low_int _ _ _)
  refine CC.ofN Try.func93 Try.ntmps93 Try.results93 rfl (by decide) (by kernel_rfl) ?_
  simp (maxSteps := 1000000) -implicitDefEqProofs only [push_cast, seval]
  refine WC.loopA (by kernel_rfl) [1, 5] [4, 6, 7, 8, 9, 10, 11, 12, 13, 14, 15, 16, 17, 18, 19, 20, 21, 22, 23, 24, 25, 26, 27, 28, 29, 30, 31] (fun a : Nat => [.int .i64 (k : Nat), .int .i64 (a : Nat)]) (fun a h' => a = 0 ∧ Pre h h') (fun a => 1 - a) 0 (by kernel_rfl) ⟨rfl, Pre.refl _⟩ ?_
  intro a g h1 hJ
  have e := hJ.1
  have hp := hJ.2
  clear hJ
  subst e
  simp (maxSteps := 1000000) -implicitDefEqProofs only [push_cast, seval]
  repeat' (first | with_reducible (first | exact Keep.refl _ _ | assumption | exact byte_lt _ _ | apply Keep.alloc | (refine Keep.set ?_ ?_; rotate_left; · omega) | apply Pre.alloc | apply Pre.set | exact Pre.refl _ | exact le_alloc _ | (refine Pre.keep ?_; assumption) | (refine Pre.n ?_; assumption)) | ((with_reducible (first | refine bcase_d (fun hb => ?_) (fun hb => ?_) | refine bcase_mk (fun hb => ?_) (fun hb => ?_))) <;> try simp (maxSteps := 1000000) -implicitDefEqProofs only [push_cast, seval]) | with_reducible refine And.intro ?_ ?_ | omega | (simp only [alloc_n, set_n, kill_n]; omega) | (exfalso; omega))
theorem markVarS_c (n0 : Nat) (A : Option Addr) (n : Nat) (cs : List Value) (k : Nat) (h : AH) (o : Gr n0 h (.slice A n 2) 2 cs) (hc : cs.length = n * 2) (h0 : 0 < k) (hk : k + n * 2 < 4000000000000) (hn : n < 274877906944) :
    CC Try.prog 91 [.slice A n 2, .int .i64 (k : Nat)] h (fun v h' => v = .int .i64 ((k + n * 2 : Nat) : Int) ∧ Gr n0 h' (.slice A n 2) 2 (marks fS k (n * 2)) ∧ WrV h h' (.slice A n 2)) := by
  refine CC.withFit (fun ft => ?_)
  rcases o with ⟨c, e, e2⟩ | ⟨id, off, m, e, hb, ow⟩
  · injection e with e3 e4 e5
    subst e3 e4 e5 e2
    exact (markVarS_n 2 k (by omega) h).to ⟨rfl, .inl ⟨2, rfl, rfl⟩, WrV.refl _ _⟩
  · injection e with e3 e4
    subst e3 e4
    exact (markVarS_o id off n cs k h ow h0 hk hn).mono (fun v h' ⟨a, b, c⟩ => ⟨a, .inr ⟨id, off, n, rfl, hb, b⟩, c.toV ft ow⟩)
theorem heldVarS_c (n0 : Nat) (A : Option Addr) (n : Nat) (k : Nat) (h : AH) (o : Gr n0 h (.slice A n 2) 2 (marks fS k (n * 2))) (h0 : 0 < k) (hk : k + n * 2 < 4000000000000) (hn : n < 274877906944) :
    CD Try.prog 93 [.slice A n 2, .int .i64 (k : Nat)] h (.int .i64 ((k + n * 2 : Nat) : Int)) h := by
  rcases o with ⟨c, e, e2⟩ | ⟨id, off, m, e, hb, ow⟩
  · injection e with e3 e4 e5
    subst e3 e4 e5
    exact heldVarS_n 2 k (by omega) h
  · injection e with e3 e4
    subst e3 e4
    exact heldVarS_o id off n 2 k h ow h0 hk hn

theorem markCellS_o (id off n : Nat) (cs : List Value) (k : Nat) (h : AH) (o : Own h id off n 3 cs) (h0 : 0 < k) (hk : k + n * 3 < 4000000000000) (hn : n < 274877906944) :
    CC Try.prog 92 [.slice (some ⟨id, off, none⟩) n 3, .int .i64 (k : Nat)] h (fun v h' => v = .int .i64 ((k + n * 3 : Nat) : Int) ∧ Own h' id off n 3 (marks fS k (n * 3)) ∧ Wr h h' id) := by
  refine CC.ofN Try.func92 Try.ntmps92 Try.results92 rfl (by decide) (by kernel_rfl) ?_
  simp (maxSteps := 1000000) -implicitDefEqProofs only [push_cast, seval]
  refine WC.loopA (by kernel_rfl) [1, 5] [6, 7, 8, 9, 10, 11, 12, 13, 14, 15, 16, 17, 18, 19, 20, 21, 22, 23, 24, 25, 26, 27, 28, 29, 30, 31, 32, 33, 34, 35] (fun a : Nat × Nat × List Value => [.int .i64 (a.2.1 : Nat), .int .i64 (a.1 : Nat)]) (fun a h' => (a.1 ≤ n ∧ a.2.1 = k + a.1 * 3 ∧ Mkd fS k a.2.2 (a.1 * 3)) ∧ Own h' id off n 3 a.2.2 ∧ Wr h h' id) (fun a => n - a.1) (0, k, cs) (by kernel_rfl) ⟨⟨Nat.zero_le _, rfl, Mkd.zero _ _ _⟩, o, Wr.refl _ _⟩ ?_
  intro a g h1 hJ
  have hi := hJ.1.1
  have hK := hJ.1.2.1
  have hm := hJ.1.2.2
  have o0 := hJ.2.1
  have r0 := hJ.2.2
  clear hJ
  have l0 := o0.lt
  have n0 := o0.len
  simp (maxSteps := 1000000) -implicitDefEqProofs only [push_cast, seval]
  with_reducible refine bcase_d (fun hb => ?_) (fun hb => ?_)
  · have hi' : a.1 < n := by omega
    with_reducible refine nameN (a.2.1 + 1) (fun K1 hK1 => ?_)
    have w1 : IntKind.i64.wrap ((a.2.1 : Int) + 1) = (K1 : Nat) := by rw [wrapSucc (by omega), hK1]
    with_reducible refine nameN (K1 + 1) (fun K2 hK2 => ?_)
    have w2 : IntKind.i64.wrap ((K1 : Int) + 1) = (K2 : Nat) := by rw [wrapSucc (by omega), hK2]
    with_reducible refine nameN (K2 + 1) (fun K3 hK3 => ?_)
    have w3 : IntKind.i64.wrap ((K2 : Int) + 1) = (K3 : Nat) := by rw [wrapSucc (by omega), hK3]
    simp (maxSteps := 1000000) -implicitDefEqProofs only [push_cast, seval]
    with_reducible refine CD.to (markText_c a.2.1 (by omega) (by omega) _) ?_
    simp (maxSteps := 1000000) -implicitDefEqProofs only [push_cast, seval, l0, w1, w2, w3]
    refine And.intro (by omega) (And.intro (by omega) ?_)
    refine (show Own _ id off n 3 _ from o0).wr (lo := a.1 * 3) (vs := [.string (mt a.2.1)]) (by simp only [List.length_cons, List.length_nil]; omega) (fun h2 o1 q1 => ?_)
    have l1 := o1.lt
    simp (maxSteps := 1000000) -implicitDefEqProofs only [push_cast, seval, l1, w1, w2, w3]
    with_reducible refine CD.to (markText_c K1 (by omega) (by omega) _) ?_
    simp (maxSteps := 1000000) -implicitDefEqProofs only [push_cast, seval, l1, w1, w2, w3]
    refine And.intro (by omega) (And.intro (by omega) ?_)
    refine (show Own _ id off n 3 _ from o1).wr (lo := a.1 * 3 + 1) (vs := [.string (mt K1)]) (by simp only [List.length_cons, List.length_nil]; omega) (fun h3 o2 q2 => ?_)
    have l2 := o2.lt
    simp (maxSteps := 1000000) -implicitDefEqProofs only [push_cast, seval, l2, w1, w2, w3]
    with_reducible refine CD.to (markText_c K2 (by omega) (by omega) _) ?_
    simp (maxSteps := 1000000) -implicitDefEqProofs only [push_cast, seval, l2, w1, w2, w3]
    refine And.intro (by omega) (And.intro (by omega) ?_)
    refine (show Own _ id off n 3 _ from o2).wr (lo := a.1 * 3 + 2) (vs := [.string (mt K2)]) (by simp only [List.length_cons, List.length_nil]; omega) (fun h4 o3 q3 => ?_)
    have l3 := o3.lt
    simp (maxSteps := 1000000) -implicitDefEqProofs only [push_cast, seval, l3, w1, w2, w3]
    rw [wrapSucc (by omega)]
    refine ⟨(a.1 + 1, K3, putL (putL (putL (a.2.2) (a.1 * 3) [.string (mt a.2.1)]) (a.1 * 3 + 1) [.string (mt K1)]) (a.1 * 3 + 2) [.string (mt K2)]), by kernel_rfl, ⟨⟨by show a.1 + 1 ≤ n; omega, by show K3 = k + (a.1 + 1) * 3; omega, ?_⟩, o3, r0.trans (((q1).trans q2).trans q3)⟩, by show n - (a.1 + 1) < n - a.1; omega⟩
    rw [show (a.1 + 1) * 3 = a.1 * 3 + 1 + 1 + 1 from by omega]
    exact (((hm).put (by (try simp only [putL_length]); omega) (by show _ = fS _; rw [show k + (a.1 * 3) = a.2.1 by omega]; rfl)).put (by (try simp only [putL_length]); omega) (by show _ = fS _; rw [show k + (a.1 * 3 + 1) = K1 by omega]; rfl)).put (by (try simp only [putL_length]); omega) (by show _ = fS _; rw [show k + (a.1 * 3 + 1 + 1) = K2 by omega]; rfl)
  · have e : a.1 = n := by omega
    simp (maxSteps := 1000000) -implicitDefEqProofs only [push_cast, seval]
    rw [e] at hm
    have hq := hm.all n0
    rw [hq] at o0
    refine ⟨?_, o0, r0⟩
    rw [hK, e]
    push_cast
    rfl

theorem heldCellS_o (id off n c : Nat) (k : Nat) (h : AH) (o : Own h id off n 3 (marks fS k (n * 3))) (h0 : 0 < k) (hk : k + n * 3 < 4000000000000) (hn : n < 274877906944) :
    CD Try.prog 94 [.slice (some ⟨id, off, none⟩) n c, .int .i64 (k : Nat)] h (.int .i64 ((k + n * 3 : Nat) : Int)) h := by
  refine CD.quiet ?_ (low_int _ _ _)
  refine CC.ofN Try.func94 Try.ntmps94 Try.results94 rfl (by decide) (by kernel_rfl) ?_
  simp (maxSteps := 1000000) -implicitDefEqProofs only [push_cast, seval]
  refine WC.loopA (by kernel_rfl) [1, 5] [4, 6, 7, 8, 9, 10, 11, 12, 13, 14, 15, 16, 17, 18, 19, 20, 21, 22, 23, 24, 25, 26, 27, 28, 29, 30, 31, 32, 33, 34, 35, 36, 37, 38, 39, 40, 41] (fun a : Nat × Nat => [.int .i64 (a.2 : Nat), .int .i64 (a.1 : Nat)]) (fun a h' => (a.1 ≤ n ∧ a.2 = k + a.1 * 3) ∧ Pre h h') (fun a => n - a.1) (0, k) (by kernel_rfl) ⟨⟨Nat.zero_le _, rfl⟩, Pre.refl _⟩ ?_
  intro a g h1 hJ
  have hi := hJ.1.1
  have hK := hJ.1.2
  have hp := hJ.2
  clear hJ
  have o1 := o.pre hp
  have l1 := o1.lt
  simp (maxSteps := 1000000) -implicitDefEqProofs only [push_cast, seval]
  with_reducible refine bcase_d (fun hb => ?_) (fun hb => ?_)
  · have hi' : a.1 < n := by omega
    with_reducible refine nameN (a.2 + 1) (fun K1 hK1 => ?_)
    have w1 : IntKind.i64.wrap ((a.2 : Int) + 1) = (K1 : Nat) := by rw [wrapSucc (by omega), hK1]
    with_reducible refine nameN (K1 + 1) (fun K2 hK2 => ?_)
    have w2 : IntKind.i64.wrap ((K1 : Int) + 1) = (K2 : Nat) := by rw [wrapSucc (by omega), hK2]
    with_reducible refine nameN (K2 + 1) (fun K3 hK3 => ?_)
    have w3 : IntKind.i64.wrap ((K2 : Int) + 1) = (K3 : Nat) := by rw [wrapSucc (by omega), hK3]
    have g0 : rd1 h1 id (off + a.1 * 3) = some (.string (mt a.2)) := by
      have := o1.rd1 (j := a.1 * 3) (by omega)
      rw [show off + a.1 * 3 = off + (a.1 * 3) by omega, this, List.getD_eq_getElem?_getD, marks_get fS k (n * 3) (by omega)]
      rw [show k + (a.1 * 3) = a.2 by omega]; rfl
    have g1 : rd1 h1 id (off + a.1 * 3 + 1) = some (.string (mt K1)) := by
      have := o1.rd1 (j := a.1 * 3 + 1) (by omega)
      rw [show off + a.1 * 3 + 1 = off + (a.1 * 3 + 1) by omega, this, List.getD_eq_getElem?_getD, marks_get fS k (n * 3) (by omega)]
      rw [show k + (a.1 * 3 + 1) = K1 by omega]; rfl
    have g2 : rd1 h1 id (off + a.1 * 3 + 2) = some (.string (mt K2)) := by
      have := o1.rd1 (j := a.1 * 3 + 2) (by omega)
      rw [show off + a.1 * 3 + 2 = off + (a.1 * 3 + 2) by omega, this, List.getD_eq_getElem?_getD, marks_get fS k (n * 3) (by omega)]
      rw [show k + (a.1 * 3 + 2) = K2 by omega]; rfl
    simp (maxSteps := 1000000) -implicitDefEqProofs only [push_cast, seval, l1, w1, w2, w3, g0, g1, g2]
    refine WC.draw' (by kernel_rfl) (by kernel_rfl) (.q 0 (.q 1 (.q 2 (.q 3 (.q 4 (.q 5 (.c 6 (.q 7 (.done))))))))) (by kernel_rfl) ?_
    simp (maxSteps := 1000000) -implicitDefEqProofs only [push_cast, seval, l1, w1, w2, w3, g0, g1, g2]
    refine And.intro (by omega) (And.intro (by omega) ?_)
    simp (maxSteps := 1000000) -implicitDefEqProofs only [push_cast, seval, l1, w1, w2, w3, g0, g1, g2]
    refine CQ.pure (fun h' => markText_c a.2 (by omega) (by omega) h') ?_
    simp (maxSteps := 1000000) -implicitDefEqProofs only [push_cast, seval, l1, w1, w2, w3, g0, g1, g2]
    refine WC.draw' (by kernel_rfl) (by kernel_rfl) (.q 0 (.q 1 (.q 2 (.q 3 (.q 4 (.q 5 (.c 6 (.q 7 (.done))))))))) (by kernel_rfl) ?_
    simp (maxSteps := 1000000) -implicitDefEqProofs only [push_cast, seval, l1, w1, w2, w3, g0, g1, g2]
    refine And.intro (by omega) (And.intro (by omega) ?_)
    simp (maxSteps := 1000000) -implicitDefEqProofs only [push_cast, seval, l1, w1, w2, w3, g0, g1, g2]
    refine CQ.pure (fun h' => markText_c K1 (by omega) (by omega) h') ?_
    simp (maxSteps := 1000000) -implicitDefEqProofs only [push_cast, seval, l1, w1, w2, w3, g0, g1, g2]
    refine WC.draw' (by kernel_rfl) (by kernel_rfl) (.q 0 (.q 1 (.q 2 (.q 3 (.q 4 (.q 5 (.c 6 (.q 7 (.done))))))))) (by kernel_rfl) ?_
    simp (maxSteps := 1000000) -implicitDefEqProofs only [push_cast, seval, l1, w1, w2, w3, g0, g1, g2]
    refine And.intro (by omega) (And.intro (by omega) ?_)
    simp (maxSteps := 1000000) -implicitDefEqProofs only [push_cast, seval, l1, w1, w2, w3, g0, g1, g2]
    refine CQ.pure (fun h' => markText_c K2 (by omega) (by omega) h') ?_
    simp (maxSteps := 1000000) -implicitDefEqProofs only [push_cast, seval, l1, w1, w2, w3, g0, g1, g2]
    rw [wrapSucc (by omega)]
    exact ⟨(a.1 + 1, K3), by kernel_rfl, ⟨⟨by show a.1 + 1 ≤ n; omega, by show K3 = k + (a.1 + 1) * 3; omega⟩, hp⟩, by show n - (a.1 + 1) < n - a.1; omega⟩
  · have e : a.1 = n := by omega
    simp (maxSteps := 1000000) -implicitDefEqProofs only [push_cast, seval]
    refine ⟨by rw [hK, e]; push_cast; rfl, hp.keep⟩
theorem markCellS_n (c k : Nat) (hk : k < 4000000000000) (h : AH) : CD Try.prog 92 [.slice none 0 c, .int .i64 (k : Nat)] h (.int .i64 (k : Nat)) h := by
  refine CD.quiet ?_ (low_int _ _ _)
  refine CC.ofN Try.func92 Try.ntmps92 Try.results92 rfl (by decide) (by kernel_rfl) ?_
  simp (maxSteps := 1000000) -implicitDefEqProofs only [push_cast, seval]
  refine WC.loopA (by kernel_rfl) [1, 5] [6, 7, 8, 9, 10, 11, 12, 13, 14, 15, 16, 17, 18, 19, 20, 21, 22, 23, 24, 25, 26, 27, 28, 29, 30, 31, 32, 33, 34, 35] (fun a : Nat => [.int .i64 (k : Nat), .int .i64 (a : Nat)]) (fun a h' => a = 0 ∧ Pre h h') (fun a => 1 - a) 0 (by kernel_rfl) ⟨rfl, Pre.refl _⟩ ?_
  intro a g h1 hJ
  have e := hJ.1
  have hp := hJ.2
  clear hJ
  subst e
  simp (maxSteps := 1000000) -implicitDefEqProofs only [push_cast, seval]
  repeat' (first | with_reducible (first | exact Keep.refl _ _ | assumption | exact byte_lt _ _ | apply Keep.alloc | (refine Keep.set ?_ ?_; rotate_left; · omega) | apply Pre.alloc | apply Pre.set | exact Pre.refl _ | exact le_alloc _ | (refine Pre.keep ?_; assumption) | (refine Pre.n ?_; assumption)) | ((with_reducible (first | refine bcase_d (fun hb => ?_) (fun hb => ?_) | refine bcase_mk (fun hb => ?_) (fun hb => ?_))) <;> try simp (maxSteps := 1000000) -implicitDefEqProofs only [push_cast, seval]) | with_reducible refine And.intro ?_ ?_ | omega | (simp only [alloc_n, set_n, kill_n]; omega) | (exfalso; omega))
theorem heldCellS_n (c k : Nat) (hk : k < 4000000000000) (h : AH) : CD Try.prog 94 [.slice none 0 c, .int .i64 (k : Nat)] h (.int .i64 (k : Nat)) h := by
  refine CD.quiet ?_ (low_int _ _ _)
  refine CC.ofN Try.func94 Try.ntmps94 Try.results94 rfl (by decide) (by kernel_rfl) ?_
  simp (maxSteps := 1000000) -implicitDefEqProofs only [push_cast, seval]
  refine WC.loopA (by kernel_rfl) [1, 5] [4, 6, 7, 8, 9, 10, 11, 12, 13, 14, 15, 16, 17, 18, 19, 20, 21, 22, 23, 24, 25, 26, 27, 28, 29, 30, 31, 32, 33, 34, 35, 36, 37, 38, 39, 40, 41] (fun a : Nat => [.int .i64 (k : Nat), .int .i64 (a : Nat)]) (fun a h' => a = 0 ∧ Pre h h') (fun a => 1 - a) 0 (by kernel_rfl) ⟨rfl, Pre.refl _⟩ ?_
  intro a g h1 hJ
  have e := hJ.1
  have hp := hJ.2
  clear hJ
  subst e
  simp (maxSteps := 1000000) -implicitDefEqProofs only [push_cast, seval]
  repeat' (first | with_reducible (first | exact Keep.refl _ _ | assumption | exact byte_lt _ _ | apply Keep.alloc | (refine Keep.set ?_ ?_; rotate_left; · omega) | apply Pre.alloc | apply Pre.set | exact Pre.refl _ | exact le_alloc _ | (refine Pre.keep ?_; assumption) | (refine Pre.n ?_; assumption)) | ((with_reducible (first | refine bcase_d (fun hb => ?_) (fun hb => ?_) | refine bcase_mk (fun hb => ?_) (fun hb => ?_))) <;> try simp (maxSteps := 1000000) -implicitDefEqProofs only [push_cast, seval]) | with_reducible refine And.intro ?_ ?_ | omega | (simp only [alloc_n, set_n, kill_n]; omega) | (exfalso; omega))
theorem markCellS_c (n0 : Nat) (A : Option Addr) (n : Nat) (cs : List Value) (k : Nat) (h : AH) (o : Gr n0 h (.slice A n 3) 3 cs) (hc : cs.length = n * 3) (h0 : 0 < k) (hk : k + n * 3 < 4000000000000) (hn : n < 274877906944) :
    CC Try.prog 92 [.slice A n 3, .int .i64 (k : Nat)] h (fun v h' => v = .int .i64 ((k + n * 3 : Nat) : Int) ∧ Gr n0 h' (.slice A n 3) 3 (marks fS k (n * 3)) ∧ WrV h h' (.slice A n 3)) := by
  refine CC.withFit (fun ft => ?_)
  rcases o with ⟨c, e, e2⟩ | ⟨id, off, m, e, hb, ow⟩
  · injection e with e3 e4 e5
    subst e3 e4 e5 e2
    exact (markCellS_n 3 k (by omega) h).to ⟨rfl, .inl ⟨3, rfl, rfl⟩, WrV.refl _ _⟩
  · injection e with e3 e4
    subst e3 e4
    exact (markCellS_o id off n cs k h ow h0 hk hn).mono (fun v h' ⟨a, b, c⟩ => ⟨a, .inr ⟨id, off, n, rfl, hb, b⟩, c.toV ft ow⟩)
theorem heldCellS_c (n0 : Nat) (A : Option Addr) (n : Nat) (k : Nat) (h : AH) (o : Gr n0 h (.slice A n 3) 3 (marks fS k (n * 3))) (h0 : 0 < k) (hk : k + n * 3 < 4000000000000) (hn : n < 274877906944) :
    CD Try.prog 94 [.slice A n 3, .int .i64 (k : Nat)] h (.int .i64 ((k + n * 3 : Nat) : Int)) h := by
  rcases o with ⟨c, e, e2⟩ | ⟨id, off, m, e, hb, ow⟩
  · injection e with e3 e4 e5
    subst e3 e4 e5
    exact heldCellS_n 3 k (by omega) h
  · injection e with e3 e4
    subst e3 e4
    exact heldCellS_o id off n 3 k h ow h0 hk hn

end Go.Proofs.Ytfbcedjheempfaa
namespace Go.Proofs.Ytfbcedjheempfaa
open Go Go.Sim Go.Proofs
set_option linter.unusedSimpArgs false
set_option linter.unusedVariables false
set_option maxRecDepth 100000
set_option maxHeartbeats 1000000
/-! ### stores whose slices are a call's own -/
theorem OwnS.keep {h0 h h' : AH} {vA vB : Value} {st : Store} (o : OwnS h0 h vA vB st) (hn : h.n ≤ h'.n) (e : ∀ i, (atBlock vA i ∨ atBlock vB i) → h'.ob i = h.ob i) : OwnS h0 h' vA vB st := by
  obtain ⟨m, a, b, c, d⟩ := o
  exact ⟨m, a, b.keep hn (fun i hi => e i (.inl hi)), c, d.keep hn (fun i hi => e i (.inr hi))⟩
theorem OwnS.pre {h0 h h' : AH} {vA vB : Value} {st : Store} (o : OwnS h0 h vA vB st) (p : Pre h h') : OwnS h0 h' vA vB st := by
  obtain ⟨m, a, b, c, d⟩ := o
  exact ⟨m, a, b.pre p, c, d.pre p⟩
theorem OwnS.range {h0 h : AH} {vA vB : Value} {st : Store} (o : OwnS h0 h vA vB st) {i : Nat} (e : atBlock vA i ∨ atBlock vB i) : h0.n ≤ i ∧ i < h.n := by
  obtain ⟨m, a, b, c, d⟩ := o
  rcases e with e | e
  · have := b.range e; omega
  · have := d.range e; omega
theorem OwnS.live {h0 h : AH} {vA vB : Value} {st : Store} (o : OwnS h0 h vA vB st) {i : Nat} (e : atBlock vA i ∨ atBlock vB i) : live h i := by
  obtain ⟨m, a, b, c, d⟩ := o
  rcases e with e | e
  · exact b.live e
  · exact d.live e
theorem OwnS.rds {h0 h : AH} {vA vB : Value} {st : Store} (o : OwnS h0 h vA vB st) : ∃ A B ca cb, vA = .slice A st.vars.length ca ∧ vB = .slice B st.cells.length cb ∧ RdS h A B st := by
  obtain ⟨m, a, b, c, d⟩ := o
  obtain ⟨A, ca, e1, r1⟩ := b.read (by decide) (fun _ => rfl)
  obtain ⟨B, cb, e2, r2⟩ := d.read (by decide) (fun _ => rfl)
  exact ⟨A, B, ca, cb, e1, e2, r1 h (fun _ _ _ => rfl), r2 h (fun _ _ _ => rfl)⟩
/-- Marked slices. -/
def MkS (h : AH) (vA vB : Value) (nv nc k : Nat) : Prop := ∃ n0 n1, Gr n0 h vA 2 (marks fS k (nv * 2)) ∧ Gr n1 h vB 3 (marks fS (k + nv * 2) (nc * 3))
theorem MkS.keep {h h' : AH} {vA vB : Value} {nv nc k : Nat} (o : MkS h vA vB nv nc k) (hn : h.n ≤ h'.n) (e : ∀ i, (atBlock vA i ∨ atBlock vB i) → h'.ob i = h.ob i) : MkS h' vA vB nv nc k := by
  obtain ⟨n0, n1, a, b⟩ := o
  exact ⟨n0, n1, a.keep hn (fun i hi => e i (.inl hi)), b.keep hn (fun i hi => e i (.inr hi))⟩
theorem MkS.live {h : AH} {vA vB : Value} {nv nc k : Nat} (o : MkS h vA vB nv nc k) {i : Nat} (e : atBlock vA i ∨ atBlock vB i) : Sim.live h i := by
  obtain ⟨n0, n1, a, b⟩ := o
  rcases e with e | e
  · exact a.live e
  · exact b.live e
theorem Gr.slice {n0 : Nat} {h : AH} {v : Value} {k : Nat} {cs : List Value} (w : Gr n0 h v k cs) (hk : 0 < k) {m : Nat} (hm : cs.length = m * k) : (∃ A, v = .slice A m k) ∨ (∃ c, v = .slice none 0 c ∧ m = 0) := by
  rcases w with ⟨c, rfl, rfl⟩ | ⟨id, off, n, rfl, b, o⟩
  · refine .inr ⟨c, rfl, ?_⟩
    rcases Nat.eq_zero_or_pos m with h | h
    · exact h
    · have := Nat.mul_pos h hk
      simp at hm; omega
  · refine .inl ⟨some ⟨id, off, none⟩, ?_⟩
    rw [Nat.eq_of_mul_eq_mul_right hk (o.len.symm.trans hm)]
theorem live.of {h h' : AH} {j : Nat} (l : live h j) (e : h'.ob j = h.ob j) : live h' j := by
  rcases l with ⟨ln, ⟨all, st, e1, hs⟩⟩ | l
  · exact .inl ⟨ln, ⟨all, st, e.trans e1, hs⟩⟩
  · exact .inr (by rw [e]; exact l)
theorem vars_len (st : Store) : ((st.vars.map Var.enc).flatten).length = st.vars.length * 2 := flat_len (k := 2) _ (fun _ => rfl)
theorem cells_len (st : Store) : ((st.cells.map Cell.enc).flatten).length = st.cells.length * 3 := flat_len (k := 3) _ (fun _ => rfl)
theorem markV_any (n0 n k : Nat) (v : Value) (cs : List Value) (h : AH) (o : Gr n0 h v 2 cs) (hc : cs.length = n * 2) (h0 : 0 < k) (hk : k + n * 2 < 4000000000000) (hn : n < 274877906944) :
    CC Try.prog 91 [v, .int .i64 (k : Nat)] h (fun r h' => r = .int .i64 ((k + n * 2 : Nat) : Int) ∧ Gr n0 h' v 2 (marks fS k (n * 2)) ∧ WrV h h' v) := by
  rcases Gr.slice o (by decide) hc with ⟨A, rfl⟩ | ⟨c, rfl, rfl⟩
  · exact markVarS_c n0 A n cs k h o hc h0 hk hn
  · exact (markVarS_n c k (by omega) h).to ⟨rfl, .inl ⟨c, rfl, rfl⟩, WrV.refl _ _⟩
theorem markC_any (n0 n k : Nat) (v : Value) (cs : List Value) (h : AH) (o : Gr n0 h v 3 cs) (hc : cs.length = n * 3) (h0 : 0 < k) (hk : k + n * 3 < 4000000000000) (hn : n < 274877906944) :
    CC Try.prog 92 [v, .int .i64 (k : Nat)] h (fun r h' => r = .int .i64 ((k + n * 3 : Nat) : Int) ∧ Gr n0 h' v 3 (marks fS k (n * 3)) ∧ WrV h h' v) := by
  rcases Gr.slice o (by decide) hc with ⟨A, rfl⟩ | ⟨c, rfl, rfl⟩
  · exact markCellS_c n0 A n cs k h o hc h0 hk hn
  · exact (markCellS_n c k (by omega) h).to ⟨rfl, .inl ⟨c, rfl, rfl⟩, WrV.refl _ _⟩
theorem heldV_any (n0 n k : Nat) (v : Value) (h : AH) (o : Gr n0 h v 2 (marks fS k (n * 2))) (h0 : 0 < k) (hk : k + n * 2 < 4000000000000) (hn : n < 274877906944) :
    CD Try.prog 93 [v, .int .i64 (k : Nat)] h (.int .i64 ((k + n * 2 : Nat) : Int)) h := by
  rcases Gr.slice o (by decide) (marks_length _ _ _) with ⟨A, rfl⟩ | ⟨c, rfl, rfl⟩
  · exact heldVarS_c n0 A n k h o h0 hk hn
  · exact heldVarS_n c k (by omega) h
theorem heldC_any (n0 n k : Nat) (v : Value) (h : AH) (o : Gr n0 h v 3 (marks fS k (n * 3))) (h0 : 0 < k) (hk : k + n * 3 < 4000000000000) (hn : n < 274877906944) :
    CD Try.prog 94 [v, .int .i64 (k : Nat)] h (.int .i64 ((k + n * 3 : Nat) : Int)) h := by
  rcases Gr.slice o (by decide) (marks_length _ _ _) with ⟨A, rfl⟩ | ⟨c, rfl, rfl⟩
  · exact heldCellS_c n0 A n k h o h0 hk hn
  · exact heldCellS_n c k (by omega) h
theorem OwnS.one {h0 h : AH} {vA vB : Value} {st : Store} (o : OwnS h0 h vA vB st) : Sim.one vA = true ∧ Sim.one vB = true := by
  obtain ⟨A, B, ca, cb, rfl, rfl, _⟩ := o.rds
  exact ⟨rfl, rfl⟩
theorem MkS.one {h : AH} {vA vB : Value} {nv nc k : Nat} (o : MkS h vA vB nv nc k) : Sim.one vA = true ∧ Sim.one vB = true := by
  obtain ⟨n0, n1, a, b⟩ := o
  constructor
  · rcases a with ⟨c, rfl, _⟩ | ⟨id, off, n, rfl, _, _⟩ <;> rfl
  · rcases b with ⟨c, rfl, _⟩ | ⟨id, off, n, rfl, _, _⟩ <;> rfl
theorem markStore_c (h0 h : AH) (vA vB : Value) (st : Store) (u : ByteArray) (k nv nc : Nat) (o : OwnS h0 h vA vB st) (ev : st.vars.length = nv) (ec : st.cells.length = nc) (k0 : 0 < k) (hk : k < 1000000) (hv : nv < 274877906944) (hc : nc < 274877906944) :
    CC Try.prog 46 [.agg #[vA, vB, .string u], .int .i64 (k : Nat)] h (fun r h' => r = .int .i64 ((k + nv * 2 + nc * 3 : Nat) : Int) ∧ MkS h' vA vB nv nc k ∧ h.n ≤ h'.n ∧ ∀ j, j < h.n → ¬ (atBlock vA j ∨ atBlock vB j) → live h j → h'.ob j = h.ob j) := by
  have o1 := o.one
  obtain ⟨m, a, b, c, d⟩ := o
  have q1 := o1.1
  have q2 := o1.2
  have l1 := vars_len st
  have l2 := cells_len st
  rw [ev] at l1
  rw [ec] at l2
  with_reducible refine nameN (k + nv * 2) (fun K1 hK1 => ?_)
  refine CC.ofN Try.func46 Try.ntmps46 Try.results46 rfl (by decide) (by kernel_rfl) ?_
  simp (maxSteps := 1000000) -implicitDefEqProofs only [push_cast, seval, q1, q2]
  with_reducible refine CC.mono (markV_any _ nv k vA _ _ (b.alloc _) l1 k0 (by omega) hv) (fun v h1 hv => ?_)
  have e1 := hv.1
  have g1 := hv.2.1
  have w1 := hv.2.2
  clear hv
  rw [← hK1] at e1
  subst e1
  have ox : h1.ob h.n = AOb.cells [vA, vB, Value.string u] .solo h.n := (w1.ob h.n (fun e => by have := b.range e; omega) (.inl ⟨h.n, ⟨_, _, alloc_same _, .inl rfl⟩⟩)).trans (alloc_same _)
  have lx : h.n < h1.n := by rw [w1.n]; exact lt_alloc _
  have kd : ∀ i, atBlock vB i → h1.ob i = (h.alloc (AOb.cells [vA, vB, Value.string u] .solo h.n)).ob i := fun i hi => w1.ob i (fun e => by have := c i e; have := d.range hi; omega) ((d.alloc _).live hi)
  have d1 : Gr m h1 vB 3 _ := (d.alloc _).keep (by rw [w1.n]; exact Nat.le_refl _) kd
  simp (maxSteps := 1000000) -implicitDefEqProofs only [push_cast, seval, ox, lx, rd_of ox, rd1_of ox]
  with_reducible refine CC.mono (markC_any _ nc K1 vB _ _ d1 l2 (by omega) (by omega) hc) (fun v h2 hv => ?_)
  have e1 := hv.1
  have g2 := hv.2.1
  have w2 := hv.2.2
  clear hv
  subst e1
  simp (maxSteps := 1000000) -implicitDefEqProofs only [push_cast, seval]
  rw [hK1] at g2
  refine ⟨by rw [hK1]; push_cast; rfl, ⟨_, _, g1.keep (by rw [w2.n]; exact Nat.le_refl _) (fun i hi => w2.ob i (fun e => ?_) (g1.live hi)), g2⟩, by rw [w2.n]; omega, fun j hj hb hl => ?_⟩
  · have := g1.range hi
    have := c i hi
    have := d.range e
    omega
  · have e1 : h1.ob j = h.ob j := (w1.ob j (fun e => hb (.inl e)) (live.of hl (alloc_lt _ hj))).trans (alloc_lt _ hj)
    exact (w2.ob j (fun e => hb (.inr e)) (live.of hl e1)).trans e1
theorem heldStore_c (h : AH) (vA vB : Value) (u : ByteArray) (k nv nc : Nat) (o : MkS h vA vB nv nc k) (k0 : 0 < k) (hk : k < 1000000) (hv : nv < 274877906944) (hc : nc < 274877906944) :
    CD Try.prog 47 [.agg #[vA, vB, .string u], .int .i64 (k : Nat)] h (.int .i64 ((k + nv * 2 + nc * 3 : Nat) : Int)) h := by
  have o1 := o.one
  obtain ⟨m, m1, a, b⟩ := o
  have q1 := o1.1
  have q2 := o1.2
  refine CD.quiet ?_ (low_int _ _ _)
  with_reducible refine nameN (k + nv * 2) (fun K1 hK1 => ?_)
  have hA := heldV_any _ nv k vA _ (a.alloc (AOb.cells [vA, vB, Value.string u] .solo h.n)) k0 (by omega) hv
  have hB := heldC_any _ nc (k + nv * 2) vB _ (b.alloc (AOb.cells [vA, vB, Value.string u] .solo h.n)) (by omega) (by omega) hc
  rw [← hK1] at hA hB
  with_reducible refine nameN (k + nv * 2 + nc * 3) (fun K2 hK2 => ?_)
  rw [← hK1] at hK2
  rw [← hK2] at hB
  refine CC.ofN Try.func47 Try.ntmps47 Try.results47 rfl (by decide) (by kernel_rfl) ?_
  simp (maxSteps := 1000000) -implicitDefEqProofs only [push_cast, seval, q1, q2]
  repeat' (first | with_reducible (first | exact Keep.refl _ _ | assumption | exact byte_lt _ _ | apply Keep.alloc | (refine Keep.set ?_ ?_; rotate_left; · omega) | apply Pre.alloc | apply Pre.set | exact Pre.refl _ | exact le_alloc _ | (refine Pre.keep ?_; assumption) | (refine Pre.n ?_; assumption)) | ((with_reducible (first | refine CD.to (hA) ?_ | refine CQ.pure (fun _ => hA) ?_ | refine CD.to (hB) ?_ | refine CQ.pure (fun _ => hB) ?_ | refine bcase_d (fun hb => ?_) (fun hb => ?_) | refine bcase_mk (fun hb => ?_) (fun hb => ?_))) <;> try simp (maxSteps := 1000000) -implicitDefEqProofs only [push_cast, seval, q1, q2]) | with_reducible refine And.intro ?_ ?_ | omega | (simp only [alloc_n, set_n, kill_n]; omega) | (exfalso; omega))
  rw [hK2, hK1]
  push_cast
  rfl
theorem iStore_sz (s : ByteArray) (hs : s.size ≤ maxLen) : Sz (iStore s) := by
  obtain ⟨N, hN, hN2⟩ := ctV_nat s 60 (0, false)
  obtain ⟨M, hM, hM2⟩ := ctV_nat s 2000 (iL s).1
  have mx := maxLen_eq
  have e1 : (iL s).2.length = N := by
    rw [iL, itV_len, ctM, show (60 : Int) = ((60 : Nat) : Int) from rfl, hN]; rfl
  have e2 : (iC s).2.length = M := by
    rw [iC, itC_len, ctM, show (2000 : Int) = ((2000 : Nat) : Int) from rfl, hM]; rfl
  refine ⟨fun x hx => ?_, fun x hx => ?_, ?_, ?_, ?_⟩
  · have := itV_size s _ _ x (show x ∈ (iL s).2 from hx); omega
  · have := itC_size s _ _ x (show x ∈ (iC s).2 from hx); omega
  · have := shT_size s (iC s).1; show (shT s (iC s).1).size ≤ maxLen; omega
  · show (iL s).2.length < _; omega
  · show (iC s).2.length < _; omega
theorem iS_sz (s : ByteArray) (hs : s.size ≤ maxLen) : Sz (iS s) := by
  unfold iS
  split
  · exact iStore_sz s hs
  · exact ⟨fun x hx => by simp [store0] at hx, fun x hx => by simp [store0] at hx, by show (0:Nat) ≤ maxLen; omega, by simp [store0], by simp [store0]⟩
theorem ReadStore_w (s : ByteArray) (hs : s.size ≤ maxLen - 16) (h : AH) : CC Try.prog 44 [.string s] h (fun v h' => ∃ vA vB, v = .tuple #[.agg #[vA, vB, .string (iS s).out], .bool (iOk s)] ∧ OwnS h h' vA vB (iS s) ∧ Pre h h') :=
  (ReadStore_s s hs h).mono (fun v h' ⟨vA, vB, K1, K2, st, e, o, p⟩ => by
    have ag := read_agree st
    rw [ag.1] at e o
    have eS : (if iOk s = true then sStore s K1 K2 else store0) = iS s := by
      unfold iS
      split
      · rename_i hk; exact ag.2 hk
      · rfl
    rw [eS] at e o
    exact ⟨vA, vB, e, o, p⟩)
theorem eqStore_own (h0 h1 h : AH) (vA vB wA wB : Value) (s t : Store) (oa : OwnS h0 h vA vB s) (ob : OwnS h1 h wA wB t) (zs : Sz s) (zt : Sz t) :
    CD Try.prog 43 [.agg #[vA, vB, .string s.out], .agg #[wA, wB, .string t.out]] h (.bool (decide (s = t))) h := by
  obtain ⟨A, B, ca, cb, rfl, rfl, ra⟩ := oa.rds
  obtain ⟨C, D, cc, cd, rfl, rfl, rb⟩ := ob.rds
  exact eqStore_c s t A B C D ca cb cc cd h ra rb zs zt
theorem live_solo {h : AH} {i ln : Nat} {cs : List Value} (e : h.ob i = .cells cs .solo ln) : live h i := .inl ⟨ln, ⟨_, _, e, .inl rfl⟩⟩
/-- The law. -/
theorem law_ReadStore (s : ByteArray) (hs : s.size ≤ maxLen) (h : AH) : CE Try.prog 10 [.string s] h fun v _ => v = .bool true := by
  have hm := maxLen_eq
  have zS := iS_sz s hs
  refine CE.ofN Try.func10 Try.ntmps10 Try.results10 rfl (by kernel_rfl) ?_
  simp (maxSteps := 1000000) -implicitDefEqProofs only [push_cast, seval]
  with_reducible refine bcase_d (fun hb => ?_) (fun hb => ?_)
  · simp (maxSteps := 1000000) -implicitDefEqProofs only [push_cast, seval]
  have hs' : s.size ≤ maxLen - 16 := by omega
  simp (maxSteps := 1000000) -implicitDefEqProofs only [push_cast, seval]
  with_reducible refine CC.mono (ReadStore_w s hs' _) (fun v h1 hv => ?_)
  with_reducible refine Exists.elim hv (fun wA hv => ?_)
  with_reducible refine Exists.elim hv (fun wB hv => ?_)
  have e1 := hv.1
  have wO := hv.2.1
  have p1 := hv.2.2
  clear hv
  subst e1
  have y1 := wO.one.1
  have y2 := wO.one.2
  simp (maxSteps := 1000000) -implicitDefEqProofs only [push_cast, seval, y1, y2]
  with_reducible refine CC.mono (ReadStore_i s hs' _) (fun v h2 hv => ?_)
  with_reducible refine Exists.elim hv (fun gA hv => ?_)
  with_reducible refine Exists.elim hv (fun gB hv => ?_)
  have e1 := hv.1
  have gO := hv.2.1
  have p2 := hv.2.2
  clear hv
  subst e1
  have y3 := gO.one.1
  have y4 := gO.one.2
  have k1 : h1.n < h2.n := Nat.lt_of_lt_of_le (Nat.lt_succ_self h1.n) p2.n
  have o1 : h2.ob h1.n = _ := (p2.ob h1.n (Nat.lt_succ_self h1.n)).trans (set_same _ _)
  simp (maxSteps := 1000000) -implicitDefEqProofs only [push_cast, seval, y1, y2, y3, y4, o1, rd_of o1, rd1_of o1, k1]
  have wO2 := wO.pre ((((Pre.refl h1).alloc (AOb.cells [Value.slice none 0 0, Value.slice none 0 0, Value.string ⟨#[]⟩] .solo h1.n)).set (Nat.le_refl _) (AOb.cells [wA, wB, Value.string (iS s).out] .solo h1.n)).trans p2)
  have p3 : Pre h2 ((h2.alloc (AOb.cells [Value.slice none 0 0, Value.slice none 0 0, Value.string ⟨#[]⟩] .solo h2.n)).set h2.n (AOb.cells [gA, gB, Value.string (iS s).out] .solo h2.n)) := ((Pre.refl h2).alloc _).set (Nat.le_refl _) _
  have wO3 := wO2.pre p3
  have gO3 := gO.pre p3
  repeat' (first | with_reducible (first | exact Keep.refl _ _ | assumption | exact byte_lt _ _ | apply Keep.alloc | (refine Keep.set ?_ ?_; rotate_left; · omega) | apply Pre.alloc | apply Pre.set | exact Pre.refl _ | exact le_alloc _ | (refine Pre.keep ?_; assumption) | (refine Pre.n ?_; assumption)) | ((with_reducible (first | refine CD.to (eqStore_own _ _ _ _ _ _ _ _ _ gO3 wO3 zS zS) ?_ | refine CQ.pure (fun _ => eqStore_own _ _ _ _ _ _ _ _ _ gO3 wO3 zS zS) ?_ | refine bcase_d (fun hb => ?_) (fun hb => ?_) | refine bcase_mk (fun hb => ?_) (fun hb => ?_))) <;> try simp (maxSteps := 1000000) -implicitDefEqProofs only [push_cast, seval, y1, y2, y3, y4, o1, rd_of o1, rd1_of o1, k1]) | with_reducible refine And.intro ?_ ?_ | omega | (simp only [alloc_n, set_n, kill_n]; omega) | (exfalso; omega))
  rotate_left
  · simp at hb
  generalize hnv : (iS s).vars.length = nv
  generalize hnc : (iS s).cells.length = nc
  have zv : nv < 274877906944 := by rw [← hnv]; exact zS.nv
  have zc : nc < 274877906944 := by rw [← hnc]; exact zS.nc
  have hM := markStore_c _ _ gA gB (iS s) (iS s).out 1 nv nc gO3 hnv hnc (by omega) (by omega) zv zc
  rw [show ((1 : Nat) : Int) = 1 from rfl] at hM
  with_reducible refine CC.mono hM (fun v h3 hv => ?_)
  have e1 := hv.1
  have gM := hv.2.1
  have n3 := hv.2.2.1
  have f3 := hv.2.2.2
  clear hv
  subst e1
  have n3' : h2.n + 1 ≤ h3.n := n3
  have rw3 := fun i e => wO2.range (i := i) e
  have rg3 := fun i e => gO.range (i := i) e
  have rw0 := fun i e => wO.range (i := i) e
  have oG : h3.ob h2.n = AOb.cells [gA, gB, Value.string (iS s).out] .solo h2.n := (f3 h2.n (Nat.lt_succ_self h2.n) (fun e => by have := rg3 _ e; omega) (live_solo (set_same _ _))).trans (set_same _ _)
  have oW : h3.ob h1.n = AOb.cells [wA, wB, Value.string (iS s).out] .solo h1.n := by
    have e0 := (p3.ob h1.n k1).trans o1
    exact (f3 h1.n (Nat.lt_succ_of_lt k1) (fun e => by have := (rg3 _ e).1; have : h1.n + 1 ≤ h1.n := this; omega) (live_solo e0)).trans e0
  have wO4 : OwnS h h3 wA wB (iS s) := wO3.keep n3 (fun i e => f3 i (by have := (rw0 i e).2; show i < h2.n + 1; omega) (fun e' => by have := (rw0 i e).2; have : h1.n + 1 ≤ i := (rg3 _ e').1; omega) (wO3.live e))
  have lG : h2.n < h3.n := by omega
  have lW : h1.n < h3.n := by omega
  with_reducible refine nameN (1 + nv * 2 + nc * 3) (fun K hK => ?_)
  rw [← hK]
  have hH := fun (h : AH) (o : MkS h gA gB nv nc 1) => heldStore_c h gA gB (iS s).out 1 nv nc o (by omega) (by omega) zv zc
  rw [show ((1 : Nat) : Int) = 1 from rfl, ← hK] at hH
  simp (maxSteps := 1000000) -implicitDefEqProofs only [push_cast, seval, oG, rd_of oG, rd1_of oG, lG]
  repeat' (first | with_reducible (first | exact Keep.refl _ _ | assumption | exact byte_lt _ _ | apply Keep.alloc | (refine Keep.set ?_ ?_; rotate_left; · omega) | apply Pre.alloc | apply Pre.set | exact Pre.refl _ | exact le_alloc _ | (refine Pre.keep ?_; assumption) | (refine Pre.n ?_; assumption)) | ((with_reducible (first | refine CD.to (hH _ gM) ?_ | refine CQ.pure (fun _ => hH _ gM) ?_ | refine bcase_d (fun hb => ?_) (fun hb => ?_) | refine bcase_mk (fun hb => ?_) (fun hb => ?_))) <;> try simp (maxSteps := 1000000) -implicitDefEqProofs only [push_cast, seval, oG, rd_of oG, rd1_of oG, lG]) | with_reducible refine And.intro ?_ ?_ | omega | (simp only [alloc_n, set_n, kill_n]; omega) | (exfalso; omega))
  with_reducible refine CC.mono (ReadStore_i s hs' _) (fun v h4 hv => ?_)
  with_reducible refine Exists.elim hv (fun xA hv => ?_)
  with_reducible refine Exists.elim hv (fun xB hv => ?_)
  have e1 := hv.1
  have xO := hv.2.1
  have p4 := hv.2.2
  clear hv
  subst e1
  have y5 := xO.one.1
  have y6 := xO.one.2
  have l4 : h3.n ≤ h4.n := p4.n
  have oG4 : h4.ob h2.n = _ := (p4.ob _ lG).trans oG
  have oW4 : h4.ob h1.n = _ := (p4.ob _ lW).trans oW
  have lG4 : h2.n < h4.n := by omega
  have lW4 : h1.n < h4.n := by omega
  simp (maxSteps := 1000000) -implicitDefEqProofs only [push_cast, seval, oG4, rd_of oG4, rd1_of oG4, lG4, oW4, rd_of oW4, rd1_of oW4, lW4, y5, y6]
  have p5 : Pre h4 ((h4.alloc (AOb.cells [Value.slice none 0 0, Value.slice none 0 0, Value.string ⟨#[]⟩] .solo h4.n)).set h4.n (AOb.cells [xA, xB, Value.string (iS s).out] .solo h4.n)) := ((Pre.refl h4).alloc _).set (Nat.le_refl _) _
  have wO5 := wO4.pre (p4.trans p5)
  have xO5 := xO.pre p5
  have gM5 : MkS _ gA gB nv nc 1 := gM.keep (p4.trans p5).n (fun i e => (p4.trans p5).ob i (by
    obtain ⟨n0, n1, a, b⟩ := gM
    rcases e with e | e
    · exact (a.range e).2
    · exact (b.range e).2))
  repeat' (first | with_reducible (first | exact Keep.refl _ _ | assumption | exact byte_lt _ _ | apply Keep.alloc | (refine Keep.set ?_ ?_; rotate_left; · omega) | apply Pre.alloc | apply Pre.set | exact Pre.refl _ | exact le_alloc _ | (refine Pre.keep ?_; assumption) | (refine Pre.n ?_; assumption)) | ((with_reducible (first | refine CD.to (eqStore_own _ _ _ _ _ _ _ _ _ xO5 wO5 zS zS) ?_ | refine CQ.pure (fun _ => eqStore_own _ _ _ _ _ _ _ _ _ xO5 wO5 zS zS) ?_ | refine CD.to (hH _ gM5) ?_ | refine CQ.pure (fun _ => hH _ gM5) ?_ | refine bcase_d (fun hb => ?_) (fun hb => ?_) | refine bcase_mk (fun hb => ?_) (fun hb => ?_))) <;> try simp (maxSteps := 1000000) -implicitDefEqProofs only [push_cast, seval, oG4, rd_of oG4, rd1_of oG4, lG4, oW4, rd_of oW4, rd1_of oW4, lW4, y5, y6]) | with_reducible refine And.intro ?_ ?_ | omega | (simp only [alloc_n, set_n, kill_n]; omega) | (exfalso; omega))
  simp at hb
end Go.Proofs.Ytfbcedjheempfaa
