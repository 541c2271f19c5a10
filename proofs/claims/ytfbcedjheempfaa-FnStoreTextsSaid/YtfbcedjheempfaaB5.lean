/- Parts of the proof of the row: the ground, contracts of the functions that it reaches (L21, P5, L22, SimP, SimQ, L23, L24, SimR, P6, L31, L32, L33, L30, L34, P7, L35). Conditions: those that each theorem names. -/
import Derived.Test.YtfbcedjheempfaaB4
namespace Go.Proofs.Ytfbcedjheempfaa
open Go Go.Sim Go.Proofs
set_option linter.unusedSimpArgs false
set_option linter.unusedVariables false
set_option maxRecDepth 100000
set_option maxHeartbeats 1000000
def nmV (s : ByteArray) (r : Nat × Bool) : Nat := (oN (if r.2 then none else rv s r.1)).toNat
def nmN (s : ByteArray) (r : Nat × Bool) : Nat × Bool := (nxN (if r.2 then none else rv s r.1) r.1, (if r.2 then none else rv s r.1).isNone)
theorem nmV_eq (s : ByteArray) (r : Nat × Bool) : oN (if r.2 then none else rv s r.1) = (nmV s r : Nat) := by
  unfold nmV
  generalize (if r.2 then none else rv s r.1) = q
  cases q with
  | none => rfl
  | some p => simp [oN]
theorem l07Var_q (p : Nat) (s : ByteArray) (r : Nat × Bool) (hs : s.size ≤ maxLen - 16) (h : AH) (e : h.ob p = rdP p s r) : CD Try.prog 65 [.pointer (some ⟨p, 0, none⟩)] h (.int .i64 (nmV s r : Nat)) (h.set p (rdP p s (nmN s r))) := by
  have := l07Var_p p s r hs h e
  rw [nmV_eq] at this
  exact this
def sStore (s : ByteArray) (K1 K2 : Nat) : Store := ⟨(itV s (nmN s (0, false)) K1).2, (itC s (nmN s (itV s (nmN s (0, false)) K1).1) K2).2, shT s (itC s (nmN s (itV s (nmN s (0, false)) K1).1) K2).1⟩
def sEnd (s : ByteArray) (K1 K2 : Nat) : Nat × Bool := shN s (itC s (nmN s (itV s (nmN s (0, false)) K1).1) K2).1
/-- Where the two loops stop. -/
structure Stops (s : ByteArray) (K1 K2 : Nat) : Prop where
  a1 : K1 ≤ 100
  a2 : K1 ≤ nmV s (0, false)
  a3 : ∀ j, j < K1 → (itV s (nmN s (0, false)) j).1.2 = false
  a4 : ¬ (K1 < nmV s (0, false) ∧ K1 < 100 ∧ (itV s (nmN s (0, false)) K1).1.2 = false)
  b1 : K2 ≤ 2100
  b2 : K2 ≤ nmV s (itV s (nmN s (0, false)) K1).1
  b3 : ∀ j, j < K2 → (itC s (nmN s (itV s (nmN s (0, false)) K1).1) j).1.2 = false
  b4 : ¬ (K2 < nmV s (itV s (nmN s (0, false)) K1).1 ∧ K2 < 2100 ∧ (itC s (nmN s (itV s (nmN s (0, false)) K1).1) K2).1.2 = false)
def sOk (s : ByteArray) (K1 K2 : Nat) : Bool := !(sEnd s K1 K2).2 && (storeOk (sStore s K1 K2) && decide (storeT (sStore s K1 K2) = s))
theorem ReadStore_s (s : ByteArray) (hs : s.size ≤ maxLen - 16) (h : AH) : CC Try.prog 44 [.string s] h (fun v h' => ∃ vA vB K1 K2, Stops s K1 K2 ∧ v = .tuple #[.agg #[vA, vB, .string (if sOk s K1 K2 = true then sStore s K1 K2 else store0).out], .bool (sOk s K1 K2)] ∧ OwnS h h' vA vB (if sOk s K1 K2 = true then sStore s K1 K2 else store0) ∧ Pre h h') := by
  refine CC.withBig (fun big => ?_)
  have hc := l07Var_q (h.n + 1) s (0, false) hs
  generalize hN : nmV s (0, false) = N at hc
  have hc' : ∀ h1 : AH, h1.ob (h.n + 1) = .cells [.string s, .int .i64 0, .bool false] .solo (h.n + 1) → _ := fun h1 e => hc h1 e
  refine CC.ofN Try.func44 Try.ntmps44 Try.results44 rfl (by decide) (by kernel_rfl) ?_
  simp (maxSteps := 1000000) -implicitDefEqProofs only [push_cast, seval]
  with_reducible refine CD.to (hc' _ (by (try simp (maxSteps := 1000000) -implicitDefEqProofs only [push_cast, seval, rdOb]); try rfl)) ?_
  simp (maxSteps := 1000000) -implicitDefEqProofs only [push_cast, seval]
  refine WC.loopA (by kernel_rfl) [7] [8, 19, 20, 21, 22, 23, 24, 25, 26, 27, 28, 29, 30, 31, 32, 33, 34, 35, 36, 37, 38, 39, 40, 41, 42, 43, 44, 45, 46] (fun a : Nat × Value => [.int .i64 (a.1 : Nat)]) (fun a h' => ((a.1 ≤ 100 ∧ a.1 ≤ N ∧ ∀ j, j < a.1 → (itV s (nmN s (0, false)) j).1.2 = false) ∧ h.n + 3 ≤ h'.n ∧ h'.ob h.n = .cells [.slice none 0 0, .slice none 0 0, .string ⟨#[]⟩] .solo h.n) ∧ h'.ob (h.n + 1) = rdP (h.n + 1) s (itV s (nmN s (0, false)) a.1).1 ∧ h'.ob (h.n + 2) = .cells [a.2, .slice none 0 0, .string ⟨#[]⟩] .solo (h.n + 2) ∧ Gr (h.n + 3) h' a.2 2 ((itV s (nmN s (0, false)) a.1).2.map Var.enc).flatten ∧ Pre h h') (fun a => 100 - a.1) (0, .slice none 0 0) (by kernel_rfl) ⟨⟨⟨Nat.zero_le _, Nat.zero_le _, fun j hj => absurd hj (Nat.not_lt_zero j)⟩, Nat.le_refl _, ?_⟩, ?_, ?_, Gr.nil _ _ _ _, ?_⟩ ?_
  · simp only [set_ne _ (show h.n ≠ h.n + 1 by omega), set_ne _ (show h.n ≠ h.n + 2 by omega)]
    exact (alloc_lt _ (by show h.n < h.n + 2; omega)).trans ((alloc_lt _ (by show h.n < h.n + 1; omega)).trans (alloc_same _))
  · simp (maxSteps := 1000000) -implicitDefEqProofs only [push_cast, seval]
    rfl
  · simp (maxSteps := 1000000) -implicitDefEqProofs only [push_cast, seval]
  · refine Pre.set (Pre.set ((((Pre.refl _).alloc _).alloc _).alloc _) ?_ _) ?_ _ <;> omega
  intro a g h1 hJ
  have hi := hJ.1.1.1
  have hj := hJ.1.1.2.1
  have hall := hJ.1.1.2.2
  have hn := hJ.1.2.1
  have o0 := hJ.1.2.2
  have o1 := hJ.2.1
  have o2 := hJ.2.2.1
  have hg := hJ.2.2.2.1
  have hp := hJ.2.2.2.2
  clear hJ
  generalize hL : itV s (nmN s (0, false)) a.1 = L at *
  simp only [rdP] at o1
  have k1 : h.n + 1 < h1.n := by omega
  have k2 : h.n + 2 < h1.n := by omega
  simp (maxSteps := 1000000) -implicitDefEqProofs only [push_cast, seval, rd_of o1, rd1_of o1, o1, k1]
  with_reducible refine bcase_d (fun hb1 => ?_) (fun hb1 => ?_)
  rotate_left
  have hs' : ¬ (a.1 < N ∧ a.1 < 100 ∧ L.1.2 = false) := fun e => by omega
  simp (maxSteps := 1000000) -implicitDefEqProofs only [push_cast, seval]
  rotate_left
  simp (maxSteps := 1000000) -implicitDefEqProofs only [push_cast, seval]
  with_reducible refine bcase_d (fun hb2 => ?_) (fun hb2 => ?_)
  rotate_left
  have hs' : ¬ (a.1 < N ∧ a.1 < 100 ∧ L.1.2 = false) := fun e => by omega
  simp (maxSteps := 1000000) -implicitDefEqProofs only [push_cast, seval]
  rotate_left 2
  simp (maxSteps := 1000000) -implicitDefEqProofs only [push_cast, seval, rd_of o1, rd1_of o1, o1, k1]
  cases hb3 : L.1.2
  rotate_left
  have hs' : ¬ (a.1 < N ∧ a.1 < 100 ∧ L.1.2 = false) := fun e => by rw [hb3] at e; simp at e
  simp (maxSteps := 1000000) -implicitDefEqProofs only [push_cast, seval, rd_of o1, rd1_of o1, o1, k1, hb3]
  rotate_left 3
  · simp (maxSteps := 1000000) -implicitDefEqProofs only [push_cast, seval, rd_of o1, rd1_of o1, o1, k1, hb3]
    have o1' : h1.ob (h.n + 1) = rdP (h.n + 1) s L.1 := o1
    with_reducible refine CD.to (l07Short_p (h.n + 1) s L.1 hs _ o1') ?_
    simp (maxSteps := 1000000) -implicitDefEqProofs only [push_cast, seval, k1, k2]
    with_reducible refine CD.to (l07Short_p (h.n + 1) s (shN s L.1) hs _ (by simp only [set_ne _ (show h.n + 1 ≠ h1.n by omega)]; exact (alloc_lt (h := h1.set _ _) _ k1).trans (set_same _ _))) ?_
    simp (maxSteps := 1000000) -implicitDefEqProofs only [push_cast, seval, k1, k2, rd_of o2, rd1_of o2, o2, zl2]
    have hf : ((L.2.map Var.enc).flatten).length = L.2.length * 2 := flat_len (k := 2) _ (fun _ => rfl)
    have hl : (itV s (nmN s (0, false)) a.1).2.length = a.1 := itV_len _ _ _
    rw [hL] at hl
    refine Gr.app1 (h0 := h) si48 (by decide) (by decide) (notInt_sl und48) ((hg.mono (by omega)).keep (Nat.le_succ h1.n) (fun i hi => fiveS_ob _ _ _ _ _ (by have := hg.range hi; omega) (hg.range hi).2)) (fiveS_pre _ _ _ _ _ hp (by omega)) rfl ?_ (by decide) (fun h' gr ow p' hn' he => ?_)
    · rw [hf]; omega
    have q0 : h'.ob h.n = _ := ((he _ (show h.n < h1.n + 1 by omega) (hg.not_low (by omega))).trans (fiveS_ob _ _ _ _ _ (by omega) (by omega))).trans o0
    have q1 : h'.ob (h.n + 1) = rdP (h.n + 1) s (shN s (shN s L.1)) := (he _ (show h.n + 1 < h1.n + 1 by omega) (hg.not_low (by omega))).trans (fiveS_at _ _ _ _ _ k1)
    have q2 : h'.ob (h.n + 2) = _ := ((he _ (show h.n + 2 < h1.n + 1 by omega) (hg.not_low (by omega))).trans (fiveS_ob _ _ _ _ _ (by omega) k2)).trans o2
    have k4 : h'.n = h1.n + 1 + 2 := hn'
    have k3 : h.n + 2 < h'.n := by omega
    simp (maxSteps := 1000000) -implicitDefEqProofs only [push_cast, seval, k3, rd_of q2, rd1_of q2, q2]
    rw [wrapSucc (by omega)]
    refine ⟨(a.1 + 1, .slice (some ⟨h1.n + 2, 0, none⟩) (((L.2.map Var.enc).flatten).length / 2 + 1) 2), by kernel_rfl, ⟨⟨⟨by show a.1 + 1 ≤ 100; omega, by show a.1 + 1 ≤ N; omega, ?_⟩, by show h.n + 3 ≤ h'.n; omega, ?_⟩, ?_, ?_, ?_, ?_⟩, by show 100 - (a.1 + 1) < 100 - a.1; omega⟩
    · intro j hj
      by_cases e : j = a.1
      · rw [e, hL]; exact hb3
      · exact hall j (by have hj' : j < a.1 + 1 := hj; omega)
    · exact q0
    · show h'.ob (h.n + 1) = rdP (h.n + 1) s (itV s (nmN s (0, false)) (a.1 + 1)).1
      rw [q1, itV, hL]
    · rfl
    · show Gr (h.n + 3) (h'.set (h.n + 2) _) _ 2 ((itV s (nmN s (0, false)) (a.1 + 1)).2.map Var.enc).flatten
      rw [itV, hL, flat_snoc]
      exact .inr ⟨_, _, _, rfl, by show h.n + 3 ≤ h1.n + 1 + 1; omega, ow.same (set_ne _ (by show h1.n + 1 + 1 ≠ h.n + 2; omega)) (Nat.le_refl _)⟩
    · exact p'.set (by omega) _
  all_goals
    have o1' : h1.ob (h.n + 1) = rdP (h.n + 1) s L.1 := o1
    with_reducible refine CD.to (l07Var_q (h.n + 1) s L.1 hs _ o1') ?_
    simp (maxSteps := 1000000) -implicitDefEqProofs only [push_cast, seval]
    generalize hM : nmV s L.1 = M
    refine WC.loopA (by kernel_rfl) [9] [10, 49, 50, 51, 52, 53, 54, 55, 56, 57, 58, 59, 60, 61, 62, 63, 64, 65, 66, 67, 68, 69, 70, 71, 72, 73, 74, 75, 76, 77, 78, 79] (fun c : Nat × Value => [.int .i64 (c.1 : Nat)]) (fun c h' => ((c.1 ≤ 2100 ∧ c.1 ≤ M ∧ ∀ j, j < c.1 → (itC s (nmN s L.1) j).1.2 = false) ∧ h1.n ≤ h'.n) ∧ h'.ob (h.n + 1) = rdP (h.n + 1) s (itC s (nmN s L.1) c.1).1 ∧ h'.ob (h.n + 2) = .cells [a.2, c.2, .string ⟨#[]⟩] .solo (h.n + 2) ∧ Gr h1.n h' c.2 3 ((itC s (nmN s L.1) c.1).2.map Cell.enc).flatten ∧ (∀ i, i < h1.n → i ≠ h.n + 1 → i ≠ h.n + 2 → h'.ob i = h1.ob i)) (fun c => 2100 - c.1) (0, .slice none 0 0) (by kernel_rfl) ⟨⟨⟨Nat.zero_le _, Nat.zero_le _, fun j hj => absurd hj (Nat.not_lt_zero j)⟩, Nat.le_refl _⟩, ?_, ?_, Gr.nil _ _ _ _, ?_⟩ ?_
    · exact set_same _ _
    · exact (set_ne _ (by omega)).trans o2
    · intro i _ h1' _
      exact set_ne _ h1'
    intro c g2 h2 hJ
    have ci := hJ.1.1.1
    have cj := hJ.1.1.2.1
    have call := hJ.1.1.2.2
    have cn := hJ.1.2
    have u1 := hJ.2.1
    have u2 := hJ.2.2.1
    have cg := hJ.2.2.2.1
    have ck := hJ.2.2.2.2
    clear hJ
    generalize hC : itC s (nmN s L.1) c.1 = C at *
    have cp : Pre h h2 := ⟨by omega, fun i hi => (ck i (by omega) (by omega) (by omega)).trans (hp.ob i hi)⟩
    simp only [rdP] at u1
    have m1 : h.n + 1 < h2.n := by omega
    have m2 : h.n + 2 < h2.n := by omega
    simp (maxSteps := 1000000) -implicitDefEqProofs only [push_cast, seval, rd_of u1, rd1_of u1, u1, m1]
    with_reducible refine bcase_d (fun hc1 => ?_) (fun hc1 => ?_)
    rotate_left
    have hs2 : ¬ (c.1 < M ∧ c.1 < 2100 ∧ C.1.2 = false) := fun e => by omega
    simp (maxSteps := 1000000) -implicitDefEqProofs only [push_cast, seval]
    rotate_left
    simp (maxSteps := 1000000) -implicitDefEqProofs only [push_cast, seval]
    with_reducible refine bcase_d (fun hc2 => ?_) (fun hc2 => ?_)
    rotate_left
    have hs2 : ¬ (c.1 < M ∧ c.1 < 2100 ∧ C.1.2 = false) := fun e => by omega
    simp (maxSteps := 1000000) -implicitDefEqProofs only [push_cast, seval]
    rotate_left 2
    simp (maxSteps := 1000000) -implicitDefEqProofs only [push_cast, seval, rd_of u1, rd1_of u1, u1, m1]
    cases hc3 : C.1.2
    rotate_left
    have hs2 : ¬ (c.1 < M ∧ c.1 < 2100 ∧ C.1.2 = false) := fun e => by rw [hc3] at e; simp at e
    simp (maxSteps := 1000000) -implicitDefEqProofs only [push_cast, seval, rd_of u1, rd1_of u1, u1, m1, hc3]
    rotate_left 3
    · simp (maxSteps := 1000000) -implicitDefEqProofs only [push_cast, seval, rd_of u1, rd1_of u1, u1, m1, hc3]
      have u1' : h2.ob (h.n + 1) = rdP (h.n + 1) s C.1 := u1
      with_reducible refine CD.to (l07Short_p (h.n + 1) s C.1 hs _ u1') ?_
      simp (maxSteps := 1000000) -implicitDefEqProofs only [push_cast, seval, m1, m2]
      with_reducible refine CD.to (l07Short_p (h.n + 1) s (shN s C.1) hs _ (by simp only [set_ne _ (show h.n + 1 ≠ h2.n by omega)]; exact (alloc_lt (h := h2.set _ _) _ m1).trans (set_same _ _))) ?_
      simp (maxSteps := 1000000) -implicitDefEqProofs only [push_cast, seval, m1, m2]
      with_reducible refine CD.to (l07Short_p (h.n + 1) s (shN s (shN s C.1)) hs _ (by simp only [set_ne _ (show h.n + 1 ≠ h2.n by omega), set_same])) ?_
      simp (maxSteps := 1000000) -implicitDefEqProofs only [push_cast, seval, m1, m2, rd_of u2, rd1_of u2, u2, zl3]
      have hl : (itC s (nmN s L.1) c.1).2.length = c.1 := itC_len _ _ _
      rw [hC] at hl
      have hf : ((C.2.map Cell.enc).flatten).length = C.2.length * 3 := flat_len (k := 3) _ (fun _ => rfl)
      refine Gr.app1 (h0 := h) si49 (by decide) (by decide) (notInt_sl und49) ((cg.mono (by omega)).keep (Nat.le_succ h2.n) (fun i hi => sevenS_ob _ _ _ _ _ _ _ (by have := cg.range hi; omega) (cg.range hi).2)) (sevenS_pre _ _ _ _ _ _ _ cp (by omega)) rfl ?_ (by decide) (fun h' gr ow p' hn' he => ?_)
      · rw [hf]; omega
      have q1 : h'.ob (h.n + 1) = rdP (h.n + 1) s (shN s (shN s (shN s C.1))) := (he _ (show h.n + 1 < h2.n + 1 by omega) (cg.not_low (by omega))).trans (sevenS_at _ _ _ _ _ _ _ m1)
      have q2 : h'.ob (h.n + 2) = _ := ((he _ (show h.n + 2 < h2.n + 1 by omega) (cg.not_low (by omega))).trans (sevenS_ob _ _ _ _ _ _ _ (by omega) m2)).trans u2
      have qk : ∀ i, i < h1.n → i ≠ h.n + 1 → i ≠ h.n + 2 → h'.ob i = h1.ob i := fun i a1 a2 a3 => ((he i (show i < h2.n + 1 by omega) (cg.not_low a1)).trans (sevenS_ob _ _ _ _ _ _ _ a2 (by omega))).trans (ck i a1 a2 a3)
      have k4 : h'.n = h2.n + 1 + 2 := hn'
      have k3 : h.n + 2 < h'.n := by omega
      simp (maxSteps := 1000000) -implicitDefEqProofs only [push_cast, seval, k3, rd_of q2, rd1_of q2, q2]
      rw [wrapSucc (by omega)]
      refine ⟨(c.1 + 1, .slice (some ⟨h2.n + 2, 0, none⟩) (((C.2.map Cell.enc).flatten).length / 3 + 1) 3), by kernel_rfl, ⟨⟨⟨by show c.1 + 1 ≤ 2100; omega, by show c.1 + 1 ≤ M; omega, ?_⟩, by show h1.n ≤ h'.n; omega⟩, ?_, ?_, ?_, ?_⟩, by show 2100 - (c.1 + 1) < 2100 - c.1; omega⟩
      · intro j hj
        by_cases e : j = c.1
        · rw [e, hC]; exact hc3
        · exact call j (by have hj' : j < c.1 + 1 := hj; omega)
      · show h'.ob (h.n + 1) = rdP (h.n + 1) s (itC s (nmN s L.1) (c.1 + 1)).1
        rw [q1, itC, hC]
      · rfl
      · show Gr h1.n (h'.set (h.n + 2) _) _ 3 ((itC s (nmN s L.1) (c.1 + 1)).2.map Cell.enc).flatten
        rw [itC, hC, flat_snoc]
        exact .inr ⟨_, _, _, rfl, by show h1.n ≤ h2.n + 2; omega, ow.same (set_ne _ (by show h2.n + 1 + 1 ≠ h.n + 2; omega)) (Nat.le_refl _)⟩
      · intro i a1 a2 a3
        exact (set_ne _ a3).trans (qk i a1 a2 a3)
    all_goals
      have u1' : h2.ob (h.n + 1) = rdP (h.n + 1) s C.1 := u1
      have m0 : h.n < h2.n := by omega
      with_reducible refine CD.to (l07Short_p (h.n + 1) s C.1 hs _ u1') ?_
      simp (maxSteps := 1000000) -implicitDefEqProofs only [push_cast, seval, m0, m1, m2, rd_of u2, rd1_of u2, u2]
      have w0 : h2.ob h.n = _ := (ck h.n (by omega) (by omega) (by omega)).trans o0
      have ga := hg.read (by decide) (fun _ => rfl)
      have gc := cg.read (by decide) (fun _ => rfl)
      with_reducible refine Exists.elim ga (fun A ga => ?_)
      with_reducible refine Exists.elim ga (fun cA ga => ?_)
      with_reducible refine Exists.elim gc (fun B gc => ?_)
      with_reducible refine Exists.elim gc (fun cB gc => ?_)
      have mx := maxLen_eq
      have hz : Sz ⟨L.2, C.2, shT s C.1⟩ := ⟨fun x hx => by have := itV_size s (nmN s (0, false)) a.1 x (by rw [hL]; exact hx); omega, fun x hx => by have := itC_size s (nmN s L.1) c.1 x (by rw [hC]; exact hx); omega, by have := shT_size s C.1; show (shT s C.1).size ≤ maxLen; omega, by show L.2.length < _; rw [← hL, itV_len]; omega, by show C.2.length < _; rw [← hC, itC_len]; omega⟩
      have hO := StoreText_s ⟨L.2, C.2, shT s C.1⟩ A B cA cB ((h2.set (h.n + 1) (rdP (h.n + 1) s (shN s C.1))).set (h.n + 2) (AOb.cells [a.2, c.2, .string (shT s C.1)] .solo (h.n + 2))) ⟨ga.2 _ (fun i a1 a2 => (set_ne _ (by omega)).trans ((set_ne _ (by omega)).trans (ck i a2 (by omega) (by omega)))), gc.2 _ (fun i a1 a2 => (set_ne _ (by omega)).trans (set_ne _ (by omega)))⟩ hz
      simp only [← ga.1, ← gc.1] at hO
      with_reducible refine CD.to hO ?_
      simp (maxSteps := 1000000) -implicitDefEqProofs only [push_cast, seval, m0, m1, m2, w0, rd_of w0, rdP]
      have hst : Stops s a.1 c.1 := ⟨hi, by rw [hN]; exact hj, hall, by rw [hN, hL]; exact hs', ci, by rw [hL, hM]; exact cj, by rw [hL]; exact call, by rw [hL, hM, hC]; exact hs2⟩
      have eSt : sStore s a.1 c.1 = ⟨L.2, C.2, shT s C.1⟩ := by simp only [sStore, hL, hC]
      have eEn : sEnd s a.1 c.1 = shN s C.1 := by simp only [sEnd, hL, hC]
      cases hd1 : (shN s C.1).2
      rotate_left
      · have eO : sOk s a.1 c.1 = false := by rw [sOk, eEn, hd1]; rfl
        simp (maxSteps := 1000000) -implicitDefEqProofs only [push_cast, seval, m0, m1, m2, w0, rd_of w0, rdP, hd1]
        repeat' (first | with_reducible (first | exact Keep.refl _ _ | assumption | exact byte_lt _ _ | apply Keep.alloc | (refine Keep.set ?_ ?_; rotate_left; · omega) | apply Pre.alloc | apply Pre.set | exact Pre.refl _ | exact le_alloc _ | (refine Pre.keep ?_; assumption) | (refine Pre.n ?_; assumption)) | ((with_reducible (first | refine bcase_d (fun hb => ?_) (fun hb => ?_) | refine bcase_mk (fun hb => ?_) (fun hb => ?_))) <;> try simp (maxSteps := 1000000) -implicitDefEqProofs only [push_cast, seval, m0, m1, m2, w0, rd_of w0, rdP, hd1]) | with_reducible refine And.intro ?_ ?_ | omega | (simp only [alloc_n, set_n, kill_n]; omega) | (exfalso; omega))
        refine ⟨.slice none 0 0, .slice none 0 0, a.1, c.1, hst, ?_⟩
        rw [eO]
        exact ⟨rfl, OwnS.zero _ _, ((cp.set (by omega) _).set (by omega) _).set (Nat.le_refl _) _⟩
      · simp (maxSteps := 1000000) -implicitDefEqProofs only [push_cast, seval, m0, m1, m2, w0, rd_of w0, rdP, hd1]
        repeat' (first | with_reducible (first | exact Keep.refl _ _ | assumption | exact byte_lt _ _ | apply Keep.alloc | (refine Keep.set ?_ ?_; rotate_left; · omega) | apply Pre.alloc | apply Pre.set | exact Pre.refl _ | exact le_alloc _ | (refine Pre.keep ?_; assumption) | (refine Pre.n ?_; assumption)) | ((with_reducible (first | refine bcase_d (fun hb => ?_) (fun hb => ?_) | refine bcase_mk (fun hb => ?_) (fun hb => ?_))) <;> try simp (maxSteps := 1000000) -implicitDefEqProofs only [push_cast, seval, m0, m1, m2, w0, rd_of w0, rdP, hd1]) | with_reducible refine And.intro ?_ ?_ | omega | (simp only [alloc_n, set_n, kill_n]; omega) | (exfalso; omega))
        all_goals first
          | (rw [ga.1, gc.1]; simp [Sim.one]; done)
          | (have eK : sOk s a.1 c.1 = true := by
               rw [sOk, eEn, eSt, hd1]; simp_all
             refine ⟨a.2, c.2, a.1, c.1, hst, ?_⟩
             rw [eK, if_pos rfl, eSt]
             refine ⟨rfl, ⟨h1.n, by omega, ?_, fun i e => (hg.range e).2, ?_⟩, ?_⟩
             · exact (hg.mono (by omega)).keep cn (fun i e => by have := hg.range e; rw [set_ne _ (by omega), set_ne _ (by omega), set_ne _ (by omega)]; exact ck i (by omega) (by omega) (by omega))
             · exact cg.keep (Nat.le_refl _) (fun i e => by have := cg.range e; rw [set_ne _ (by omega), set_ne _ (by omega), set_ne _ (by omega)])
             · exact ((cp.set (by omega) _).set (by omega) _).set (Nat.le_refl _) _)
          | (have eK : sOk s a.1 c.1 = false := by
               rw [sOk, eEn, eSt, hd1]; simp_all
             refine ⟨.slice none 0 0, .slice none 0 0, a.1, c.1, hst, ?_⟩
             rw [eK]
             exact ⟨rfl, OwnS.zero _ _, ((cp.set (by omega) _).set (by omega) _).set (Nat.le_refl _) _⟩)
end Go.Proofs.Ytfbcedjheempfaa
/- Stores read back. Conditions: those that each theorem names. -/
set_option linter.unusedSimpArgs false
set_option linter.unusedVariables false
namespace Go.Sim
/-- A short text that was read is what lies there. -/
theorem rs_short {s : ByteArray} {a : Nat} {p : Nat × Nat} (h : rs s (a : Nat) = some p) : short (s.extract p.2 (p.2 + p.1)) = s.extract a (p.2 + p.1) ∧ a ≤ p.2 + p.1 ∧ p.2 + p.1 ≤ s.size := by
  have h1 := rs_some h
  have h2 := rv_some h1.1
  have h3 := rv_vt h1.1
  have hz : (s.extract p.2 (p.2 + p.1)).size = p.1 := by simp only [ByteArray.size_extract]; omega
  refine ⟨?_, by omega, h1.2.2⟩
  rw [short, hz, h3, extract_app s a p.2 (p.2 + p.1) (by omega) (by omega)]
end Go.Sim
namespace Go.Proofs.Ytfbcedjheempfaa
open Go Go.Sim Go.Proofs
set_option linter.unusedSimpArgs false
set_option linter.unusedVariables false
theorem shN_bad {s : ByteArray} {r : Nat × Bool} (h : r.2 = true) : (shN s r).2 = true := by simp [shN, h]
theorem shN_good {s : ByteArray} {r : Nat × Bool} (h : (shN s r).2 = false) : r.2 = false := by
  cases e : r.2 with
  | false => rfl
  | true => rw [shN_bad e] at h; cases h
theorem sh_back {s : ByteArray} {r : Nat × Bool} (h : (shN s r).2 = false) : short (shT s r) = s.extract r.1 (shN s r).1 ∧ r.1 ≤ (shN s r).1 ∧ (shN s r).1 ≤ s.size := by
  have hr := shN_good h
  unfold shN at h
  simp only [hr, Bool.false_eq_true, if_false] at h
  cases hq : rs s r.1 with
  | none => rw [hq] at h; cases h
  | some p =>
    have := rs_short hq
    simpa [shT, shN, hr, hq, sT, nxT] using this
theorem itV_good {s : ByteArray} {r : Nat × Bool} : ∀ {i : Nat}, (itV s r i).1.2 = false → r.2 = false ∧ ∀ j, j ≤ i → (itV s r j).1.2 = false
  | 0, h => ⟨h, fun j hj => by have : j = 0 := by omega
                               subst this; exact h⟩
  | i + 1, h => by
    have h1 := itV_good (i := i) (shN_good (shN_good h))
    exact ⟨h1.1, fun j hj => by
      by_cases e : j = i + 1
      · subst e; exact h
      · exact h1.2 j (by omega)⟩
theorem itC_good {s : ByteArray} {r : Nat × Bool} : ∀ {i : Nat}, (itC s r i).1.2 = false → r.2 = false ∧ ∀ j, j ≤ i → (itC s r j).1.2 = false
  | 0, h => ⟨h, fun j hj => by have : j = 0 := by omega
                               subst this; exact h⟩
  | i + 1, h => by
    have h1 := itC_good (i := i) (shN_good (shN_good (shN_good h)))
    exact ⟨h1.1, fun j hj => by
      by_cases e : j = i + 1
      · subst e; exact h
      · exact h1.2 j (by omega)⟩
theorem extract_self (s : ByteArray) (a : Nat) : s.extract a a = ⟨#[]⟩ := by
  apply ByteArray.ext
  simp
theorem itV_text {s : ByteArray} {r : Nat × Bool} (hr : r.1 ≤ s.size) : ∀ {i : Nat}, (itV s r i).1.2 = false → cat ((itV s r i).2.map Var.txt) = s.extract r.1 (itV s r i).1.1 ∧ r.1 ≤ (itV s r i).1.1 ∧ (itV s r i).1.1 ≤ s.size
  | 0, h => ⟨by simp only [itV, extract_self]; rfl, Nat.le_refl _, hr⟩
  | i + 1, h => by
    have g1 := shN_good h
    have b2 := sh_back h
    have b1 := sh_back g1
    have ih := itV_text hr (i := i) (shN_good g1)
    simp only [itV, List.map_append, List.map_cons, List.map_nil, cat_snoc, Var.txt]
    rw [ih.1, b1.1, b2.1, extract_app s _ _ _ b1.2.1 b2.2.1, extract_app s _ _ _ ih.2.1 (by omega)]
    exact ⟨rfl, by omega, b2.2.2⟩
theorem itC_text {s : ByteArray} {r : Nat × Bool} (hr : r.1 ≤ s.size) : ∀ {i : Nat}, (itC s r i).1.2 = false → cat ((itC s r i).2.map Cell.txt) = s.extract r.1 (itC s r i).1.1 ∧ r.1 ≤ (itC s r i).1.1 ∧ (itC s r i).1.1 ≤ s.size
  | 0, h => ⟨by simp only [itC, extract_self]; rfl, Nat.le_refl _, hr⟩
  | i + 1, h => by
    have g2 := shN_good h
    have g1 := shN_good g2
    have b3 := sh_back h
    have b2 := sh_back g2
    have b1 := sh_back g1
    have ih := itC_text hr (i := i) (shN_good g1)
    simp only [itC, List.map_append, List.map_cons, List.map_nil, cat_snoc, Cell.txt]
    rw [ih.1, b1.1, b2.1, b3.1, extract_app s _ _ _ b1.2.1 b2.2.1, extract_app s _ _ _ (by omega) b3.2.1, extract_app s _ _ _ ih.2.1 (by omega)]
    exact ⟨rfl, by omega, b3.2.2⟩
theorem nm_back {s : ByteArray} {r : Nat × Bool} (h : (nmN s r).2 = false) : r.2 = false ∧ vt (nmV s r : Nat) = s.extract r.1 (nmN s r).1 ∧ r.1 ≤ (nmN s r).1 ∧ (nmN s r).1 ≤ s.size := by
  unfold nmN nmV at *
  cases hr : r.2 with
  | true => simp [hr] at h
  | false =>
    simp only [hr, Bool.false_eq_true, if_false] at h ⊢
    cases hq : rv s r.1 with
    | none => rw [hq] at h; cases h
    | some p =>
      have h3 := rv_vt hq
      have h2 := rv_some hq
      simp only [oN, nxN, Int.toNat_natCast]
      exact ⟨trivial, h3, by omega, h2.2.2.2⟩
theorem s_text {s : ByteArray} {K1 K2 : Nat} (h : (sEnd s K1 K2).2 = false) :
    vt (nmV s (0, false) : Nat) ++ cat ((sStore s K1 K2).vars.map Var.txt) ++ vt (nmV s (itV s (nmN s (0, false)) K1).1 : Nat) ++ cat ((sStore s K1 K2).cells.map Cell.txt) ++ short (sStore s K1 K2).out = s.extract 0 (sEnd s K1 K2).1 ∧ (sEnd s K1 K2).1 ≤ s.size ∧
    (∀ j, j ≤ K1 → (itV s (nmN s (0, false)) j).1.2 = false) ∧ (∀ j, j ≤ K2 → (itC s (nmN s (itV s (nmN s (0, false)) K1).1) j).1.2 = false) ∧ (nmN s (0, false)).2 = false ∧ (nmN s (itV s (nmN s (0, false)) K1).1).2 = false := by
  unfold sEnd at h ⊢
  have b5 := sh_back h
  have gC := shN_good h
  have kC := itC_good gC
  have b3 := nm_back kC.1
  have kV := itV_good b3.1
  have b1 := nm_back kV.1
  have t2 := itV_text b1.2.2.2 b3.1
  have t4 := itC_text b3.2.2.2 gC
  simp only [sStore]
  refine ⟨?_, b5.2.2, kV.2, kC.2, kV.1, kC.1⟩
  rw [b1.2.1, t2.1, b3.2.1, t4.1, b5.1, extract_app s _ _ _ b1.2.2.1 t2.2.1, extract_app s _ _ _ (by omega) b3.2.2.1, extract_app s _ _ _ (by omega) t4.2.1, extract_app s _ _ _ (by omega) b5.2.1]
theorem ct_le {s : ByteArray} {most : Nat} {r : Nat × Bool} (h : nmV s r ≤ most) : ctM s most r = nmV s r ∧ ctN s most r = nmN s r := by
  unfold ctM ctV ctN nmN
  rw [nmV_eq, if_neg (by omega), decide_eq_false (by omega), Bool.or_false]
  exact ⟨rfl, rfl⟩
theorem ct_good {s : ByteArray} {most : Nat} {r : Nat × Bool} (h : (ctN s most r).2 = false) : nmV s r ≤ most := by
  unfold ctN at h
  rw [nmV_eq] at h
  simp only [Bool.or_eq_false_iff, decide_eq_false_iff_not] at h
  omega
theorem same_read {s : ByteArray} {K1 K2 : Nat} (e1 : K1 = nmV s (0, false)) (l1 : K1 ≤ 60) (e2 : K2 = nmV s (itV s (nmN s (0, false)) K1).1) (l2 : K2 ≤ 2000) : iStore s = sStore s K1 K2 ∧ shN s (iC s).1 = sEnd s K1 K2 := by
  have c1 := ct_le (most := 60) (show nmV s (0, false) ≤ 60 by omega)
  have eL : iL s = itV s (nmN s (0, false)) K1 := by
    rw [iL, show (60 : Int) = ((60 : Nat) : Int) from rfl, c1.1, c1.2, e1]
  have c2 := ct_le (most := 2000) (show nmV s (itV s (nmN s (0, false)) K1).1 ≤ 2000 by omega)
  have eC : iC s = itC s (nmN s (itV s (nmN s (0, false)) K1).1) K2 := by
    rw [iC, eL, show (2000 : Int) = ((2000 : Nat) : Int) from rfl, c2.1, c2.2, ← e2]
  exact ⟨by rw [iStore, sStore, eL, eC], by rw [sEnd, eC]⟩
theorem read_agree {s : ByteArray} {K1 K2 : Nat} (st : Stops s K1 K2) : sOk s K1 K2 = iOk s ∧ (iOk s = true → sStore s K1 K2 = iStore s) := by
  have key : (sOk s K1 K2 = true ∨ iOk s = true) → sOk s K1 K2 = true ∧ iOk s = true ∧ sStore s K1 K2 = iStore s := by
    intro hh
    have facts : K1 = nmV s (0, false) ∧ K1 ≤ 60 ∧ K2 = nmV s (itV s (nmN s (0, false)) K1).1 ∧ K2 ≤ 2000 := by
      rcases hh with h | h
      · simp only [sOk, Bool.and_eq_true, Bool.not_eq_true', decide_eq_true_eq] at h
        have t := s_text h.1
        have l := storeOk_len h.2.1
        simp only [sStore, itV_len, itC_len] at l
        have a4 := st.a4
        have b4 := st.b4
        have a2 := st.a2
        have b2 := st.b2
        have g1 := t.2.2.1 K1 (Nat.le_refl _)
        have g2 := t.2.2.2.1 K2 (Nat.le_refl _)
        refine ⟨?_, l.1, ?_, l.2.1⟩
        · by_cases e : K1 < nmV s (0, false)
          · exact absurd ⟨e, by omega, g1⟩ a4
          · omega
        · by_cases e : K2 < nmV s (itV s (nmN s (0, false)) K1).1
          · exact absurd ⟨e, by omega, g2⟩ b4
          · omega
      · simp only [iOk, Bool.and_eq_true, Bool.not_eq_true', decide_eq_true_eq] at h
        have gC := shN_good h.1.1
        have kC := itC_good gC
        have n2 : nmV s (iL s).1 ≤ 2000 := ct_good (most := 2000) kC.1
        have c2 := ct_le n2
        have b3 := nm_back (c2.2 ▸ kC.1)
        have kV := itV_good b3.1
        have n1 : nmV s (0, false) ≤ 60 := ct_good (most := 60) kV.1
        have c1 := ct_le n1
        have eL : iL s = itV s (nmN s (0, false)) (nmV s (0, false)) := by
          rw [iL, show (60 : Int) = ((60 : Nat) : Int) from rfl, c1.1, c1.2]
        have a2 := st.a2
        have e1 : K1 = nmV s (0, false) := by
          by_cases e : K1 < nmV s (0, false)
          · refine absurd ⟨e, by omega, ?_⟩ st.a4
            have := kV.2 K1 (by rw [show (60 : Int) = ((60 : Nat) : Int) from rfl, c1.1]; omega)
            rw [show (60 : Int) = ((60 : Nat) : Int) from rfl, c1.2] at this
            exact this
          · omega
        have eL' : itV s (nmN s (0, false)) K1 = iL s := by rw [eL, e1]
        have b2 := st.b2
        have b4 := st.b4
        rw [eL'] at b2 b4 ⊢
        refine ⟨e1, by omega, ?_, by omega⟩
        by_cases e : K2 < nmV s (iL s).1
        · refine absurd ⟨e, by omega, ?_⟩ b4
          have := kC.2 K2 (by rw [show (2000 : Int) = ((2000 : Nat) : Int) from rfl, c2.1]; omega)
          rw [show (2000 : Int) = ((2000 : Nat) : Int) from rfl, c2.2] at this
          exact this
        · omega
    have sm := same_read facts.1 facts.2.1 facts.2.2.1 facts.2.2.2
    have txt : (sEnd s K1 K2).2 = false → storeT (sStore s K1 K2) = s.extract 0 (sEnd s K1 K2).1 ∧ (sEnd s K1 K2).1 ≤ s.size := fun h => by
      have t := s_text h
      have v1 : (sStore s K1 K2).vars.length = nmV s (0, false) := by rw [← facts.1]; exact itV_len _ _ _
      have v2 : (sStore s K1 K2).cells.length = nmV s (itV s (nmN s (0, false)) K1).1 := by rw [← facts.2.2.1]; exact itC_len _ _ _
      refine ⟨?_, t.2.1⟩
      rw [← t.1, storeT, varsT_all, cellsT_all, v1, v2]
    rcases hh with h | h
    · refine ⟨h, ?_, sm.1.symm⟩
      simp only [sOk, Bool.and_eq_true, Bool.not_eq_true', decide_eq_true_eq] at h
      have t := txt h.1
      rw [h.2.2] at t
      have hz := congrArg ByteArray.size t.1
      simp only [ByteArray.size_extract] at hz
      simp only [iOk, Bool.and_eq_true, Bool.not_eq_true', decide_eq_true_eq, sm.1, sm.2]
      exact ⟨⟨h.1, by omega⟩, h.2.1⟩
    · refine ⟨?_, h, sm.1.symm⟩
      simp only [iOk, Bool.and_eq_true, Bool.not_eq_true', decide_eq_true_eq, sm.1, sm.2] at h
      have t := txt h.1.1
      simp only [sOk, Bool.and_eq_true, Bool.not_eq_true', decide_eq_true_eq]
      refine ⟨h.1.1, h.2, ?_⟩
      rw [t.1, show (sEnd s K1 K2).1 = s.size by omega, extract_all]
  cases hs : sOk s K1 K2 <;> cases hi : iOk s <;> simp_all
end Go.Proofs.Ytfbcedjheempfaa
/- Lines of slices that grow: what a heap that stands for a world tells of them; writes into one's own slices. Conditions: those that each theorem names. -/
set_option linter.unusedVariables false
set_option linter.unusedSimpArgs false
namespace Go.Sim
variable {P : Program} {h : AH}

structure Fit (h : AH) : Prop where
  tipu : ∀ i j ci cj n, h.ob i = .cells ci .tip n → h.ob j = .cells cj .tip n → i = j
  solo : ∀ i cs n, h.ob i = .cells cs .solo n → n = i ∧ ∀ j, (h.ob j).own = some i → j = i
theorem CC.withFit {f : FuncId} {args : List Value} {R : Value → AH → Prop} (hc : Fit h → CC P f args h R) : CC P f args h R := fun FB w0 μ w cargs o a K Q s => hc ⟨s.tipu, s.solo⟩ FB w0 μ w cargs o a K Q s
/-- What stands in an object that one may write: its line. -/
structure Line (h : AH) (i ln : Nat) : Prop where
  ob : ∃ all st, h.ob i = .cells all st ln ∧ (st = .solo ∨ st = .tip)
theorem Fit.ne (f : Fit h) {i j li lj : Nat} (a : Line h i li) (b : Line h j lj) (hij : i ≠ j) : (h.ob j).own ≠ some li := by
  obtain ⟨ca, sa, ea, ha⟩ := a.ob
  obtain ⟨cb, sb, eb, hb⟩ := b.ob
  rw [eb]
  intro e
  have e2 : lj = li := by
    rcases hb with rfl | rfl <;> simpa [AOb.own] using e
  subst e2
  rcases ha with rfl | rfl
  · have := f.solo i ca lj ea
    exact hij (this.2 j (by rw [eb]; rcases hb with rfl | rfl <;> simp [AOb.own, this.1])).symm
  · rcases hb with rfl | rfl
    · have := f.solo j cb lj eb
      exact hij (this.2 i (by rw [ea]; simp [AOb.own, this.1]))
    · exact hij (f.tipu i j ca cb lj ea eb)
/-- One's own slice is written in place. -/
theorem wrO_own {i ln off : Nat} {all : List Value} {st : Stat} (e : h.ob i = .cells all st ln) (hs : st = .solo ∨ st = .tip) (vs : List Value) (hb : off + vs.length ≤ all.length) :
    ∃ h', wrO h i (h.ob i) off vs = some h' ∧ h'.n = h.n ∧ h'.ob i = .cells (putL all off vs) st ln ∧ ∀ j, j ≠ i → (h.ob j).own ≠ some ln → h'.ob j = h.ob j := by
  rw [e]
  rcases hs with rfl | rfl
  · refine ⟨h.set i (.cells (putL all off vs) .solo ln), by rw [wrO_solo, if_pos hb], rfl, set_same _ _, fun j hj _ => set_ne _ hj⟩
  · refine ⟨(h.kill ln).set i (.cells (putL all off vs) .tip ln), by rw [wrO_tip, if_pos hb], rfl, set_same _ _, fun j hj ho => ?_⟩
    rw [set_ne _ hj]
    simp only [AH.kill, ho, if_false]
end Go.Sim
/- Marks: one's own slices are written over, field by field. Conditions: those that each theorem names. -/
set_option linter.unusedVariables false
set_option linter.unusedSimpArgs false
namespace Go.Sim
variable {P : Program} {h : AH}

/-- Only this object was written, and what is stale by it forgotten. -/
structure Wr (h h' : AH) (id : Nat) : Prop where
  n : h'.n = h.n
  line : ∀ l, Line h id l ↔ Line h' id l
  ob : ∀ j, j ≠ id → (∀ l, Line h id l → (h.ob j).own ≠ some l) → h'.ob j = h.ob j
theorem Wr.refl (h : AH) (id : Nat) : Wr h h id := ⟨rfl, fun _ => Iff.rfl, fun _ _ _ => rfl⟩
theorem Wr.trans {a b c : AH} {id : Nat} (x : Wr a b id) (y : Wr b c id) : Wr a c id :=
  ⟨y.n.trans x.n, fun l => (x.line l).trans (y.line l), fun j hj hl => by
    have e := x.ob j hj hl
    rw [← e]
    refine y.ob j hj (fun l hb => ?_)
    rw [e]
    exact hl l ((x.line l).2 hb)⟩
theorem Own.line {id off n k : Nat} {cs : List Value} (w : Own h id off n k cs) : ∃ l, Line h id l := by
  obtain ⟨all, st, ln, e, hs, _, _⟩ := w.ob
  exact ⟨ln, ⟨all, st, e, hs⟩⟩
theorem Line.uniq {id l l' : Nat} (a : Line h id l) (b : Line h id l') : l = l' := by
  obtain ⟨_, _, e, _⟩ := a.ob
  obtain ⟨_, _, e', _⟩ := b.ob
  rw [e] at e'
  injection e'
/-- What stands beside it stays. -/
theorem Wr.keep {h' : AH} {id j : Nat} (w : Wr h h' id) (f : Fit h) {li : Nat} (hi : Line h id li) (hj : j ≠ id) (hl : (∃ lj, Line h j lj) ∨ (h.ob j).own = none) : h'.ob j = h.ob j := by
  refine w.ob j hj (fun l hl' => ?_)
  rcases hl with ⟨lj, hl⟩ | hl
  · exact f.ne hl' hl (fun e => hj e.symm)
  · rw [hl]; exact fun e => by cases e
theorem putL_in' {vs cs : List Value} {o j : Nat} (h1 : o ≤ j) (h2 : j < o + vs.length) (h3 : o + vs.length ≤ cs.length) : (putL cs o vs)[j]? = vs[j - o]? := by
  have := putL_in vs cs o (j - o) (by omega) h3
  rw [show o + (j - o) = j by omega] at this
  rw [this, List.getElem?_eq_getElem]
theorem Own.wr {id off n k : Nat} {cs : List Value} (w : Own h id off n k cs) {lo : Nat} {vs : List Value} (hb : lo + vs.length ≤ n * k) {K : AH → Prop}
    (hk : ∀ h', Own h' id off n k (putL cs lo vs) → Wr h h' id → K h') : onS (wrO h id (h.ob id) (off + lo) vs) K := by
  obtain ⟨all, st, ln, e, hs, hl, hd⟩ := w.ob
  obtain ⟨h', e1, hn, e2, e3⟩ := wrO_own e hs vs (off := off + lo) (by omega)
  rw [e1]
  refine hk h' ⟨by rw [hn]; exact w.lt, by rw [putL_length]; exact w.len, _, st, ln, e2, hs, by rw [putL_length]; exact hl, ?_⟩ ⟨hn, fun l => ?_, fun j hj ho => e3 j hj (ho ln ⟨all, st, e, hs⟩)⟩
  · rw [← hd]
    apply List.ext_getElem?
    intro m
    rw [List.getElem?_drop]
    by_cases h1 : m < lo
    · rw [putL_out _ _ _ _ (.inl (by omega)), putL_out _ _ _ _ (.inl h1), List.getElem?_drop]
    · by_cases h2 : m < lo + vs.length
      · rw [putL_in' (by omega) (by omega) (by omega), putL_in' (by omega) (by omega) (by simp; omega)]
        congr 1; omega
      · rw [putL_out _ _ _ _ (.inr (by omega)), putL_out _ _ _ _ (.inr (by omega)), List.getElem?_drop]
  · constructor
    · rintro ⟨a, s, ea, hs'⟩
      rw [e] at ea
      obtain ⟨rfl, rfl, rfl⟩ : all = a ∧ st = s ∧ ln = l := by simpa using ea
      exact ⟨_, _, e2, hs⟩
    · rintro ⟨a, s, ea, hs'⟩
      rw [e2] at ea
      obtain ⟨_, rfl, rfl⟩ : _ = a ∧ st = s ∧ ln = l := by simpa using ea
      exact ⟨_, _, e, hs⟩
/-- What stands: it is not written to beside. -/
def live (h : AH) (j : Nat) : Prop := (∃ l, Line h j l) ∨ (h.ob j).own = none
/-- Only this slice was written. -/
structure WrV (h h' : AH) (v : Value) : Prop where
  n : h'.n = h.n
  ob : ∀ j, ¬ atBlock v j → live h j → h'.ob j = h.ob j
theorem WrV.refl (h : AH) (v : Value) : WrV h h v := ⟨rfl, fun _ _ _ => rfl⟩
theorem Wr.toV {h' : AH} {id off n m c k : Nat} {cs : List Value} (w : Wr h h' id) (f : Fit h) (o : Own h id off n k cs) : WrV h h' (.slice (some ⟨id, off, none⟩) m c) := by
  obtain ⟨l, hl⟩ := o.line
  exact ⟨w.n, fun j hj hv => w.keep f hl (fun e => hj (show id = j from e.symm)) hv⟩
theorem Gr.live {n0 : Nat} {v : Value} {k : Nat} {cs : List Value} (w : Gr n0 h v k cs) {i : Nat} (e : atBlock v i) : live h i := by
  rcases w with ⟨c, rfl, rfl⟩ | ⟨id, off, n, rfl, b, o⟩
  · exact e.elim
  · have e' : id = i := e
    subst e'
    exact .inl o.line
/-- The marks from k on. -/
def marks (f : Nat → Value) (k n : Nat) : List Value := (List.range n).map fun j => f (k + j)
theorem marks_length (f : Nat → Value) (k n : Nat) : (marks f k n).length = n := by simp [marks]
theorem marks_get (f : Nat → Value) (k n : Nat) {j : Nat} (h : j < n) : (marks f k n)[j]? = some (f (k + j)) := by simp [marks, h]
/-- The first i cells are marked. -/
def Mkd (f : Nat → Value) (k : Nat) (cs : List Value) (i : Nat) : Prop := ∀ j, j < i → cs[j]? = some (f (k + j))
theorem Mkd.zero (f : Nat → Value) (k : Nat) (cs : List Value) : Mkd f k cs 0 := fun j hj => absurd hj (Nat.not_lt_zero j)
theorem Mkd.put {f : Nat → Value} {k : Nat} {cs : List Value} {i : Nat} (m : Mkd f k cs i) (hi : i < cs.length) {v : Value} (hv : v = f (k + i)) : Mkd f k (putL cs i [v]) (i + 1) := fun j hj => by
  by_cases e : j = i
  · subst e; rw [putL_in' (Nat.le_refl _) (by simp) (by simp; omega)]; simp [hv]
  · rw [putL_out _ _ _ _ (.inl (by omega))]; exact m j (by omega)
theorem Mkd.all {f : Nat → Value} {k : Nat} {cs : List Value} {n : Nat} (m : Mkd f k cs n) (hn : cs.length = n) : cs = marks f k n := by
  apply List.ext_getElem?
  intro j
  by_cases hj : j < n
  · rw [m j hj, marks_get f k n hj]
  · rw [List.getElem?_eq_none (by omega), List.getElem?_eq_none (by rw [marks_length]; omega)]

/-- The figures of a number, ahead of a text. -/
def dg : Nat → Nat → ByteArray → ByteArray
  | 0, _, o => o
  | f + 1, k, o => if k = 0 then o else dg f (k / 10) (⟨#[UInt8.ofNat (48 + k % 10)]⟩ ++ o)
def mt (k : Nat) : ByteArray := ⟨#[109]⟩ ++ dg k k ⟨#[]⟩
theorem dg_zero (f : Nat) (o : ByteArray) : dg f 0 o = o := by cases f <;> rfl
theorem dg_fuel : ∀ {f g k : Nat} (o : ByteArray), k ≤ f → k ≤ g → dg f k o = dg g k o
  | f, g, 0, o, _, _ => by rw [dg_zero, dg_zero]
  | 0, _, k + 1, _, h, _ => absurd h (by omega)
  | _, 0, k + 1, _, _, h => absurd h (by omega)
  | f + 1, g + 1, k + 1, o, hf, hg => by
    simp only [dg]
    rw [if_neg (by omega), if_neg (by omega)]
    exact dg_fuel _ (by omega) (by omega)
theorem dg_step {k : Nat} (hk : 0 < k) (o : ByteArray) : dg k k o = dg (k / 10) (k / 10) (⟨#[UInt8.ofNat (48 + k % 10)]⟩ ++ o) := by
  obtain ⟨k', rfl⟩ : ∃ k', k = k' + 1 := ⟨k - 1, by omega⟩
  rw [dg, if_neg (by omega)]
  exact dg_fuel _ (by omega) (Nat.le_refl _)
end Go.Sim
namespace Go.Proofs.Ytfbcedjheempfaa
open Go Go.Sim Go.Proofs
set_option linter.unusedSimpArgs false
set_option linter.unusedVariables false
set_option maxRecDepth 100000
set_option maxHeartbeats 1000000
theorem markText_c (k : Nat) (h0 : 0 < k) (hk : k < 4000000000000) (h : AH) : CD Try.prog 62 [.int .i64 (k : Nat)] h (.string (mt k)) h := by
  refine CD.quiet ?_ (low_string _ _)
  refine CC.ofN Try.func62 Try.ntmps62 Try.results62 rfl (by decide) (by kernel_rfl) ?_
  simp (maxSteps := 1000000) -implicitDefEqProofs only [push_cast, seval]
  with_reducible refine bcase_d (fun hb => ?_) (fun hb => ?_)
  · exfalso; omega
  simp (maxSteps := 1000000) -implicitDefEqProofs only [push_cast, seval]
  refine WC.loopA (by kernel_rfl) [0, 3] [6, 7, 8, 9, 10, 11, 12, 13, 14, 15, 16, 17] (fun a : Nat × ByteArray => [.int .i64 (a.1 : Nat), .string a.2]) (fun a h' => (dg a.1 a.1 a.2 = dg k k ⟨#[]⟩ ∧ a.2.size + a.1 ≤ k) ∧ Pre h h') (fun a => a.1) (k, ⟨#[]⟩) (by kernel_rfl) ⟨⟨rfl, by show 0 + k ≤ k; omega⟩, Pre.refl _⟩ ?_
  intro a g h1 hJ
  have hd := hJ.1.1
  have hl := hJ.1.2
  have hp := hJ.2
  clear hJ
  simp (maxSteps := 1000000) -implicitDefEqProofs only [push_cast, seval]
  with_reducible refine bcase_d (fun hb => ?_) (fun hb => ?_)
  · have e1 : (IntKind.u8.wrap (IntKind.i64.wrap (48 + (a.1 : Int).tmod 10))).toNat = 48 + a.1 % 10 := by
      rw [Int.tmod_eq_emod_of_nonneg (by omega), w64 (by omega) (by omega), w8 (by omega) (by omega)]; omega
    have e2 : IntKind.i64.wrap ((a.1 : Int).tdiv 10) = ((a.1 / 10 : Nat) : Int) := by
      rw [Int.tdiv_eq_ediv_of_nonneg (by omega), w64 (by omega) (by omega)]; omega
    simp (maxSteps := 1000000) -implicitDefEqProofs only [push_cast, seval, e1, e2]
    have z1 : (ByteArray.mk #[UInt8.ofNat (48 + a.1 % 10)]).size = 1 := rfl
    refine And.intro (by rw [z1]; omega) ⟨(a.1 / 10, ⟨#[UInt8.ofNat (48 + a.1 % 10)]⟩ ++ a.2), by kernel_rfl, ⟨⟨?_, ?_⟩, hp.alloc _⟩, ?_⟩
    · rw [← hd, dg_step (k := a.1) (by omega)]
    · show (ByteArray.mk #[UInt8.ofNat (48 + a.1 % 10)] ++ a.2).size + a.1 / 10 ≤ k
      rw [ByteArray.size_append, z1]; omega
    · show a.1 / 10 < a.1
      omega
  · have e : a.1 = 0 := by omega
    have z1 : (ByteArray.mk #[109]).size = 1 := rfl
    rw [e, dg_zero] at hd
    rw [hd] at hl
    simp (maxSteps := 1000000) -implicitDefEqProofs only [push_cast, seval]
    refine And.intro (by rw [z1, hd]; omega) ?_
    repeat' (first | with_reducible (first | exact Keep.refl _ _ | assumption | exact byte_lt _ _ | apply Keep.alloc | (refine Keep.set ?_ ?_; rotate_left; · omega) | apply Pre.alloc | apply Pre.set | exact Pre.refl _ | exact le_alloc _ | (refine Pre.keep ?_; assumption) | (refine Pre.n ?_; assumption)) | ((with_reducible (first | refine bcase_d (fun hb => ?_) (fun hb => ?_) | refine bcase_mk (fun hb => ?_) (fun hb => ?_))) <;> try simp (maxSteps := 1000000) -implicitDefEqProofs only [push_cast, seval]) | with_reducible refine And.intro ?_ ?_ | omega | (simp only [alloc_n, set_n, kill_n]; omega) | (exfalso; omega))
    rw [hd]; rfl
/-- A slice whose cells are marked. -/
def fS (k : Nat) : Value := .string (mt k)
def fI (k : Nat) : Value := .int .i64 (k : Nat)
theorem markVarS_o (id off n : Nat) (cs : List Value) (k : Nat) (h : AH) (o : Own h id off n 2 cs) (h0 : 0 < k) (hk : k + n * 2 < 4000000000000) (hn : n < 274877906944) :
    CC Try.prog 91 [.slice (some ⟨id, off, none⟩) n 2, .int .i64 (k : Nat)] h (fun v h' => v = .int .i64 ((k + n * 2 : Nat) : Int) ∧ Own h' id off n 2 (marks fS k (n * 2)) ∧ Wr h h' id) := by
  refine CC.ofN Try.func91 Try.ntmps91 Try.results91 rfl (by decide) (by kernel_rfl) ?_
  simp (maxSteps := 1000000) -implicitDefEqProofs only [push_cast, seval]
  refine WC.loopA (by kernel_rfl) [1, 5] [6, 7, 8, 9, 10, 11, 12, 13, 14, 15, 16, 17, 18, 19, 20, 21, 22, 23, 24, 25, 26, 27] (fun a : Nat × Nat × List Value => [.int .i64 (a.2.1 : Nat), .int .i64 (a.1 : Nat)]) (fun a h' => (a.1 ≤ n ∧ a.2.1 = k + a.1 * 2 ∧ Mkd fS k a.2.2 (a.1 * 2)) ∧ Own h' id off n 2 a.2.2 ∧ Wr h h' id) (fun a => n - a.1) (0, k, cs) (by kernel_rfl) ⟨⟨Nat.zero_le _, rfl, Mkd.zero _ _ _⟩, o, Wr.refl _ _⟩ ?_
  intro a g h1 hJ
  have hi := hJ.1.1
  have hK := hJ.1.2.1
  have hm := hJ.1.2.2
  have o0 := hJ.2.1
  have r0 := hJ.2.2
  clear hJ
  have l0 := o0.lt
  have n0 := o0.len
  simp (maxSteps := 1000000) -implicitDefEqProofs only [push_cast, seval]
  with_reducible refine bcase_d (fun hb => ?_) (fun hb => ?_)
  · have hi' : a.1 < n := by omega
    with_reducible refine nameN (a.2.1 + 1) (fun K1 hK1 => ?_)
    have w1 : IntKind.i64.wrap ((a.2.1 : Int) + 1) = (K1 : Nat) := by rw [wrapSucc (by omega), hK1]
    with_reducible refine nameN (K1 + 1) (fun K2 hK2 => ?_)
    have w2 : IntKind.i64.wrap ((K1 : Int) + 1) = (K2 : Nat) := by rw [wrapSucc (by omega), hK2]
    simp (maxSteps := 1000000) -implicitDefEqProofs only [push_cast, seval]
    with_reducible refine CD.to (markText_c a.2.1 (by omega) (by omega) _) ?_
    simp (maxSteps := 1000000) -implicitDefEqProofs only [push_cast, seval, l0, w1, w2]
    refine And.intro (by omega) (And.intro (by omega) ?_)
    refine (show Own _ id off n 2 _ from o0).wr (lo := a.1 * 2) (vs := [.string (mt a.2.1)]) (by simp only [List.length_cons, List.length_nil]; omega) (fun h2 o1 q1 => ?_)
    have l1 := o1.lt
    simp (maxSteps := 1000000) -implicitDefEqProofs only [push_cast, seval, l1, w1, w2]
    with_reducible refine CD.to (markText_c K1 (by omega) (by omega) _) ?_
    simp (maxSteps := 1000000) -implicitDefEqProofs only [push_cast, seval, l1, w1, w2]
    refine And.intro (by omega) (And.intro (by omega) ?_)
    refine (show Own _ id off n 2 _ from o1).wr (lo := a.1 * 2 + 1) (vs := [.string (mt K1)]) (by simp only [List.length_cons, List.length_nil]; omega) (fun h3 o2 q2 => ?_)
    have l2 := o2.lt
    simp (maxSteps := 1000000) -implicitDefEqProofs only [push_cast, seval, l2, w1, w2]
    rw [wrapSucc (by omega)]
    refine ⟨(a.1 + 1, K2, putL (putL (a.2.2) (a.1 * 2) [.string (mt a.2.1)]) (a.1 * 2 + 1) [.string (mt K1)]), by kernel_rfl, ⟨⟨by show a.1 + 1 ≤ n; omega, by show K2 = k + (a.1 + 1) * 2; omega, ?_⟩, o2, r0.trans ((q1).trans q2)⟩, by show n - (a.1 + 1) < n - a.1; omega⟩
    rw [show (a.1 + 1) * 2 = a.1 * 2 + 1 + 1 from by omega]
    exact ((hm).put (by (try simp only [putL_length]); omega) (by show _ = fS _; rw [show k + (a.1 * 2) = a.2.1 by omega]; rfl)).put (by (try simp only [putL_length]); omega) (by show _ = fS _; rw [show k + (a.1 * 2 + 1) = K1 by omega]; rfl)
  · have e : a.1 = n := by omega
    simp (maxSteps := 1000000) -implicitDefEqProofs only [push_cast, seval]
    rw [e] at hm
    have hq := hm.all n0
    rw [hq] at o0
    refine ⟨?_, o0, r0⟩
    rw [hK, e]
    push_cast
    rfl

theorem heldVarS_o (id off n c : Nat) (k : Nat) (h : AH) (o : Own h id off n 2 (marks fS k (n * 2))) (h0 : 0 < k) (hk : k + n * 2 < 4000000000000) (hn : n < 274877906944) :
    CD Try.prog 93 [.slice (some ⟨id, off, none⟩) n c, .int .i64 (k : Nat)] h (.int .i64 ((k + n * 2 : Nat) : Int)) h := by
  refine CD.quiet ?_ (low_int _ _ _)
  refine CC.ofN Try.func93 Try.ntmps93 Try.results93 rfl (by decide) (by kernel_rfl) ?_
  simp (maxSteps := 1000000) -implicitDefEqProofs only [push_cast, seval]
  refine WC.loopA (by kernel_rfl) [1, 5] [4, 6, 7, 8, 9, 10, 11, 12, 13, 14, 15, 16, 17, 18, 19, 20, 21, 22, 23, 24, 25, 26, 27, 28, 29, 30, 31] (fun a : Nat × Nat => [.int .i64 (a.2 : Nat), .int .i64 (a.1 : Nat)]) (fun a h' => (a.1 ≤ n ∧ a.2 = k + a.1 * 2) ∧ Pre h h') (fun a => n - a.1) (0, k) (by kernel_rfl) ⟨⟨Nat.zero_le _, rfl⟩, Pre.refl _⟩ ?_
  intro a g h1 hJ
  have hi := hJ.1.1
  have hK := hJ.1.2
  have hp := hJ.2
  clear hJ
  have o1 := o.pre hp
  have l1 := o1.lt
  simp (maxSteps := 1000000) -implicitDefEqProofs only [push_cast, seval]
  with_reducible refine bcase_d (fun hb => ?_) (fun hb => ?_)
  · have hi' : a.1 < n := by omega
    with_reducible refine nameN (a.2 + 1) (fun K1 hK1 => ?_)
    have w1 : IntKind.i64.wrap ((a.2 : Int) + 1) = (K1 : Nat) := by rw [wrapSucc (by omega), hK1]
    with_reducible refine nameN (K1 + 1) (fun K2 hK2 => ?_)
    have w2 : IntKind.i64.wrap ((K1 : Int) + 1) = (K2 : Nat) := by rw [wrapSucc (by omega), hK2]
    have g0 : rd1 h1 id (off + a.1 * 2) = some (.string (mt a.2)) := by
      have := o1.rd1 (j := a.1 * 2) (by omega)
      rw [show off + a.1 * 2 = off + (a.1 * 2) by omega, this, List.getD_eq_getElem?_getD, marks_get fS k (n * 2) (by omega)]
      rw [show k + (a.1 * 2) = a.2 by omega]; rfl
    have g1 : rd1 h1 id (off + a.1 * 2 + 1) = some (.string (mt K1)) := by
      have := o1.rd1 (j := a.1 * 2 + 1) (by omega)
      rw [show off + a.1 * 2 + 1 = off + (a.1 * 2 + 1) by omega, this, List.getD_eq_getElem?_getD, marks_get fS k (n * 2) (by omega)]
      rw [show k + (a.1 * 2 + 1) = K1 by omega]; rfl
    simp (maxSteps := 1000000) -implicitDefEqProofs only [push_cast, seval, l1, w1, w2, g0, g1]
    refine WC.draw' (by kernel_rfl) (by kernel_rfl) (.q 0 (.q 1 (.q 2 (.q 3 (.q 4 (.q 5 (.c 6 (.q 7 (.done))))))))) (by kernel_rfl) ?_
    simp (maxSteps := 1000000) -implicitDefEqProofs only [push_cast, seval, l1, w1, w2, g0, g1]
    refine And.intro (by omega) (And.intro (by omega) ?_)
    simp (maxSteps := 1000000) -implicitDefEqProofs only [push_cast, seval, l1, w1, w2, g0, g1]
    refine CQ.pure (fun h' => markText_c a.2 (by omega) (by omega) h') ?_
    simp (maxSteps := 1000000) -implicitDefEqProofs only [push_cast, seval, l1, w1, w2, g0, g1]
    refine WC.draw' (by kernel_rfl) (by kernel_rfl) (.q 0 (.q 1 (.q 2 (.q 3 (.q 4 (.q 5 (.c 6 (.q 7 (.done))))))))) (by kernel_rfl) ?_
    simp (maxSteps := 1000000) -implicitDefEqProofs only [push_cast, seval, l1, w1, w2, g0, g1]
    refine And.intro (by omega) (And.intro (by omega) ?_)
    simp (maxSteps := 1000000) -implicitDefEqProofs only [push_cast, seval, l1, w1, w2, g0, g1]
    refine CQ.pure (fun h' => markText_c K1 (by omega) (by omega) h') ?_
    simp (maxSteps := 1000000) -implicitDefEqProofs only [push_cast, seval, l1, w1, w2, g0, g1]
    rw [wrapSucc (by omega)]
    exact ⟨(a.1 + 1, K2), by kernel_rfl, ⟨⟨by show a.1 + 1 ≤ n; omega, by show K2 = k + (a.1 + 1) * 2; omega⟩, hp⟩, by show n - (a.1 + 1) < n - a.1; omega⟩
  · have e : a.1 = n := by omega
    simp (maxSteps := 1000000) -implicitDefEqProofs only [push_cast, seval]
    refine ⟨by rw [hK, e]; push_cast; rfl, hp.keep⟩
theorem markVarS_n (c k : Nat) (hk : k < 4000000000000) (h : AH) : CD Try.prog 91 [.slice none 0 c, .int .i64 (k : Nat)] h (.int .i64 (k : Nat)) h := by
  refine CD.quiet ?_ (low_int _ _ _)
  refine CC.ofN Try.func91 Try.ntmps91 Try.results91 rfl (by decide) (by kernel_rfl) ?_
  simp (maxSteps := 1000000) -implicitDefEqProofs only [push_cast, seval]
  refine WC.loopA (by kernel_rfl) [1, 5] [6, 7, 8, 9, 10, 11, 12, 13, 14, 15, 16, 17, 18, 19, 20, 21, 22, 23, 24, 25, 26, 27] (fun a : Nat => [.int .i64 (k : Nat), .int .i64 (a : Nat)]) (fun a h' => a = 0 ∧ Pre h h') (fun a => 1 - a) 0 (by kernel_rfl) ⟨rfl, Pre.refl _⟩ ?_
  intro a g h1 hJ
  have e := hJ.1
  have hp := hJ.2
  clear hJ
  subst e
  simp (maxSteps := 1000000) -implicitDefEqProofs only [push_cast, seval]
  repeat' (first | with_reducible (first | exact Keep.refl _ _ | assumption | exact byte_lt _ _ | apply Keep.alloc | (refine Keep.set ?_ ?_; rotate_left; · omega) | apply Pre.alloc | apply Pre.set | exact Pre.refl _ | exact le_alloc _ | (refine Pre.keep ?_; assumption) | (refine Pre.n ?_; assumption)) | ((with_reducible (first | refine bcase_d (fun hb => ?_) (fun hb => ?_) | refine bcase_mk (fun hb => ?_) (fun hb => ?_))) <;> try simp (maxSteps := 1000000) -implicitDefEqProofs only [push_cast, seval]) | with_reducible refine And.intro ?_ ?_ | omega | (simp only [alloc_n, set_n, kill_n]; omega) | (exfalso; omega))
theorem heldVarS_n (c k : Nat) (hk : k < 4000000000000) (h : AH) : CD Try.prog 93 [.slice none 0 c, .int .i64 (k : Nat)] h (.int .i64 (k : Nat)) h := by
  refine CD.quiet ?_ (low_int _ _ _)
  refine CC.ofN Try.func93 Try.ntmps93 Try.results93 rfl (by decide) (by kernel_rfl) ?_
  simp (maxSteps := 1000000) -implicitDefEqProofs only [push_cast, seval]
  refine WC.loopA (by kernel_rfl) [1, 5] [4, 6, 7, 8, 9, 10, 11, 12, 13, 14, 15, 16, 17, 18, 19, 20, 21, 22, 23, 24, 25, 26, 27, 28, 29, 30, 31] (fun a : Nat => [.int .i64 (k : Nat), .int .i64 (a : Nat)]) (fun a h' => a = 0 ∧ Pre h h') (fun a => 1 - a) 0 (by kernel_rfl) ⟨rfl, Pre.refl _⟩ ?_
  intro a g h1 hJ
  have e := hJ.1
  have hp := hJ.2
  clear hJ
  subst e
  simp (maxSteps := 1000000) -implicitDefEqProofs only [push_cast, seval]
  repeat' (first | with_reducible (first | exact Keep.refl _ _ | assumption | exact byte_lt _ _ | apply Keep.alloc | (refine Keep.set ?_ ?_; rotate_left; · omega) | apply Pre.alloc | apply Pre.set | exact Pre.refl _ | exact le_alloc _ | (refine Pre.keep ?_; assumption) | (refine Pre.n ?_; assumption)) | ((with_reducible (first | refine bcase_d (fun hb => ?_) (fun hb => ?_) | refine bcase_mk (fun hb => ?_) (fun hb => ?_))) <;> try simp (maxSteps := 1000000) -implicitDefEqProofs only [push_cast, seval]) | with_reducible refine And.intro ?_ ?_ | omega | (simp only [alloc_n, set_n, kill_n]; omega) | (exfalso; omega))
theorem markVarS_c (n0 : Nat) (A : Option Addr) (n : Nat) (cs : List Value) (k : Nat) (h : AH) (o : Gr n0 h (.slice A n 2) 2 cs) (hc : cs.length = n * 2) (h0 : 0 < k) (hk : k + n * 2 < 4000000000000) (hn : n < 274877906944) :
    CC Try.prog 91 [.slice A n 2, .int .i64 (k : Nat)] h (fun v h' => v = .int .i64 ((k + n * 2 : Nat) : Int) ∧ Gr n0 h' (.slice A n 2) 2 (marks fS k (n * 2)) ∧ WrV h h' (.slice A n 2)) := by
  refine CC.withFit (fun ft => ?_)
  rcases o with ⟨c, e, e2⟩ | ⟨id, off, m, e, hb, ow⟩
  · injection e with e3 e4 e5
    subst e3 e4 e5 e2
    exact (markVarS_n 2 k (by omega) h).to ⟨rfl, .inl ⟨2, rfl, rfl⟩, WrV.refl _ _⟩
  · injection e with e3 e4
    subst e3 e4
    exact (markVarS_o id off n cs k h ow h0 hk hn).mono (fun v h' ⟨a, b, c⟩ => ⟨a, .inr ⟨id, off, n, rfl, hb, b⟩, c.toV ft ow⟩)
theorem heldVarS_c (n0 : Nat) (A : Option Addr) (n : Nat) (k : Nat) (h : AH) (o : Gr n0 h (.slice A n 2) 2 (marks fS k (n * 2))) (h0 : 0 < k) (hk : k + n * 2 < 4000000000000) (hn : n < 274877906944) :
    CD Try.prog 93 [.slice A n 2, .int .i64 (k : Nat)] h (.int .i64 ((k + n * 2 : Nat) : Int)) h := by
  rcases o with ⟨c, e, e2⟩ | ⟨id, off, m, e, hb, ow⟩
  · injection e with e3 e4 e5
    subst e3 e4 e5
    exact heldVarS_n 2 k (by omega) h
  · injection e with e3 e4
    subst e3 e4
    exact heldVarS_o id off n 2 k h ow h0 hk hn

theorem markCellS_o (id off n : Nat) (cs : List Value) (k : Nat) (h : AH) (o : Own h id off n 3 cs) (h0 : 0 < k) (hk : k + n * 3 < 4000000000000) (hn : n < 274877906944) :
    CC Try.prog 92 [.slice (some ⟨id, off, none⟩) n 3, .int .i64 (k : Nat)] h (fun v h' => v = .int .i64 ((k + n * 3 : Nat) : Int) ∧ Own h' id off n 3 (marks fS k (n * 3)) ∧ Wr h h' id) := by
  refine CC.ofN Try.func92 Try.ntmps92 Try.results92 rfl (by decide) (by kernel_rfl) ?_
  simp (maxSteps := 1000000) -implicitDefEqProofs only [push_cast, seval]
  refine WC.loopA (by kernel_rfl) [1, 5] [6, 7, 8, 9, 10, 11, 12, 13, 14, 15, 16, 17, 18, 19, 20, 21, 22, 23, 24, 25, 26, 27, 28, 29, 30, 31, 32, 33, 34, 35] (fun a : Nat × Nat × List Value => [.int .i64 (a.2.1 : Nat), .int .i64 (a.1 : Nat)]) (fun a h' => (a.1 ≤ n ∧ a.2.1 = k + a.1 * 3 ∧ Mkd fS k a.2.2 (a.1 * 3)) ∧ Own h' id off n 3 a.2.2 ∧ Wr h h' id) (fun a => n - a.1) (0, k, cs) (by kernel_rfl) ⟨⟨Nat.zero_le _, rfl, Mkd.zero _ _ _⟩, o, Wr.refl _ _⟩ ?_
  intro a g h1 hJ
  have hi := hJ.1.1
  have hK := hJ.1.2.1
  have hm := hJ.1.2.2
  have o0 := hJ.2.1
  have r0 := hJ.2.2
  clear hJ
  have l0 := o0.lt
  have n0 := o0.len
  simp (maxSteps := 1000000) -implicitDefEqProofs only [push_cast, seval]
  with_reducible refine bcase_d (fun hb => ?_) (fun hb => ?_)
  · have hi' : a.1 < n := by omega
    with_reducible refine nameN (a.2.1 + 1) (fun K1 hK1 => ?_)
    have w1 : IntKind.i64.wrap ((a.2.1 : Int) + 1) = (K1 : Nat) := by rw [wrapSucc (by omega), hK1]
    with_reducible refine nameN (K1 + 1) (fun K2 hK2 => ?_)
    have w2 : IntKind.i64.wrap ((K1 : Int) + 1) = (K2 : Nat) := by rw [wrapSucc (by omega), hK2]
    with_reducible refine nameN (K2 + 1) (fun K3 hK3 => ?_)
    have w3 : IntKind.i64.wrap ((K2 : Int) + 1) = (K3 : Nat) := by rw [wrapSucc (by omega), hK3]
    simp (maxSteps := 1000000) -implicitDefEqProofs only [push_cast, seval]
    with_reducible refine CD.to (markText_c a.2.1 (by omega) (by omega) _) ?_
    simp (maxSteps := 1000000) -implicitDefEqProofs only [push_cast, seval, l0, w1, w2, w3]
    refine And.intro (by omega) (And.intro (by omega) ?_)
    refine (show Own _ id off n 3 _ from o0).wr (lo := a.1 * 3) (vs := [.string (mt a.2.1)]) (by simp only [List.length_cons, List.length_nil]; omega) (fun h2 o1 q1 => ?_)
    have l1 := o1.lt
    simp (maxSteps := 1000000) -implicitDefEqProofs only [push_cast, seval, l1, w1, w2, w3]
    with_reducible refine CD.to (markText_c K1 (by omega) (by omega) _) ?_
    simp (maxSteps := 1000000) -implicitDefEqProofs only [push_cast, seval, l1, w1, w2, w3]
    refine And.intro (by omega) (And.intro (by omega) ?_)
    refine (show Own _ id off n 3 _ from o1).wr (lo := a.1 * 3 + 1) (vs := [.string (mt K1)]) (by simp only [List.length_cons, List.length_nil]; omega) (fun h3 o2 q2 => ?_)
    have l2 := o2.lt
    simp (maxSteps := 1000000) -implicitDefEqProofs only [push_cast, seval, l2, w1, w2, w3]
    with_reducible refine CD.to (markText_c K2 (by omega) (by omega) _) ?_
    simp (maxSteps := 1000000) -implicitDefEqProofs only [push_cast, seval, l2, w1, w2, w3]
    refine And.intro (by omega) (And.intro (by omega) ?_)
    refine (show Own _ id off n 3 _ from o2).wr (lo := a.1 * 3 + 2) (vs := [.string (mt K2)]) (by simp only [List.length_cons, List.length_nil]; omega) (fun h4 o3 q3 => ?_)
    have l3 := o3.lt
    simp (maxSteps := 1000000) -implicitDefEqProofs only [push_cast, seval, l3, w1, w2, w3]
    rw [wrapSucc (by omega)]
    refine ⟨(a.1 + 1, K3, putL (putL (putL (a.2.2) (a.1 * 3) [.string (mt a.2.1)]) (a.1 * 3 + 1) [.string (mt K1)]) (a.1 * 3 + 2) [.string (mt K2)]), by kernel_rfl, ⟨⟨by show a.1 + 1 ≤ n; omega, by show K3 = k + (a.1 + 1) * 3; omega, ?_⟩, o3, r0.trans (((q1).trans q2).trans q3)⟩, by show n - (a.1 + 1) < n - a.1; omega⟩
    rw [show (a.1 + 1) * 3 = a.1 * 3 + 1 + 1 + 1 from by omega]
    exact (((hm).put (by (try simp only [putL_length]); omega) (by show _ = fS _; rw [show k + (a.1 * 3) = a.2.1 by omega]; rfl)).put (by (try simp only [putL_length]); omega) (by show _ = fS _; rw [show k + (a.1 * 3 + 1) = K1 by omega]; rfl)).put (by (try simp only [putL_length]); omega) (by show _ = fS _; rw [show k + (a.1 * 3 + 1 + 1) = K2 by omega]; rfl)
  · have e : a.1 = n := by omega
    simp (maxSteps := 1000000) -implicitDefEqProofs only [push_cast, seval]
    rw [e] at hm
    have hq := hm.all n0
    rw [hq] at o0
    refine ⟨?_, o0, r0⟩
    rw [hK, e]
    push_cast
    rfl

theorem heldCellS_o (id off n c : Nat) (k : Nat) (h : AH) (o : Own h id off n 3 (marks fS k (n * 3))) (h0 : 0 < k) (hk : k + n * 3 < 4000000000000) (hn : n < 274877906944) :
    CD Try.prog 94 [.slice (some ⟨id, off, none⟩) n c, .int .i64 (k : Nat)] h (.int .i64 ((k + n * 3 : Nat) : Int)) h := by
  refine CD.quiet ?_ (low_int _ _ _)
  refine CC.ofN Try.func94 Try.ntmps94 Try.results94 rfl (by decide) (by kernel_rfl) ?_
  simp (maxSteps := 1000000) -implicitDefEqProofs only [push_cast, seval]
  refine WC.loopA (by kernel_rfl) [1, 5] [4, 6, 7, 8, 9, 10, 11, 12, 13, 14, 15, 16, 17, 18, 19, 20, 21, 22, 23, 24, 25, 26, 27, 28, 29, 30, 31, 32, 33, 34, 35, 36, 37, 38, 39, 40, 41] (fun a : Nat × Nat => [.int .i64 (a.2 : Nat), .int .i64 (a.1 : Nat)]) (fun a h' => (a.1 ≤ n ∧ a.2 = k + a.1 * 3) ∧ Pre h h') (fun a => n - a.1) (0, k) (by kernel_rfl) ⟨⟨Nat.zero_le _, rfl⟩, Pre.refl _⟩ ?_
  intro a g h1 hJ
  have hi := hJ.1.1
  have hK := hJ.1.2
  have hp := hJ.2
  clear hJ
  have o1 := o.pre hp
  have l1 := o1.lt
  simp (maxSteps := 1000000) -implicitDefEqProofs only [push_cast, seval]
  with_reducible refine bcase_d (fun hb => ?_) (fun hb => ?_)
  · have hi' : a.1 < n := by omega
    with_reducible refine nameN (a.2 + 1) (fun K1 hK1 => ?_)
    have w1 : IntKind.i64.wrap ((a.2 : Int) + 1) = (K1 : Nat) := by rw [wrapSucc (by omega), hK1]
    with_reducible refine nameN (K1 + 1) (fun K2 hK2 => ?_)
    have w2 : IntKind.i64.wrap ((K1 : Int) + 1) = (K2 : Nat) := by rw [wrapSucc (by omega), hK2]
    with_reducible refine nameN (K2 + 1) (fun K3 hK3 => ?_)
    have w3 : IntKind.i64.wrap ((K2 : Int) + 1) = (K3 : Nat) := by rw [wrapSucc (by omega), hK3]
    have g0 : rd1 h1 id (off + a.1 * 3) = some (.string (mt a.2)) := by
      have := o1.rd1 (j := a.1 * 3) (by omega)
      rw [show off + a.1 * 3 = off + (a.1 * 3) by omega, this, List.getD_eq_getElem?_getD, marks_get fS k (n * 3) (by omega)]
      rw [show k + (a.1 * 3) = a.2 by omega]; rfl
    have g1 : rd1 h1 id (off + a.1 * 3 + 1) = some (.string (mt K1)) := by
      have := o1.rd1 (j := a.1 * 3 + 1) (by omega)
      rw [show off + a.1 * 3 + 1 = off + (a.1 * 3 + 1) by omega, this, List.getD_eq_getElem?_getD, marks_get fS k (n * 3) (by omega)]
      rw [show k + (a.1 * 3 + 1) = K1 by omega]; rfl
    have g2 : rd1 h1 id (off + a.1 * 3 + 2) = some (.string (mt K2)) := by
      have := o1.rd1 (j := a.1 * 3 + 2) (by omega)
      rw [show off + a.1 * 3 + 2 = off + (a.1 * 3 + 2) by omega, this, List.getD_eq_getElem?_getD, marks_get fS k (n * 3) (by omega)]
      rw [show k + (a.1 * 3 + 2) = K2 by omega]; rfl
    simp (maxSteps := 1000000) -implicitDefEqProofs only [push_cast, seval, l1, w1, w2, w3, g0, g1, g2]
    refine WC.draw' (by kernel_rfl) (by kernel_rfl) (.q 0 (.q 1 (.q 2 (.q 3 (.q 4 (.q 5 (.c 6 (.q 7 (.done))))))))) (by kernel_rfl) ?_
    simp (maxSteps := 1000000) -implicitDefEqProofs only [push_cast, seval, l1, w1, w2, w3, g0, g1, g2]
    refine And.intro (by omega) (And.intro (by omega) ?_)
    simp (maxSteps := 1000000) -implicitDefEqProofs only [push_cast, seval, l1, w1, w2, w3, g0, g1, g2]
    refine CQ.pure (fun h' => markText_c a.2 (by omega) (by omega) h') ?_
    simp (maxSteps := 1000000) -implicitDefEqProofs only [push_cast, seval, l1, w1, w2, w3, g0, g1, g2]
    refine WC.draw' (by kernel_rfl) (by kernel_rfl) (.q 0 (.q 1 (.q 2 (.q 3 (.q 4 (.q 5 (.c 6 (.q 7 (.done))))))))) (by kernel_rfl) ?_
    simp (maxSteps := 1000000) -implicitDefEqProofs only [push_cast, seval, l1, w1, w2, w3, g0, g1, g2]
    refine And.intro (by omega) (And.intro (by omega) ?_)
    simp (maxSteps := 1000000) -implicitDefEqProofs only [push_cast, seval, l1, w1, w2, w3, g0, g1, g2]
    refine CQ.pure (fun h' => markText_c K1 (by omega) (by omega) h') ?_
    simp (maxSteps := 1000000) -implicitDefEqProofs only [push_cast, seval, l1, w1, w2, w3, g0, g1, g2]
    refine WC.draw' (by kernel_rfl) (by kernel_rfl) (.q 0 (.q 1 (.q 2 (.q 3 (.q 4 (.q 5 (.c 6 (.q 7 (.done))))))))) (by kernel_rfl) ?_
    simp (maxSteps := 1000000) -implicitDefEqProofs only [push_cast, seval, l1, w1, w2, w3, g0, g1, g2]
    refine And.intro (by omega) (And.intro (by omega) ?_)
    simp (maxSteps := 1000000) -implicitDefEqProofs only [push_cast, seval, l1, w1, w2, w3, g0, g1, g2]
    refine CQ.pure (fun h' => markText_c K2 (by omega) (by omega) h') ?_
    simp (maxSteps := 1000000) -implicitDefEqProofs only [push_cast, seval, l1, w1, w2, w3, g0, g1, g2]
    rw [wrapSucc (by omega)]
    exact ⟨(a.1 + 1, K3), by kernel_rfl, ⟨⟨by show a.1 + 1 ≤ n; omega, by show K3 = k + (a.1 + 1) * 3; omega⟩, hp⟩, by show n - (a.1 + 1) < n - a.1; omega⟩
  · have e : a.1 = n := by omega
    simp (maxSteps := 1000000) -implicitDefEqProofs only [push_cast, seval]
    refine ⟨by rw [hK, e]; push_cast; rfl, hp.keep⟩
theorem markCellS_n (c k : Nat) (hk : k < 4000000000000) (h : AH) : CD Try.prog 92 [.slice none 0 c, .int .i64 (k : Nat)] h (.int .i64 (k : Nat)) h := by
  refine CD.quiet ?_ (low_int _ _ _)
  refine CC.ofN Try.func92 Try.ntmps92 Try.results92 rfl (by decide) (by kernel_rfl) ?_
  simp (maxSteps := 1000000) -implicitDefEqProofs only [push_cast, seval]
  refine WC.loopA (by kernel_rfl) [1, 5] [6, 7, 8, 9, 10, 11, 12, 13, 14, 15, 16, 17, 18, 19, 20, 21, 22, 23, 24, 25, 26, 27, 28, 29, 30, 31, 32, 33, 34, 35] (fun a : Nat => [.int .i64 (k : Nat), .int .i64 (a : Nat)]) (fun a h' => a = 0 ∧ Pre h h') (fun a => 1 - a) 0 (by kernel_rfl) ⟨rfl, Pre.refl _⟩ ?_
  intro a g h1 hJ
  have e := hJ.1
  have hp := hJ.2
  clear hJ
  subst e
  simp (maxSteps := 1000000) -implicitDefEqProofs only [push_cast, seval]
  repeat' (first | with_reducible (first | exact Keep.refl _ _ | assumption | exact byte_lt _ _ | apply Keep.alloc | (refine Keep.set ?_ ?_; rotate_left; · omega) | apply Pre.alloc | apply Pre.set | exact Pre.refl _ | exact le_alloc _ | (refine Pre.keep ?_; assumption) | (refine Pre.n ?_; assumption)) | ((with_reducible (first | refine bcase_d (fun hb => ?_) (fun hb => ?_) | refine bcase_mk (fun hb => ?_) (fun hb => ?_))) <;> try simp (maxSteps := 1000000) -implicitDefEqProofs only [push_cast, seval]) | with_reducible refine And.intro ?_ ?_ | omega | (simp only [alloc_n, set_n, kill_n]; omega) | (exfalso; omega))
theorem heldCellS_n (c k : Nat) (hk : k < 4000000000000) (h : AH) : CD Try.prog 94 [.slice none 0 c, .int .i64 (k : Nat)] h (.int .i64 (k : Nat)) h := by
  refine CD.quiet ?_ (low_int _ _ _)
  refine CC.ofN Try.func94 Try.ntmps94 Try.results94 rfl (by decide) (by kernel_rfl) ?_
  simp (maxSteps := 1000000) -implicitDefEqProofs only [push_cast, seval]
  refine WC.loopA (by kernel_rfl) [1, 5] [4, 6, 7, 8, 9, 10, 11, 12, 13, 14, 15, 16, 17, 18, 19, 20, 21, 22, 23, 24, 25, 26, 27, 28, 29, 30, 31, 32, 33, 34, 35, 36, 37, 38, 39, 40, 41] (fun a : Nat => [.int .i64 (k : Nat), .int .i64 (a : Nat)]) (fun a h' => a = 0 ∧ Pre h h') (fun a => 1 - a) 0 (by kernel_rfl) ⟨rfl, Pre.refl _⟩ ?_
  intro a g h1 hJ
  have e := hJ.1
  have hp := hJ.2
  clear hJ
  subst e
  simp (maxSteps := 1000000) -implicitDefEqProofs only [push_cast, seval]
  repeat' (first | with_reducible (first | exact Keep.refl _ _ | assumption | exact byte_lt _ _ | apply Keep.alloc | (refine Keep.set ?_ ?_; rotate_left; · omega) | apply Pre.alloc | apply Pre.set | exact Pre.refl _ | exact le_alloc _ | (refine Pre.keep ?_; assumption) | (refine Pre.n ?_; assumption)) | ((with_reducible (first | refine bcase_d (fun hb => ?_) (fun hb => ?_) | refine bcase_mk (fun hb => ?_) (fun hb => ?_))) <;> try simp (maxSteps := 1000000) -implicitDefEqProofs only [push_cast, seval]) | with_reducible refine And.intro ?_ ?_ | omega | (simp only [alloc_n, set_n, kill_n]; omega) | (exfalso; omega))
theorem markCellS_c (n0 : Nat) (A : Option Addr) (n : Nat) (cs : List Value) (k : Nat) (h : AH) (o : Gr n0 h (.slice A n 3) 3 cs) (hc : cs.length = n * 3) (h0 : 0 < k) (hk : k + n * 3 < 4000000000000) (hn : n < 274877906944) :
    CC Try.prog 92 [.slice A n 3, .int .i64 (k : Nat)] h (fun v h' => v = .int .i64 ((k + n * 3 : Nat) : Int) ∧ Gr n0 h' (.slice A n 3) 3 (marks fS k (n * 3)) ∧ WrV h h' (.slice A n 3)) := by
  refine CC.withFit (fun ft => ?_)
  rcases o with ⟨c, e, e2⟩ | ⟨id, off, m, e, hb, ow⟩
  · injection e with e3 e4 e5
    subst e3 e4 e5 e2
    exact (markCellS_n 3 k (by omega) h).to ⟨rfl, .inl ⟨3, rfl, rfl⟩, WrV.refl _ _⟩
  · injection e with e3 e4
    subst e3 e4
    exact (markCellS_o id off n cs k h ow h0 hk hn).mono (fun v h' ⟨a, b, c⟩ => ⟨a, .inr ⟨id, off, n, rfl, hb, b⟩, c.toV ft ow⟩)
theorem heldCellS_c (n0 : Nat) (A : Option Addr) (n : Nat) (k : Nat) (h : AH) (o : Gr n0 h (.slice A n 3) 3 (marks fS k (n * 3))) (h0 : 0 < k) (hk : k + n * 3 < 4000000000000) (hn : n < 274877906944) :
    CD Try.prog 94 [.slice A n 3, .int .i64 (k : Nat)] h (.int .i64 ((k + n * 3 : Nat) : Int)) h := by
  rcases o with ⟨c, e, e2⟩ | ⟨id, off, m, e, hb, ow⟩
  · injection e with e3 e4 e5
    subst e3 e4 e5
    exact heldCellS_n 3 k (by omega) h
  · injection e with e3 e4
    subst e3 e4
    exact heldCellS_o id off n 3 k h ow h0 hk hn

end Go.Proofs.Ytfbcedjheempfaa
namespace Go.Proofs.Ytfbcedjheempfaa
open Go Go.Sim Go.Proofs
set_option linter.unusedSimpArgs false
set_option linter.unusedVariables false
set_option maxRecDepth 100000
set_option maxHeartbeats 1000000
/-! ### stores whose slices are a call's own -/
theorem OwnS.keep {h0 h h' : AH} {vA vB : Value} {st : Store} (o : OwnS h0 h vA vB st) (hn : h.n ≤ h'.n) (e : ∀ i, (atBlock vA i ∨ atBlock vB i) → h'.ob i = h.ob i) : OwnS h0 h' vA vB st := by
  obtain ⟨m, a, b, c, d⟩ := o
  exact ⟨m, a, b.keep hn (fun i hi => e i (.inl hi)), c, d.keep hn (fun i hi => e i (.inr hi))⟩
theorem OwnS.pre {h0 h h' : AH} {vA vB : Value} {st : Store} (o : OwnS h0 h vA vB st) (p : Pre h h') : OwnS h0 h' vA vB st := by
  obtain ⟨m, a, b, c, d⟩ := o
  exact ⟨m, a, b.pre p, c, d.pre p⟩
theorem OwnS.range {h0 h : AH} {vA vB : Value} {st : Store} (o : OwnS h0 h vA vB st) {i : Nat} (e : atBlock vA i ∨ atBlock vB i) : h0.n ≤ i ∧ i < h.n := by
  obtain ⟨m, a, b, c, d⟩ := o
  rcases e with e | e
  · have := b.range e; omega
  · have := d.range e; omega
theorem OwnS.live {h0 h : AH} {vA vB : Value} {st : Store} (o : OwnS h0 h vA vB st) {i : Nat} (e : atBlock vA i ∨ atBlock vB i) : live h i := by
  obtain ⟨m, a, b, c, d⟩ := o
  rcases e with e | e
  · exact b.live e
  · exact d.live e
theorem OwnS.rds {h0 h : AH} {vA vB : Value} {st : Store} (o : OwnS h0 h vA vB st) : ∃ A B ca cb, vA = .slice A st.vars.length ca ∧ vB = .slice B st.cells.length cb ∧ RdS h A B st := by
  obtain ⟨m, a, b, c, d⟩ := o
  obtain ⟨A, ca, e1, r1⟩ := b.read (by decide) (fun _ => rfl)
  obtain ⟨B, cb, e2, r2⟩ := d.read (by decide) (fun _ => rfl)
  exact ⟨A, B, ca, cb, e1, e2, r1 h (fun _ _ _ => rfl), r2 h (fun _ _ _ => rfl)⟩
/-- Marked slices. -/
def MkS (h : AH) (vA vB : Value) (nv nc k : Nat) : Prop := ∃ n0 n1, Gr n0 h vA 2 (marks fS k (nv * 2)) ∧ Gr n1 h vB 3 (marks fS (k + nv * 2) (nc * 3))
theorem MkS.keep {h h' : AH} {vA vB : Value} {nv nc k : Nat} (o : MkS h vA vB nv nc k) (hn : h.n ≤ h'.n) (e : ∀ i, (atBlock vA i ∨ atBlock vB i) → h'.ob i = h.ob i) : MkS h' vA vB nv nc k := by
  obtain ⟨n0, n1, a, b⟩ := o
  exact ⟨n0, n1, a.keep hn (fun i hi => e i (.inl hi)), b.keep hn (fun i hi => e i (.inr hi))⟩
theorem MkS.live {h : AH} {vA vB : Value} {nv nc k : Nat} (o : MkS h vA vB nv nc k) {i : Nat} (e : atBlock vA i ∨ atBlock vB i) : Sim.live h i := by
  obtain ⟨n0, n1, a, b⟩ := o
  rcases e with e | e
  · exact a.live e
  · exact b.live e
theorem Gr.slice {n0 : Nat} {h : AH} {v : Value} {k : Nat} {cs : List Value} (w : Gr n0 h v k cs) (hk : 0 < k) {m : Nat} (hm : cs.length = m * k) : (∃ A, v = .slice A m k) ∨ (∃ c, v = .slice none 0 c ∧ m = 0) := by
  rcases w with ⟨c, rfl, rfl⟩ | ⟨id, off, n, rfl, b, o⟩
  · refine .inr ⟨c, rfl, ?_⟩
    rcases Nat.eq_zero_or_pos m with h | h
    · exact h
    · have := Nat.mul_pos h hk
      simp at hm; omega
  · refine .inl ⟨some ⟨id, off, none⟩, ?_⟩
    rw [Nat.eq_of_mul_eq_mul_right hk (o.len.symm.trans hm)]
theorem live.of {h h' : AH} {j : Nat} (l : live h j) (e : h'.ob j = h.ob j) : live h' j := by
  rcases l with ⟨ln, ⟨all, st, e1, hs⟩⟩ | l
  · exact .inl ⟨ln, ⟨all, st, e.trans e1, hs⟩⟩
  · exact .inr (by rw [e]; exact l)
theorem vars_len (st : Store) : ((st.vars.map Var.enc).flatten).length = st.vars.length * 2 := flat_len (k := 2) _ (fun _ => rfl)
theorem cells_len (st : Store) : ((st.cells.map Cell.enc).flatten).length = st.cells.length * 3 := flat_len (k := 3) _ (fun _ => rfl)
theorem markV_any (n0 n k : Nat) (v : Value) (cs : List Value) (h : AH) (o : Gr n0 h v 2 cs) (hc : cs.length = n * 2) (h0 : 0 < k) (hk : k + n * 2 < 4000000000000) (hn : n < 274877906944) :
    CC Try.prog 91 [v, .int .i64 (k : Nat)] h (fun r h' => r = .int .i64 ((k + n * 2 : Nat) : Int) ∧ Gr n0 h' v 2 (marks fS k (n * 2)) ∧ WrV h h' v) := by
  rcases Gr.slice o (by decide) hc with ⟨A, rfl⟩ | ⟨c, rfl, rfl⟩
  · exact markVarS_c n0 A n cs k h o hc h0 hk hn
  · exact (markVarS_n c k (by omega) h).to ⟨rfl, .inl ⟨c, rfl, rfl⟩, WrV.refl _ _⟩
theorem markC_any (n0 n k : Nat) (v : Value) (cs : List Value) (h : AH) (o : Gr n0 h v 3 cs) (hc : cs.length = n * 3) (h0 : 0 < k) (hk : k + n * 3 < 4000000000000) (hn : n < 274877906944) :
    CC Try.prog 92 [v, .int .i64 (k : Nat)] h (fun r h' => r = .int .i64 ((k + n * 3 : Nat) : Int) ∧ Gr n0 h' v 3 (marks fS k (n * 3)) ∧ WrV h h' v) := by
  rcases Gr.slice o (by decide) hc with ⟨A, rfl⟩ | ⟨c, rfl, rfl⟩
  · exact markCellS_c n0 A n cs k h o hc h0 hk hn
  · exact (markCellS_n c k (by omega) h).to ⟨rfl, .inl ⟨c, rfl, rfl⟩, WrV.refl _ _⟩
theorem heldV_any (n0 n k : Nat) (v : Value) (h : AH) (o : Gr n0 h v 2 (marks fS k (n * 2))) (h0 : 0 < k) (hk : k + n * 2 < 4000000000000) (hn : n < 274877906944) :
    CD Try.prog 93 [v, .int .i64 (k : Nat)] h (.int .i64 ((k + n * 2 : Nat) : Int)) h := by
  rcases Gr.slice o (by decide) (marks_length _ _ _) with ⟨A, rfl⟩ | ⟨c, rfl, rfl⟩
  · exact heldVarS_c n0 A n k h o h0 hk hn
  · exact heldVarS_n c k (by omega) h
theorem heldC_any (n0 n k : Nat) (v : Value) (h : AH) (o : Gr n0 h v 3 (marks fS k (n * 3))) (h0 : 0 < k) (hk : k + n * 3 < 4000000000000) (hn : n < 274877906944) :
    CD Try.prog 94 [v, .int .i64 (k : Nat)] h (.int .i64 ((k + n * 3 : Nat) : Int)) h := by
  rcases Gr.slice o (by decide) (marks_length _ _ _) with ⟨A, rfl⟩ | ⟨c, rfl, rfl⟩
  · exact heldCellS_c n0 A n k h o h0 hk hn
  · exact heldCellS_n c k (by omega) h
theorem OwnS.one {h0 h : AH} {vA vB : Value} {st : Store} (o : OwnS h0 h vA vB st) : Sim.one vA = true ∧ Sim.one vB = true := by
  obtain ⟨A, B, ca, cb, rfl, rfl, _⟩ := o.rds
  exact ⟨rfl, rfl⟩
theorem MkS.one {h : AH} {vA vB : Value} {nv nc k : Nat} (o : MkS h vA vB nv nc k) : Sim.one vA = true ∧ Sim.one vB = true := by
  obtain ⟨n0, n1, a, b⟩ := o
  constructor
  · rcases a with ⟨c, rfl, _⟩ | ⟨id, off, n, rfl, _, _⟩ <;> rfl
  · rcases b with ⟨c, rfl, _⟩ | ⟨id, off, n, rfl, _, _⟩ <;> rfl
theorem markStore_c (h0 h : AH) (vA vB : Value) (st : Store) (u : ByteArray) (k nv nc : Nat) (o : OwnS h0 h vA vB st) (ev : st.vars.length = nv) (ec : st.cells.length = nc) (k0 : 0 < k) (hk : k < 1000000) (hv : nv < 274877906944) (hc : nc < 274877906944) :
    CC Try.prog 46 [.agg #[vA, vB, .string u], .int .i64 (k : Nat)] h (fun r h' => r = .int .i64 ((k + nv * 2 + nc * 3 : Nat) : Int) ∧ MkS h' vA vB nv nc k ∧ h.n ≤ h'.n ∧ ∀ j, j < h.n → ¬ (atBlock vA j ∨ atBlock vB j) → live h j → h'.ob j = h.ob j) := by
  have o1 := o.one
  obtain ⟨m, a, b, c, d⟩ := o
  have q1 := o1.1
  have q2 := o1.2
  have l1 := vars_len st
  have l2 := cells_len st
  rw [ev] at l1
  rw [ec] at l2
  with_reducible refine nameN (k + nv * 2) (fun K1 hK1 => ?_)
  refine CC.ofN Try.func46 Try.ntmps46 Try.results46 rfl (by decide) (by kernel_rfl) ?_
  simp (maxSteps := 1000000) -implicitDefEqProofs only [push_cast, seval, q1, q2]
  with_reducible refine CC.mono (markV_any _ nv k vA _ _ (b.alloc _) l1 k0 (by omega) hv) (fun v h1 hv => ?_)
  have e1 := hv.1
  have g1 := hv.2.1
  have w1 := hv.2.2
  clear hv
  rw [← hK1] at e1
  subst e1
  have ox : h1.ob h.n = AOb.cells [vA, vB, Value.string u] .solo h.n := (w1.ob h.n (fun e => by have := b.range e; omega) (.inl ⟨h.n, ⟨_, _, alloc_same _, .inl rfl⟩⟩)).trans (alloc_same _)
  have lx : h.n < h1.n := by rw [w1.n]; exact lt_alloc _
  have kd : ∀ i, atBlock vB i → h1.ob i = (h.alloc (AOb.cells [vA, vB, Value.string u] .solo h.n)).ob i := fun i hi => w1.ob i (fun e => by have := c i e; have := d.range hi; omega) ((d.alloc _).live hi)
  have d1 : Gr m h1 vB 3 _ := (d.alloc _).keep (by rw [w1.n]; exact Nat.le_refl _) kd
  simp (maxSteps := 1000000) -implicitDefEqProofs only [push_cast, seval, ox, lx, rd_of ox, rd1_of ox]
  with_reducible refine CC.mono (markC_any _ nc K1 vB _ _ d1 l2 (by omega) (by omega) hc) (fun v h2 hv => ?_)
  have e1 := hv.1
  have g2 := hv.2.1
  have w2 := hv.2.2
  clear hv
  subst e1
  simp (maxSteps := 1000000) -implicitDefEqProofs only [push_cast, seval]
  rw [hK1] at g2
  refine ⟨by rw [hK1]; push_cast; rfl, ⟨_, _, g1.keep (by rw [w2.n]; exact Nat.le_refl _) (fun i hi => w2.ob i (fun e => ?_) (g1.live hi)), g2⟩, by rw [w2.n]; omega, fun j hj hb hl => ?_⟩
  · have := g1.range hi
    have := c i hi
    have := d.range e
    omega
  · have e1 : h1.ob j = h.ob j := (w1.ob j (fun e => hb (.inl e)) (live.of hl (alloc_lt _ hj))).trans (alloc_lt _ hj)
    exact (w2.ob j (fun e => hb (.inr e)) (live.of hl e1)).trans e1
theorem heldStore_c (h : AH) (vA vB : Value) (u : ByteArray) (k nv nc : Nat) (o : MkS h vA vB nv nc k) (k0 : 0 < k) (hk : k < 1000000) (hv : nv < 274877906944) (hc : nc < 274877906944) :
    CD Try.prog 47 [.agg #[vA, vB, .string u], .int .i64 (k : Nat)] h (.int .i64 ((k + nv * 2 + nc * 3 : Nat) : Int)) h := by
  have o1 := o.one
  obtain ⟨m, m1, a, b⟩ := o
  have q1 := o1.1
  have q2 := o1.2
  refine CD.quiet ?_ (low_int _ _ _)
  with_reducible refine nameN (k + nv * 2) (fun K1 hK1 => ?_)
  have hA := heldV_any _ nv k vA _ (a.alloc (AOb.cells [vA, vB, Value.string u] .solo h.n)) k0 (by omega) hv
  have hB := heldC_any _ nc (k + nv * 2) vB _ (b.alloc (AOb.cells [vA, vB, Value.string u] .solo h.n)) (by omega) (by omega) hc
  rw [← hK1] at hA hB
  with_reducible refine nameN (k + nv * 2 + nc * 3) (fun K2 hK2 => ?_)
  rw [← hK1] at hK2
  rw [← hK2] at hB
  refine CC.ofN Try.func47 Try.ntmps47 Try.results47 rfl (by decide) (by kernel_rfl) ?_
  simp (maxSteps := 1000000) -implicitDefEqProofs only [push_cast, seval, q1, q2]
  repeat' (first | with_reducible (first | exact Keep.refl _ _ | assumption | exact byte_lt _ _ | apply Keep.alloc | (refine Keep.set ?_ ?_; rotate_left; · omega) | apply Pre.alloc | apply Pre.set | exact Pre.refl _ | exact le_alloc _ | (refine Pre.keep ?_; assumption) | (refine Pre.n ?_; assumption)) | ((with_reducible (first | refine CD.to (hA) ?_ | refine CQ.pure (fun _ => hA) ?_ | refine CD.to (hB) ?_ | refine CQ.pure (fun _ => hB) ?_ | refine bcase_d (fun hb => ?_) (fun hb => ?_) | refine bcase_mk (fun hb => ?_) (fun hb => ?_))) <;> try simp (maxSteps := 1000000) -implicitDefEqProofs only [push_cast, seval, q1, q2]) | with_reducible refine And.intro ?_ ?_ | omega | (simp only [alloc_n, set_n, kill_n]; omega) | (exfalso; omega))
  rw [hK2, hK1]
  push_cast
  rfl
theorem iStore_sz (s : ByteArray) (hs : s.size ≤ maxLen) : Sz (iStore s) := by
  obtain ⟨N, hN, hN2⟩ := ctV_nat s 60 (0, false)
  obtain ⟨M, hM, hM2⟩ := ctV_nat s 2000 (iL s).1
  have mx := maxLen_eq
  have e1 : (iL s).2.length = N := by
    rw [iL, itV_len, ctM, show (60 : Int) = ((60 : Nat) : Int) from rfl, hN]; rfl
  have e2 : (iC s).2.length = M := by
    rw [iC, itC_len, ctM, show (2000 : Int) = ((2000 : Nat) : Int) from rfl, hM]; rfl
  refine ⟨fun x hx => ?_, fun x hx => ?_, ?_, ?_, ?_⟩
  · have := itV_size s _ _ x (show x ∈ (iL s).2 from hx); omega
  · have := itC_size s _ _ x (show x ∈ (iC s).2 from hx); omega
  · have := shT_size s (iC s).1; show (shT s (iC s).1).size ≤ maxLen; omega
  · show (iL s).2.length < _; omega
  · show (iC s).2.length < _; omega
theorem iS_sz (s : ByteArray) (hs : s.size ≤ maxLen) : Sz (iS s) := by
  unfold iS
  split
  · exact iStore_sz s hs
  · exact ⟨fun x hx => by simp [store0] at hx, fun x hx => by simp [store0] at hx, by show (0:Nat) ≤ maxLen; omega, by simp [store0], by simp [store0]⟩
theorem ReadStore_w (s : ByteArray) (hs : s.size ≤ maxLen - 16) (h : AH) : CC Try.prog 44 [.string s] h (fun v h' => ∃ vA vB, v = .tuple #[.agg #[vA, vB, .string (iS s).out], .bool (iOk s)] ∧ OwnS h h' vA vB (iS s) ∧ Pre h h') :=
  (ReadStore_s s hs h).mono (fun v h' ⟨vA, vB, K1, K2, st, e, o, p⟩ => by
    have ag := read_agree st
    rw [ag.1] at e o
    have eS : (if iOk s = true then sStore s K1 K2 else store0) = iS s := by
      unfold iS
      split
      · rename_i hk; exact ag.2 hk
      · rfl
    rw [eS] at e o
    exact ⟨vA, vB, e, o, p⟩)
theorem eqStore_own (h0 h1 h : AH) (vA vB wA wB : Value) (s t : Store) (oa : OwnS h0 h vA vB s) (ob : OwnS h1 h wA wB t) (zs : Sz s) (zt : Sz t) :
    CD Try.prog 43 [.agg #[vA, vB, .string s.out], .agg #[wA, wB, .string t.out]] h (.bool (decide (s = t))) h := by
  obtain ⟨A, B, ca, cb, rfl, rfl, ra⟩ := oa.rds
  obtain ⟨C, D, cc, cd, rfl, rfl, rb⟩ := ob.rds
  exact eqStore_c s t A B C D ca cb cc cd h ra rb zs zt
theorem live_solo {h : AH} {i ln : Nat} {cs : List Value} (e : h.ob i = .cells cs .solo ln) : live h i := .inl ⟨ln, ⟨_, _, e, .inl rfl⟩⟩
/-- The law. -/
theorem law_ReadStore (s : ByteArray) (hs : s.size ≤ maxLen) (h : AH) : CE Try.prog 10 [.string s] h fun v _ => v = .bool true := by
  have hm := maxLen_eq
  have zS := iS_sz s hs
  refine CE.ofN Try.func10 Try.ntmps10 Try.results10 rfl (by kernel_rfl) ?_
  simp (maxSteps := 1000000) -implicitDefEqProofs only [push_cast, seval]
  with_reducible refine bcase_d (fun hb => ?_) (fun hb => ?_)
  · simp (maxSteps := 1000000) -implicitDefEqProofs only [push_cast, seval]
  have hs' : s.size ≤ maxLen - 16 := by omega
  simp (maxSteps := 1000000) -implicitDefEqProofs only [push_cast, seval]
  with_reducible refine CC.mono (ReadStore_w s hs' _) (fun v h1 hv => ?_)
  with_reducible refine Exists.elim hv (fun wA hv => ?_)
  with_reducible refine Exists.elim hv (fun wB hv => ?_)
  have e1 := hv.1
  have wO := hv.2.1
  have p1 := hv.2.2
  clear hv
  subst e1
  have y1 := wO.one.1
  have y2 := wO.one.2
  simp (maxSteps := 1000000) -implicitDefEqProofs only [push_cast, seval, y1, y2]
  with_reducible refine CC.mono (ReadStore_i s hs' _) (fun v h2 hv => ?_)
  with_reducible refine Exists.elim hv (fun gA hv => ?_)
  with_reducible refine Exists.elim hv (fun gB hv => ?_)
  have e1 := hv.1
  have gO := hv.2.1
  have p2 := hv.2.2
  clear hv
  subst e1
  have y3 := gO.one.1
  have y4 := gO.one.2
  have k1 : h1.n < h2.n := Nat.lt_of_lt_of_le (Nat.lt_succ_self h1.n) p2.n
  have o1 : h2.ob h1.n = _ := (p2.ob h1.n (Nat.lt_succ_self h1.n)).trans (set_same _ _)
  simp (maxSteps := 1000000) -implicitDefEqProofs only [push_cast, seval, y1, y2, y3, y4, o1, rd_of o1, rd1_of o1, k1]
  have wO2 := wO.pre ((((Pre.refl h1).alloc (AOb.cells [Value.slice none 0 0, Value.slice none 0 0, Value.string ⟨#[]⟩] .solo h1.n)).set (Nat.le_refl _) (AOb.cells [wA, wB, Value.string (iS s).out] .solo h1.n)).trans p2)
  have p3 : Pre h2 ((h2.alloc (AOb.cells [Value.slice none 0 0, Value.slice none 0 0, Value.string ⟨#[]⟩] .solo h2.n)).set h2.n (AOb.cells [gA, gB, Value.string (iS s).out] .solo h2.n)) := ((Pre.refl h2).alloc _).set (Nat.le_refl _) _
  have wO3 := wO2.pre p3
  have gO3 := gO.pre p3
  repeat' (first | with_reducible (first | exact Keep.refl _ _ | assumption | exact byte_lt _ _ | apply Keep.alloc | (refine Keep.set ?_ ?_; rotate_left; · omega) | apply Pre.alloc | apply Pre.set | exact Pre.refl _ | exact le_alloc _ | (refine Pre.keep ?_; assumption) | (refine Pre.n ?_; assumption)) | ((with_reducible (first | refine CD.to (eqStore_own _ _ _ _ _ _ _ _ _ gO3 wO3 zS zS) ?_ | refine CQ.pure (fun _ => eqStore_own _ _ _ _ _ _ _ _ _ gO3 wO3 zS zS) ?_ | refine bcase_d (fun hb => ?_) (fun hb => ?_) | refine bcase_mk (fun hb => ?_) (fun hb => ?_))) <;> try simp (maxSteps := 1000000) -implicitDefEqProofs only [push_cast, seval, y1, y2, y3, y4, o1, rd_of o1, rd1_of o1, k1]) | with_reducible refine And.intro ?_ ?_ | omega | (simp only [alloc_n, set_n, kill_n]; omega) | (exfalso; omega))
  rotate_left
  · simp at hb
  generalize hnv : (iS s).vars.length = nv
  generalize hnc : (iS s).cells.length = nc
  have zv : nv < 274877906944 := by rw [← hnv]; exact zS.nv
  have zc : nc < 274877906944 := by rw [← hnc]; exact zS.nc
  have hM := markStore_c _ _ gA gB (iS s) (iS s).out 1 nv nc gO3 hnv hnc (by omega) (by omega) zv zc
  rw [show ((1 : Nat) : Int) = 1 from rfl] at hM
  with_reducible refine CC.mono hM (fun v h3 hv => ?_)
  have e1 := hv.1
  have gM := hv.2.1
  have n3 := hv.2.2.1
  have f3 := hv.2.2.2
  clear hv
  subst e1
  have n3' : h2.n + 1 ≤ h3.n := n3
  have rw3 := fun i e => wO2.range (i := i) e
  have rg3 := fun i e => gO.range (i := i) e
  have rw0 := fun i e => wO.range (i := i) e
  have oG : h3.ob h2.n = AOb.cells [gA, gB, Value.string (iS s).out] .solo h2.n := (f3 h2.n (Nat.lt_succ_self h2.n) (fun e => by have := rg3 _ e; omega) (live_solo (set_same _ _))).trans (set_same _ _)
  have oW : h3.ob h1.n = AOb.cells [wA, wB, Value.string (iS s).out] .solo h1.n := by
    have e0 := (p3.ob h1.n k1).trans o1
    exact (f3 h1.n (Nat.lt_succ_of_lt k1) (fun e => by have := (rg3 _ e).1; have : h1.n + 1 ≤ h1.n := this; omega) (live_solo e0)).trans e0
  have wO4 : OwnS h h3 wA wB (iS s) := wO3.keep n3 (fun i e => f3 i (by have := (rw0 i e).2; show i < h2.n + 1; omega) (fun e' => by have := (rw0 i e).2; have : h1.n + 1 ≤ i := (rg3 _ e').1; omega) (wO3.live e))
  have lG : h2.n < h3.n := by omega
  have lW : h1.n < h3.n := by omega
  with_reducible refine nameN (1 + nv * 2 + nc * 3) (fun K hK => ?_)
  rw [← hK]
  have hH := fun (h : AH) (o : MkS h gA gB nv nc 1) => heldStore_c h gA gB (iS s).out 1 nv nc o (by omega) (by omega) zv zc
  rw [show ((1 : Nat) : Int) = 1 from rfl, ← hK] at hH
  simp (maxSteps := 1000000) -implicitDefEqProofs only [push_cast, seval, oG, rd_of oG, rd1_of oG, lG]
  repeat' (first | with_reducible (first | exact Keep.refl _ _ | assumption | exact byte_lt _ _ | apply Keep.alloc | (refine Keep.set ?_ ?_; rotate_left; · omega) | apply Pre.alloc | apply Pre.set | exact Pre.refl _ | exact le_alloc _ | (refine Pre.keep ?_; assumption) | (refine Pre.n ?_; assumption)) | ((with_reducible (first | refine CD.to (hH _ gM) ?_ | refine CQ.pure (fun _ => hH _ gM) ?_ | refine bcase_d (fun hb => ?_) (fun hb => ?_) | refine bcase_mk (fun hb => ?_) (fun hb => ?_))) <;> try simp (maxSteps := 1000000) -implicitDefEqProofs only [push_cast, seval, oG, rd_of oG, rd1_of oG, lG]) | with_reducible refine And.intro ?_ ?_ | omega | (simp only [alloc_n, set_n, kill_n]; omega) | (exfalso; omega))
  with_reducible refine CC.mono (ReadStore_i s hs' _) (fun v h4 hv => ?_)
  with_reducible refine Exists.elim hv (fun xA hv => ?_)
  with_reducible refine Exists.elim hv (fun xB hv => ?_)
  have e1 := hv.1
  have xO := hv.2.1
  have p4 := hv.2.2
  clear hv
  subst e1
  have y5 := xO.one.1
  have y6 := xO.one.2
  have l4 : h3.n ≤ h4.n := p4.n
  have oG4 : h4.ob h2.n = _ := (p4.ob _ lG).trans oG
  have oW4 : h4.ob h1.n = _ := (p4.ob _ lW).trans oW
  have lG4 : h2.n < h4.n := by omega
  have lW4 : h1.n < h4.n := by omega
  simp (maxSteps := 1000000) -implicitDefEqProofs only [push_cast, seval, oG4, rd_of oG4, rd1_of oG4, lG4, oW4, rd_of oW4, rd1_of oW4, lW4, y5, y6]
  have p5 : Pre h4 ((h4.alloc (AOb.cells [Value.slice none 0 0, Value.slice none 0 0, Value.string ⟨#[]⟩] .solo h4.n)).set h4.n (AOb.cells [xA, xB, Value.string (iS s).out] .solo h4.n)) := ((Pre.refl h4).alloc _).set (Nat.le_refl _) _
  have wO5 := wO4.pre (p4.trans p5)
  have xO5 := xO.pre p5
  have gM5 : MkS _ gA gB nv nc 1 := gM.keep (p4.trans p5).n (fun i e => (p4.trans p5).ob i (by
    obtain ⟨n0, n1, a, b⟩ := gM
    rcases e with e | e
    · exact (a.range e).2
    · exact (b.range e).2))
  repeat' (first | with_reducible (first | exact Keep.refl _ _ | assumption | exact byte_lt _ _ | apply Keep.alloc | (refine Keep.set ?_ ?_; rotate_left; · omega) | apply Pre.alloc | apply Pre.set | exact Pre.refl _ | exact le_alloc _ | (refine Pre.keep ?_; assumption) | (refine Pre.n ?_; assumption)) | ((with_reducible (first | refine CD.to (eqStore_own _ _ _ _ _ _ _ _ _ xO5 wO5 zS zS) ?_ | refine CQ.pure (fun _ => eqStore_own _ _ _ _ _ _ _ _ _ xO5 wO5 zS zS) ?_ | refine CD.to (hH _ gM5) ?_ | refine CQ.pure (fun _ => hH _ gM5) ?_ | refine bcase_d (fun hb => ?_) (fun hb => ?_) | refine bcase_mk (fun hb => ?_) (fun hb => ?_))) <;> try simp (maxSteps := 1000000) -implicitDefEqProofs only [push_cast, seval, oG4, rd_of oG4, rd1_of oG4, lG4, oW4, rd_of oW4, rd1_of oW4, lW4, y5, y6]) | with_reducible refine And.intro ?_ ?_ | omega | (simp only [alloc_n, set_n, kill_n]; omega) | (exfalso; omega))
  simp at hb
end Go.Proofs.Ytfbcedjheempfaa
/- Slices that are read whole. Conditions: those that each theorem names. -/
set_option linter.unusedVariables false
set_option linter.unusedSimpArgs false
namespace Go.Sim
variable {P : Program} {h : AH}
/-- A slice read whole: its elements, k cells each. -/
def RdV {α : Type} (h : AH) (v : Value) (k : Nat) (enc : α → List Value) (l : List α) : Prop :=
  (∃ c, v = .slice none 0 c ∧ l = []) ∨ ∃ id off c, v = .slice (some ⟨id, off, none⟩) l.length c ∧ rd h id off (l.length * k) = some (l.map enc).flatten ∧ id < h.n
theorem RdV.nil {α : Type} (h : AH) (k c : Nat) (enc : α → List Value) : RdV h (.slice none 0 c) k enc [] := .inl ⟨c, rfl, rfl⟩
theorem RdV.keep {α : Type} {v : Value} {k : Nat} {enc : α → List Value} {l : List α} (r : RdV h v k enc l) {h' : AH} (hn : h.n ≤ h'.n) (e : ∀ i, atBlock v i → h'.ob i = h.ob i) : RdV h' v k enc l := by
  rcases r with r | ⟨id, off, c, rfl, r, hl⟩
  · exact .inl r
  · exact .inr ⟨id, off, c, rfl, by rw [← r, rd_eq, rd_eq, e id rfl], Nat.lt_of_lt_of_le hl hn⟩
theorem RdV.lt {α : Type} {v : Value} {k : Nat} {enc : α → List Value} {l : List α} (r : RdV h v k enc l) {i : Nat} (e : atBlock v i) : i < h.n := by
  rcases r with ⟨c, rfl, _⟩ | ⟨id, off, c, rfl, r, hl⟩
  · exact e.elim
  · have : id = i := e
    omega
theorem RdV.pre {α : Type} {v : Value} {k : Nat} {enc : α → List Value} {l : List α} (r : RdV h v k enc l) {h' : AH} (p : Pre h h') : RdV h' v k enc l := r.keep p.n (fun i e => p.ob i (r.lt e))
theorem RdV.one {α : Type} {v : Value} {k : Nat} {enc : α → List Value} {l : List α} (r : RdV h v k enc l) : Sim.one v = true := by
  rcases r with ⟨c, rfl, _⟩ | ⟨id, off, c, rfl, r, hl⟩ <;> rfl
theorem chunk_of {α : Type} {k : Nat} {enc : α → List Value} {id off n : Nat} {l : List α} (hl : ∀ x ∈ l, (enc x).length = k) (r : rd h id off (l.length * k) = some (l.map enc).flatten) {i : Nat} (hi : i < l.length) : rd h id (off + i * k) k = some (enc l[i]) := by
  have hb : i * k + k ≤ l.length * k := by rw [← Nat.succ_mul]; exact Nat.mul_le_mul_right k hi
  rw [rd_eq] at r ⊢
  unfold rdO at r ⊢
  split at r
  · rename_i cs st ln ho
    split at r
    · rename_i hh
      rw [if_pos (by omega)]
      simp only [Option.some.injEq] at r ⊢
      rw [← chunk_at i hi hl, ← r, List.drop_take, List.drop_drop, List.take_take, Nat.min_eq_left (by omega)]
    · cases r
  · cases r
theorem RdV.rde {α : Type} {v : Value} {k : Nat} {enc : α → List Value} {l : List α} (r : RdV h v k enc l) (hl : ∀ x, (enc x).length = k) : ∃ A c, v = .slice A l.length c ∧ RdE h A k enc l := by
  rcases r with ⟨c, rfl, rfl⟩ | ⟨id, off, c, rfl, r, hlt⟩
  · exact ⟨none, c, rfl, RdE.nil _ _ _⟩
  · exact ⟨_, c, rfl, fun i hi => ⟨id, off, rfl, chunk_of (n := 0) (fun x _ => hl x) r hi⟩⟩
theorem Gr.rdv {α : Type} {n0 : Nat} {v : Value} {k : Nat} {enc : α → List Value} {l : List α} (w : Gr n0 h v k (l.map enc).flatten) (hk : 0 < k) (hl : ∀ x, (enc x).length = k) : RdV h v k enc l := by
  rcases w with ⟨c, rfl, e⟩ | ⟨id, off, n, rfl, b, o⟩
  · have hf := flat_len (enc := enc) l hl
    rw [e] at hf
    have : l = [] := by
      cases l with
      | nil => rfl
      | cons x r => rw [List.length_nil, List.length_cons, Nat.succ_mul] at hf; omega
    exact .inl ⟨c, rfl, this⟩
  · have hf := flat_len (enc := enc) l hl
    have hn : n = l.length := Nat.eq_of_mul_eq_mul_right hk (o.len.symm.trans hf)
    subst hn
    exact .inr ⟨id, off, k, rfl, o.rdAll, o.lt⟩
theorem RdV.asrc {α : Type} {v : Value} {k : Nat} {enc : α → List Value} {l : List α} (r : RdV h v k enc l) : Sim.asrc h k v = some (l.length, (l.map enc).flatten) := by
  rcases r with ⟨c, rfl, rfl⟩ | ⟨id, off, c, rfl, r, hlt⟩
  · rfl
  · unfold Sim.asrc; simp [r]
theorem Own.zero {o : AOb} (e : o = .cells [] .solo h.n) (k : Nat) : Own (h.alloc o) h.n 0 0 k [] := by subst e; exact Own.new [] 0 k (by simp)
end Go.Sim
namespace Go.Sim
variable {P : Program} {h : AH}
/-- A copy: an append to an empty slice, laid before. -/
theorem app_copy {α : Type} {t u e : TypeId} {s b : Nat} {z : List Value} {ag : Bool} {id : Nat} {enc : α → List Value} {l : List α} {x : Value} {K : Value → AH → Prop}
    (hs : si P t = some (e, ⟨s, b, z, ag⟩)) (hpos : 0 < s) (hby : b ≤ 256) (hu : notInt (P.underlying u)) (w : h.ob id = .cells [] .solo id) (hid : id < h.n) (hx : RdV h x s enc l) (hl : ∀ x, (enc x).length = s) (hb : l.length < 274877906944)
    (hk : ∀ h', Own h' h.n 0 l.length s (l.map enc).flatten → h'.n = h.n + 1 → (∀ i, i < h.n → i ≠ id → h'.ob i = h.ob i) → K (.slice (some ⟨h.n, 0, none⟩) l.length s) h') :
    aappend P h t u (.slice (some ⟨id, 0, none⟩) 0 s) x K := by
  refine app_own (cs := []) hs hpos hby hu ⟨hid, by simp, [], .solo, id, w, .inl rfl, by simp, by simp⟩ hx.asrc (flat_len l hl) (by omega) (fun h' o hn he => ?_)
  rw [Nat.zero_add] at o ⊢
  rw [List.nil_append] at o
  exact hk h' o hn he
end Go.Sim
namespace Go.Sim
theorem zl1 (a : Value) : zerosL 1 [a] = [a] := rfl
theorem zl4 (a b c d : Value) : zerosL 4 [a, b, c, d] = [a, b, c, d] := rfl
theorem zl5 (a b c d e : Value) : zerosL 5 [a, b, c, d, e] = [a, b, c, d, e] := rfl
attribute [push_cast] zl1 zl2 zl3 zl4 zl5
end Go.Sim
/- Stores that are set. Conditions: those that each theorem names. -/
set_option linter.unusedSimpArgs false
set_option linter.unusedVariables false
namespace Go.Sim
def cutB (s : ByteArray) : ByteArray := if (s.size : Int) > 40 then s.extract 0 40 else s
theorem cutB_size (s : ByteArray) : (cutB s).size ≤ 40 := by
  unfold cutB
  split
  · rw [ByteArray.size_extract]; omega
  · omega
def outB (s : ByteArray) : ByteArray := if (s.size : Int) > 3000 then s.extract 0 3000 else s
theorem outB_size (s : ByteArray) : (outB s).size ≤ 3000 := by
  unfold outB
  split
  · rw [ByteArray.size_extract]; omega
  · omega
theorem bl_tri : ∀ a b : List UInt8, (!(Op.bytesLess a b || decide (a = b))) = Op.bytesLess b a
  | [], [] => by simp [Op.bytesLess]
  | [], _ :: _ => by simp [Op.bytesLess]
  | _ :: _, [] => by simp [Op.bytesLess]
  | x :: a, y :: b => by
    have ih := bl_tri a b
    simp only [Op.bytesLess]
    by_cases h1 : x < y
    · have h2 : ¬ y < x := fun h => UInt8.lt_irrefl _ (UInt8.lt_trans h1 h)
      have hne : ¬ y = x := fun e => by subst e; exact UInt8.lt_irrefl _ h1
      simp [h1, h2, hne]
    · by_cases h2 : y < x
      · have hne : ¬ x = y := fun e => by subst e; exact h1 h2
        simp [h1, h2, hne]
      · have e : x = y := UInt8.le_antisymm (UInt8.not_lt.1 h2) (UInt8.not_lt.1 h1)
        subst e
        simp [UInt8.lt_irrefl, ← ih]
theorem gtB (a b : ByteArray) : (!(Op.bytesLess a.toList b.toList || decide (a = b))) = ltB b a := by
  unfold ltB
  rw [← bl_tri a.toList b.toList]
  have : decide (a = b) = decide (a.toList = b.toList) := by
    apply decide_eq_decide.2
    constructor
    · intro e; rw [e]
    · intro e
      rw [ByteArray.toList_eq, ByteArray.toList_eq] at e
      exact ByteArray.ext (Array.toList_inj.1 e)
  rw [this]
def vLt (n : ByteArray) (x : Var) : Bool := ltB x.name n
def vGt (n : ByteArray) (x : Var) : Bool := ltB n x.name
def newV (l : List Var) (n v : ByteArray) : List Var := l.filter (vLt n) ++ [⟨n, cutB v⟩] ++ l.filter (vGt n)
def setV (s : Store) (n v : ByteArray) : Store := if (newV s.vars n v).length ≤ 60 then ⟨newV s.vars n v, s.cells, s.out⟩ else s
def cLt (y x : Cell) : Bool := decide (cellCmp x y < 0)
def cGt (y x : Cell) : Bool := decide (cellCmp y x < 0)
def mkC (n k v : ByteArray) : Cell := ⟨n, cutB k, cutB v⟩
def newC (l : List Cell) (y : Cell) : List Cell := l.filter (cLt y) ++ [y] ++ l.filter (cGt y)
def setC (s : Store) (n k v : ByteArray) : Store := if (newC s.cells (mkC n k v)).length ≤ 2000 then ⟨s.vars, newC s.cells (mkC n k v), s.out⟩ else s
def sayS (s : Store) (line : ByteArray) : Store := ⟨s.vars, s.cells, outB (s.out ++ line ++ ⟨#[10]⟩)⟩
theorem filter_next {α : Type} (p : α → Bool) {l : List α} {i : Nat} (hi : i < l.length) : (l.take (i + 1)).filter p = (l.take i).filter p ++ (if p l[i] = true then [l[i]] else []) := by
  rw [List.take_add_one, List.getElem?_eq_getElem hi, List.filter_append]
  cases h : p l[i] <;> simp [List.filter, h]
theorem filter_len {α : Type} (p : α → Bool) (l : List α) (i : Nat) : ((l.take i).filter p).length ≤ i := Nat.le_trans (List.length_filter_le _ _) (by simp; omega)
theorem filter_len2 {α : Type} (p : α → Bool) (l : List α) : (l.filter p).length ≤ l.length := List.length_filter_le _ _
/-- A store that is small enough. -/
structure SzB (s : Store) : Prop where
  vars : ∀ x ∈ s.vars, x.name.size ≤ 2000000 ∧ x.val.size ≤ 2000000
  cells : ∀ x ∈ s.cells, x.name.size ≤ 2000000 ∧ x.key.size ≤ 2000000 ∧ x.val.size ≤ 2000000
  out : s.out.size ≤ 2000000
  nv : s.vars.length ≤ 2000000
  nc : s.cells.length ≤ 2000000
theorem SzB.sz {s : Store} (z : SzB s) : Sz s := by
  have m : (2000000 : Nat) ≤ maxLen := by decide
  exact ⟨fun x hx => by have := z.vars x hx; omega, fun x hx => by have := z.cells x hx; omega, by have := z.out; omega, by have := z.nv; omega, by have := z.nc; omega⟩
theorem SzB.setV {s : Store} (z : SzB s) {n v : ByteArray} (hn : n.size ≤ 2000000) : SzB (setV s n v) := by
  unfold Sim.setV
  split
  · rename_i h
    refine ⟨fun x hx => ?_, z.cells, z.out, by show (newV s.vars n v).length ≤ _; omega, z.nc⟩
    simp only [newV, List.mem_append, List.mem_filter, List.mem_singleton] at hx
    rcases hx with (hx | rfl) | hx
    · exact z.vars x hx.1
    · exact ⟨hn, by have := cutB_size v; show (cutB v).size ≤ _; omega⟩
    · exact z.vars x hx.1
  · exact z
theorem SzB.setC {s : Store} (z : SzB s) {n k v : ByteArray} (hn : n.size ≤ 2000000) : SzB (setC s n k v) := by
  unfold Sim.setC
  split
  · rename_i h
    refine ⟨z.vars, fun x hx => ?_, z.out, z.nv, by show (newC s.cells (mkC n k v)).length ≤ _; omega⟩
    simp only [newC, List.mem_append, List.mem_filter, List.mem_singleton] at hx
    rcases hx with (hx | rfl) | hx
    · exact z.cells x hx.1
    · exact ⟨hn, by have := cutB_size k; show (cutB k).size ≤ _; omega, by have := cutB_size v; show (cutB v).size ≤ _; omega⟩
    · exact z.cells x hx.1
  · exact z
theorem SzB.say {s : Store} (z : SzB s) (line : ByteArray) : SzB (sayS s line) :=
  ⟨z.vars, z.cells, by have := outB_size (s.out ++ line ++ ⟨#[10]⟩); show (outB _).size ≤ _; omega, z.nv, z.nc⟩
theorem SzB.zero : SzB ⟨[], [], ⟨#[]⟩⟩ := ⟨by simp, by simp, by show (0 : Nat) ≤ _; omega, by simp, by simp⟩
end Go.Sim
namespace Go.Proofs.Ytfbcedjheempfaa
open Go Go.Sim Go.Proofs
set_option linter.unusedSimpArgs false
set_option linter.unusedVariables false
set_option maxRecDepth 100000
set_option maxHeartbeats 1000000
/-- A store's slices, read whole. -/
structure RdT (h : AH) (vA vB : Value) (s : Store) : Prop where
  vars : RdV h vA 2 Var.enc s.vars
  cells : RdV h vB 3 Cell.enc s.cells
theorem RdT.pre {h h' : AH} {vA vB : Value} {s : Store} (r : RdT h vA vB s) (p : Pre h h') : RdT h' vA vB s := ⟨r.vars.pre p, r.cells.pre p⟩
/-- A store whose two slices are a call's own, apart. -/
structure OwnT (h0 h : AH) (vA vB : Value) (st : Store) : Prop where
  a : Gr h0.n h vA 2 (st.vars.map Var.enc).flatten
  b : Gr h0.n h vB 3 (st.cells.map Cell.enc).flatten
  ne : ∀ i, atBlock vA i → ¬ atBlock vB i
theorem OwnS.t {h0 h : AH} {vA vB : Value} {st : Store} (o : OwnS h0 h vA vB st) : OwnT h0 h vA vB st := by
  obtain ⟨m, a, b, c, d⟩ := o
  exact ⟨b, d.mono a, fun i h1 h2 => by have := c i h1; have := d.range h2; omega⟩
theorem OwnT.keep {h0 h h' : AH} {vA vB : Value} {st : Store} (o : OwnT h0 h vA vB st) (hn : h.n ≤ h'.n) (e : ∀ i, (atBlock vA i ∨ atBlock vB i) → h'.ob i = h.ob i) : OwnT h0 h' vA vB st :=
  ⟨o.a.keep hn (fun i hi => e i (.inl hi)), o.b.keep hn (fun i hi => e i (.inr hi)), o.ne⟩
theorem OwnT.pre {h0 h h' : AH} {vA vB : Value} {st : Store} (o : OwnT h0 h vA vB st) (p : Pre h h') : OwnT h0 h' vA vB st := ⟨o.a.pre p, o.b.pre p, o.ne⟩
theorem OwnT.range {h0 h : AH} {vA vB : Value} {st : Store} (o : OwnT h0 h vA vB st) {i : Nat} (e : atBlock vA i ∨ atBlock vB i) : h0.n ≤ i ∧ i < h.n := by
  rcases e with e | e
  · exact o.a.range e
  · exact o.b.range e
theorem OwnT.live {h0 h : AH} {vA vB : Value} {st : Store} (o : OwnT h0 h vA vB st) {i : Nat} (e : atBlock vA i ∨ atBlock vB i) : Sim.live h i := by
  rcases e with e | e
  · exact o.a.live e
  · exact o.b.live e
theorem OwnT.rdt {h0 h : AH} {vA vB : Value} {st : Store} (o : OwnT h0 h vA vB st) : RdT h vA vB st := ⟨o.a.rdv (by decide) (fun _ => rfl), o.b.rdv (by decide) (fun _ => rfl)⟩
theorem OwnT.one {h0 h : AH} {vA vB : Value} {st : Store} (o : OwnT h0 h vA vB st) : Sim.one vA = true ∧ Sim.one vB = true := ⟨o.rdt.vars.one, o.rdt.cells.one⟩
theorem OwnT.mono {h0 h0' h : AH} {vA vB : Value} {st : Store} (o : OwnT h0' h vA vB st) (hn : h0.n ≤ h0'.n) : OwnT h0 h vA vB st := ⟨o.a.mono hn, o.b.mono hn, o.ne⟩
theorem OwnT.to {h0 h H : AH} {vA vB : Value} {st : Store} (o : OwnT h0 h vA vB st) (hn : h.n ≤ H.n) (e : ∀ i, (atBlock vA i ∨ atBlock vB i) → H.ob i = h.ob i) : OwnT h0 H vA vB st := o.keep hn e
theorem OwnT.alloc {h0 h : AH} {vA vB : Value} {st : Store} (o : OwnT h0 h vA vB st) (x : AOb) : OwnT h0 (h.alloc x) vA vB st := o.pre ((Pre.refl h).alloc x)
theorem OwnT.say {h0 h : AH} {vA vB : Value} {st : Store} (o : OwnT h0 h vA vB st) (line : ByteArray) : OwnT h0 h vA vB (sayS st line) := ⟨o.a, o.b, o.ne⟩
theorem RdT.rds {h : AH} {vA vB : Value} {s : Store} (r : RdT h vA vB s) : ∃ A B ca cb, vA = .slice A s.vars.length ca ∧ vB = .slice B s.cells.length cb ∧ RdS h A B s := by
  obtain ⟨A, ca, e1, r1⟩ := r.vars.rde (fun _ => rfl)
  obtain ⟨B, cb, e2, r2⟩ := r.cells.rde (fun _ => rfl)
  exact ⟨A, B, ca, cb, e1, e2, r1, r2⟩
theorem l08Copy_c (s : Store) (vA vB : Value) (h : AH) (r : RdT h vA vB s) (zs : Sz s) :
    CC Try.prog 71 [.agg #[vA, vB, .string s.out]] h (fun v h' => ∃ rA rB, v = .agg #[rA, rB, .string s.out] ∧ OwnT h h' rA rB s ∧ Pre h h') := by
  have y1 := r.vars.one
  have y2 := r.cells.one
  refine CC.ofN Try.func71 Try.ntmps71 Try.results71 rfl (by decide) (by kernel_rfl) ?_
  simp (maxSteps := 1000000) -implicitDefEqProofs only [push_cast, seval, y1, y2]
  refine WC.draw' (by kernel_rfl) (by kernel_rfl) (.q 1 (.q 2 (.q 5 (.q 6 (.q 8 (.q 9 (.b 0 (.b 3 (.a 4 false (.a 7 false (.q 10 (.a 11 true (.done))))) 4 (.a 3 false (.a 7 false (.q 10 (.a 11 true (.done)))))) 4 (.a 0 false (.a 3 false (.a 7 false (.q 10 (.a 11 true (.done))))))))))))) (by kernel_rfl) ?_
  simp (maxSteps := 1000000) -implicitDefEqProofs only [push_cast, seval, y1, y2]
  have nv := zs.nv
  have nc := zs.nc
  refine And.intro (And.intro ?_ ?_) ?_
  · refine app_copy si48 (by decide) (by decide) (notInt_sl und48) (by (try simp (maxSteps := 1000000) -implicitDefEqProofs only [push_cast, seval, rdOb]); try rfl) (by simp only [alloc_n]; omega) (r.vars.pre ((((Pre.refl h).alloc _).alloc _).alloc _)) (fun _ => rfl) nv (fun h1 a1 n1 f1 => ?_)
    simp only [alloc_n, Nat.add_assoc, Nat.reduceAdd] at a1 n1 f1
    have f0 : h1.ob h.n = AOb.cells [vA, vB, Value.string s.out] .solo h.n := (f1 h.n (by omega) (by omega)).trans (by (try simp (maxSteps := 1000000) -implicitDefEqProofs only [push_cast, seval, rdOb]); try rfl)
    have l0 : h.n < h1.n := by omega
    simp (maxSteps := 1000000) -implicitDefEqProofs only [push_cast, seval, f0, l0, n1]
    refine app_copy si49 (by decide) (by decide) (notInt_sl und49) (alloc_eq _ (by omega)) (by simp only [alloc_n]; omega) (r.cells.keep (by simp only [alloc_n]; omega) (fun i hi => ?_)) (fun _ => rfl) nc (fun h2 a2 n2 f2 => ?_)
    · have := r.cells.lt hi
      rw [alloc_lt _ (by omega), f1 i (by omega) (by omega)]
      simp (maxSteps := 1000000) -implicitDefEqProofs only [push_cast, seval, this]
    simp only [alloc_n, n1, Nat.add_assoc, Nat.reduceAdd] at a2 n2 f2
    have g0 : h2.ob h.n = AOb.cells [vA, vB, Value.string s.out] .solo h.n := (f2 h.n (by omega) (by omega)).trans ((alloc_lt _ (by omega)).trans f0)
    have g1 : h2.ob (h.n + 1) = AOb.cells [.slice none 0 0, .slice none 0 0, .string ⟨#[]⟩] .solo (h.n + 1) := (f2 _ (by omega) (by omega)).trans ((alloc_lt _ (by omega)).trans ((f1 _ (by omega) (by omega)).trans (by (try simp (maxSteps := 1000000) -implicitDefEqProofs only [push_cast, seval, rdOb]); try rfl)))
    have e2 : h2.ob (h.n + 3) = h1.ob (h.n + 3) := (f2 _ (by omega) (by omega)).trans (alloc_lt _ (by omega))
    have ee : ∀ i, i < h.n → h2.ob i = h.ob i := fun i hi => (f2 i (by omega) (by omega)).trans ((alloc_lt _ (by omega)).trans ((f1 i (by omega) (by omega)).trans (by simp (maxSteps := 1000000) -implicitDefEqProofs only [push_cast, seval, hi])))
    have k1 : h.n + 1 < h2.n := by omega
    simp (maxSteps := 1000000) -implicitDefEqProofs only [push_cast, seval, g0, g1, k1, f0, l0, n1, n2]
    refine ⟨_, _, rfl, ⟨.inr ⟨_, _, _, rfl, by omega, (a1.same e2 (by omega)).same (set_ne _ (by omega)) (Nat.le_refl _)⟩, .inr ⟨_, _, _, rfl, by omega, a2.same (set_ne _ (by omega)) (Nat.le_refl _)⟩, fun i e e' => ?_⟩, ⟨by show h.n ≤ h2.n; omega, fun i hi => (set_ne _ (by omega)).trans (ee i hi)⟩⟩
    simp only [atBlock] at e e'
    omega
  · refine app_copy si48 (by decide) (by decide) (notInt_sl und48) (by (try simp (maxSteps := 1000000) -implicitDefEqProofs only [push_cast, seval, rdOb]); try rfl) (by simp only [alloc_n]; omega) (r.vars.pre (((((Pre.refl h).alloc _).alloc _).alloc _).alloc _)) (fun _ => rfl) nv (fun h1 a1 n1 f1 => ?_)
    simp only [alloc_n, Nat.add_assoc, Nat.reduceAdd] at a1 n1 f1
    have f0 : h1.ob h.n = AOb.cells [vA, vB, Value.string s.out] .solo h.n := (f1 h.n (by omega) (by omega)).trans (by (try simp (maxSteps := 1000000) -implicitDefEqProofs only [push_cast, seval, rdOb]); try rfl)
    have l0 : h.n < h1.n := by omega
    simp (maxSteps := 1000000) -implicitDefEqProofs only [push_cast, seval, f0, l0, n1]
    refine app_copy si49 (by decide) (by decide) (notInt_sl und49) ((f1 _ (by omega) (by omega)).trans (by (try simp (maxSteps := 1000000) -implicitDefEqProofs only [push_cast, seval, rdOb]); try rfl)) (by omega) (r.cells.keep (by omega) (fun i hi => ?_)) (fun _ => rfl) nc (fun h2 a2 n2 f2 => ?_)
    · have := r.cells.lt hi
      rw [f1 i (by omega) (by omega)]
      simp (maxSteps := 1000000) -implicitDefEqProofs only [push_cast, seval, this]
    simp only [n1, Nat.add_assoc, Nat.reduceAdd] at a2 n2 f2
    have g0 : h2.ob h.n = AOb.cells [vA, vB, Value.string s.out] .solo h.n := (f2 h.n (by omega) (by omega)).trans f0
    have g1 : h2.ob (h.n + 1) = AOb.cells [.slice none 0 0, .slice none 0 0, .string ⟨#[]⟩] .solo (h.n + 1) := (f2 _ (by omega) (by omega)).trans ((f1 _ (by omega) (by omega)).trans (by (try simp (maxSteps := 1000000) -implicitDefEqProofs only [push_cast, seval, rdOb]); try rfl))
    have e2 : h2.ob (h.n + 4) = h1.ob (h.n + 4) := f2 _ (by omega) (by omega)
    have ee : ∀ i, i < h.n → h2.ob i = h.ob i := fun i hi => (f2 i (by omega) (by omega)).trans ((f1 i (by omega) (by omega)).trans (by simp (maxSteps := 1000000) -implicitDefEqProofs only [push_cast, seval, hi]))
    have k1 : h.n + 1 < h2.n := by omega
    simp (maxSteps := 1000000) -implicitDefEqProofs only [push_cast, seval, g0, g1, k1, f0, l0, n1, n2]
    refine ⟨_, _, rfl, ⟨.inr ⟨_, _, _, rfl, by omega, (a1.same e2 (by omega)).same (set_ne _ (by omega)) (Nat.le_refl _)⟩, .inr ⟨_, _, _, rfl, by omega, a2.same (set_ne _ (by omega)) (Nat.le_refl _)⟩, fun i e e' => ?_⟩, ⟨by show h.n ≤ h2.n; omega, fun i hi => (set_ne _ (by omega)).trans (ee i hi)⟩⟩
    simp only [atBlock] at e e'
    omega
  · refine app_copy si48 (by decide) (by decide) (notInt_sl und48) (by (try simp (maxSteps := 1000000) -implicitDefEqProofs only [push_cast, seval, rdOb]); try rfl) (by simp only [alloc_n]; omega) (r.vars.pre (((((Pre.refl h).alloc _).alloc _).alloc _).alloc _)) (fun _ => rfl) nv (fun h1 a1 n1 f1 => ?_)
    simp only [alloc_n, Nat.add_assoc, Nat.reduceAdd] at a1 n1 f1
    have f0 : h1.ob h.n = AOb.cells [vA, vB, Value.string s.out] .solo h.n := (f1 h.n (by omega) (by omega)).trans (by (try simp (maxSteps := 1000000) -implicitDefEqProofs only [push_cast, seval, rdOb]); try rfl)
    have l0 : h.n < h1.n := by omega
    simp (maxSteps := 1000000) -implicitDefEqProofs only [push_cast, seval, f0, l0, n1]
    refine app_copy si49 (by decide) (by decide) (notInt_sl und49) ((f1 _ (by omega) (by omega)).trans (by (try simp (maxSteps := 1000000) -implicitDefEqProofs only [push_cast, seval, rdOb]); try rfl)) (by omega) (r.cells.keep (by omega) (fun i hi => ?_)) (fun _ => rfl) nc (fun h2 a2 n2 f2 => ?_)
    · have := r.cells.lt hi
      rw [f1 i (by omega) (by omega)]
      simp (maxSteps := 1000000) -implicitDefEqProofs only [push_cast, seval, this]
    simp only [n1, Nat.add_assoc, Nat.reduceAdd] at a2 n2 f2
    have g0 : h2.ob h.n = AOb.cells [vA, vB, Value.string s.out] .solo h.n := (f2 h.n (by omega) (by omega)).trans f0
    have g1 : h2.ob (h.n + 1) = AOb.cells [.slice none 0 0, .slice none 0 0, .string ⟨#[]⟩] .solo (h.n + 1) := (f2 _ (by omega) (by omega)).trans ((f1 _ (by omega) (by omega)).trans (by (try simp (maxSteps := 1000000) -implicitDefEqProofs only [push_cast, seval, rdOb]); try rfl))
    have e2 : h2.ob (h.n + 4) = h1.ob (h.n + 4) := f2 _ (by omega) (by omega)
    have ee : ∀ i, i < h.n → h2.ob i = h.ob i := fun i hi => (f2 i (by omega) (by omega)).trans ((f1 i (by omega) (by omega)).trans (by simp (maxSteps := 1000000) -implicitDefEqProofs only [push_cast, seval, hi]))
    have k1 : h.n + 1 < h2.n := by omega
    simp (maxSteps := 1000000) -implicitDefEqProofs only [push_cast, seval, g0, g1, k1, f0, l0, n1, n2]
    refine ⟨_, _, rfl, ⟨.inr ⟨_, _, _, rfl, by omega, (a1.same e2 (by omega)).same (set_ne _ (by omega)) (Nat.le_refl _)⟩, .inr ⟨_, _, _, rfl, by omega, a2.same (set_ne _ (by omega)) (Nat.le_refl _)⟩, fun i e e' => ?_⟩, ⟨by show h.n ≤ h2.n; omega, fun i hi => (set_ne _ (by omega)).trans (ee i hi)⟩⟩
    simp only [atBlock] at e e'
    omega
end Go.Proofs.Ytfbcedjheempfaa
namespace Go.Proofs.Ytfbcedjheempfaa
open Go Go.Sim Go.Proofs
set_option linter.unusedSimpArgs false
set_option linter.unusedVariables false
set_option maxRecDepth 100000
set_option maxHeartbeats 1000000
theorem Cut_s (s : ByteArray) (hs : s.size ≤ maxLen) (h : AH) : CD Try.prog 110 [.string s] h (.string (cutB s)) h := by
  refine CD.quiet ?_ (low_string _ _)
  have hm := maxLen_eq
  refine CC.ofN Try.func110 Try.ntmps110 Try.results110 rfl (by decide) (by kernel_rfl) ?_
  simp (maxSteps := 1000000) -implicitDefEqProofs only [push_cast, seval]
  repeat' (first | with_reducible (first | exact Keep.refl _ _ | assumption | exact byte_lt _ _ | apply Keep.alloc | (refine Keep.set ?_ ?_; rotate_left; · omega) | apply Pre.alloc | apply Pre.set | exact Pre.refl _ | exact le_alloc _ | (refine Pre.keep ?_; assumption) | (refine Pre.n ?_; assumption)) | ((with_reducible (first | refine bcase_d (fun hb => ?_) (fun hb => ?_) | refine bcase_mk (fun hb => ?_) (fun hb => ?_))) <;> try simp (maxSteps := 1000000) -implicitDefEqProofs only [push_cast, seval]) | with_reducible refine And.intro ?_ ?_ | omega | (simp only [alloc_n, set_n, kill_n]; omega) | (exfalso; omega))
  all_goals simp [cutB, hb]
theorem l08Out_s (s : ByteArray) (hs : s.size ≤ maxLen) (h : AH) : CD Try.prog 131 [.string s] h (.string (outB s)) h := by
  refine CD.quiet ?_ (low_string _ _)
  have hm := maxLen_eq
  refine CC.ofN Try.func131 Try.ntmps131 Try.results131 rfl (by decide) (by kernel_rfl) ?_
  simp (maxSteps := 1000000) -implicitDefEqProofs only [push_cast, seval]
  repeat' (first | with_reducible (first | exact Keep.refl _ _ | assumption | exact byte_lt _ _ | apply Keep.alloc | (refine Keep.set ?_ ?_; rotate_left; · omega) | apply Pre.alloc | apply Pre.set | exact Pre.refl _ | exact le_alloc _ | (refine Pre.keep ?_; assumption) | (refine Pre.n ?_; assumption)) | ((with_reducible (first | refine bcase_d (fun hb => ?_) (fun hb => ?_) | refine bcase_mk (fun hb => ?_) (fun hb => ?_))) <;> try simp (maxSteps := 1000000) -implicitDefEqProofs only [push_cast, seval]) | with_reducible refine And.intro ?_ ?_ | omega | (simp only [alloc_n, set_n, kill_n]; omega) | (exfalso; omega))
  all_goals simp [outB, hb]
theorem Say_s (s : Store) (line : ByteArray) (vA vB : Value) (h : AH) (r : RdT h vA vB s) (zs : SzB s) (hl : line.size ≤ 4000000) :
    CC Try.prog 129 [.agg #[vA, vB, .string s.out], .string line] h (fun v h' => ∃ rA rB, v = .agg #[rA, rB, .string (sayS s line).out] ∧ OwnT h h' rA rB (sayS s line) ∧ Pre h h') := by
  have y1 := r.vars.one
  have y2 := r.cells.one
  have zo := zs.out
  have hm := maxLen_eq
  refine CC.ofN Try.func129 Try.ntmps129 Try.results129 rfl (by decide) (by kernel_rfl) ?_
  simp (maxSteps := 1000000) -implicitDefEqProofs only [push_cast, seval, y1, y2]
  have p0 := ((Pre.refl h).alloc (AOb.cells [vA, vB, Value.string s.out] .solo h.n)).alloc (AOb.cells [.slice none 0 0, .slice none 0 0, .string ⟨#[]⟩] .solo (h.n + 1))
  with_reducible refine CC.mono (l08Copy_c s vA vB _ (r.pre p0) zs.sz) (fun v h1 hv => ?_)
  with_reducible refine Exists.elim hv (fun rA hv => ?_)
  with_reducible refine Exists.elim hv (fun rB hv => ?_)
  have e1 := hv.1
  have o1 := hv.2.1
  have p1 := hv.2.2
  clear hv
  subst e1
  have y3 := o1.one.1
  have y4 := o1.one.2
  have n1 : h.n + 2 ≤ h1.n := p1.n
  have g0 : h1.ob h.n = AOb.cells [vA, vB, Value.string s.out] .solo h.n := (p1.ob _ (by show h.n < h.n + 2; omega)).trans (by (try simp (maxSteps := 1000000) -implicitDefEqProofs only [push_cast, seval, rdOb]); try rfl)
  have g1 : h1.ob (h.n + 1) = AOb.cells [.slice none 0 0, .slice none 0 0, .string ⟨#[]⟩] .solo (h.n + 1) := (p1.ob _ (by show h.n + 1 < h.n + 2; omega)).trans (by (try simp (maxSteps := 1000000) -implicitDefEqProofs only [push_cast, seval, rdOb]); try rfl)
  have l0 : h.n < h1.n := by omega
  have l1 : h.n + 1 < h1.n := by omega
  have z1 : (ByteArray.mk #[10]).size = 1 := rfl
  have hz : (s.out ++ line ++ ⟨#[10]⟩).size ≤ maxLen := by rw [ByteArray.size_append, ByteArray.size_append, z1]; omega
  simp (maxSteps := 1000000) -implicitDefEqProofs only [push_cast, seval, g0, rd_of g0, rd1_of g0, g1, rd_of g1, rd1_of g1, l0, l1, y3, y4]
  refine And.intro (by omega) (And.intro (by rw [ByteArray.size_append, z1]; omega) ?_)
  with_reducible refine CD.to (l08Out_s _ hz _) ?_
  simp (maxSteps := 1000000) -implicitDefEqProofs only [push_cast, seval, g0, rd_of g0, rd1_of g0, g1, rd_of g1, rd1_of g1, l0, l1, y3, y4]
  refine ⟨rA, rB, rfl, ((o1.mono (by show h.n ≤ h.n + 2; omega)).to (by show h1.n ≤ h1.n + 1; omega) (fun i e => ?_)).say line, ?_⟩
  · have e : h.n + 2 ≤ i ∧ i < h1.n := o1.range e
    rw [set_ne _ (by omega), set_ne _ (by omega), alloc_lt _ (by omega)]
  exact (((p0.trans p1).alloc _).set (by omega) _).set (by omega) _
theorem SetVar_s (s : Store) (name val : ByteArray) (vA vB : Value) (h : AH) (r : RdT h vA vB s) (zs : SzB s) (hn : name.size ≤ 2000000) (hvl : val.size ≤ maxLen) :
    CC Try.prog 72 [.agg #[vA, vB, .string s.out], .string name, .string val] h (fun v h' => ∃ rA rB, v = .agg #[rA, rB, .string (setV s name val).out] ∧ OwnT h h' rA rB (setV s name val) ∧ Pre h h') := by
  have y1 := r.vars.one
  have y2 := r.cells.one
  have znv := zs.nv
  have hm := maxLen_eq
  obtain ⟨A, ca, rfl, hR⟩ := r.vars.rde (fun _ => rfl)
  refine CC.withBig (fun big => ?_)
  refine CC.ofN Try.func72 Try.ntmps72 Try.results72 rfl (by decide) (by kernel_rfl) ?_
  simp (maxSteps := 1000000) -implicitDefEqProofs only [push_cast, seval, y2]
  have p0 := ((Pre.refl h).alloc (AOb.cells [.slice A s.vars.length ca, vB, Value.string s.out] .solo h.n)).alloc (AOb.cells [.slice none 0 0, .slice none 0 0, .string ⟨#[]⟩] .solo (h.n + 1))
  with_reducible refine CC.mono (l08Copy_c s _ vB _ (r.pre p0) zs.sz) (fun v h1 hv => ?_)
  with_reducible refine Exists.elim hv (fun rA hv => ?_)
  with_reducible refine Exists.elim hv (fun rB hv => ?_)
  have e1 := hv.1
  have o1 := hv.2.1
  have p1 := hv.2.2
  clear hv
  subst e1
  have y3 := o1.one.1
  have y4 := o1.one.2
  have n1 : h.n + 2 ≤ h1.n := p1.n
  have g0 : h1.ob h.n = AOb.cells [.slice A s.vars.length ca, vB, Value.string s.out] .solo h.n := (p1.ob _ (by show h.n < h.n + 2; omega)).trans (by (try simp (maxSteps := 1000000) -implicitDefEqProofs only [push_cast, seval, rdOb]); try rfl)
  have g1 : h1.ob (h.n + 1) = AOb.cells [.slice none 0 0, .slice none 0 0, .string ⟨#[]⟩] .solo (h.n + 1) := (p1.ob _ (by show h.n + 1 < h.n + 2; omega)).trans (by (try simp (maxSteps := 1000000) -implicitDefEqProofs only [push_cast, seval, rdOb]); try rfl)
  have l0 : h.n < h1.n := by omega
  have l1 : h.n + 1 < h1.n := by omega
  simp (maxSteps := 1000000) -implicitDefEqProofs only [push_cast, seval, g0, rd_of g0, rd1_of g0, g1, rd_of g1, rd1_of g1, l0, l1, y3, y4]
  have q1 : Pre h1 (((h1.alloc (AOb.cells [Value.slice none 0 0, Value.slice none 0 0, Value.string ⟨#[]⟩] .solo h1.n)).set h1.n (AOb.cells [rA, rB, Value.string s.out] .solo h1.n)).alloc (AOb.cells [] .solo (h1.n + 1))) := (((Pre.refl h1).alloc _).set (Nat.le_refl _) _).alloc _
  refine WC.loopA (by kernel_rfl) [8, 9] [14, 15, 16, 17, 18, 19, 20, 21, 22, 23, 24, 25, 26, 27, 28, 29, 30, 31, 32, 33, 34, 35, 36] (fun a : Nat × Value => [a.2, .int .i64 (a.1 : Nat)]) (fun a h' => a.1 ≤ s.vars.length ∧ Gr (h1.n + 1) h' a.2 2 ((((s.vars.take a.1).filter (vLt name)).map Var.enc).flatten) ∧ h'.ob h1.n = (AOb.cells [rA, rB, Value.string s.out] .solo h1.n) ∧ Pre h1 h' ∧ h1.n + 1 < h'.n) (fun a => s.vars.length - a.1) (0, .slice (some ⟨h1.n + 1, 0, none⟩) 0 2) (by kernel_rfl) ⟨Nat.zero_le _, ?_, ?_, q1, ?_⟩ ?_
  · exact .inr ⟨h1.n + 1, 0, 0, rfl, Nat.le_refl _, Own.zero rfl 2⟩
  · exact (alloc_lt _ (by show h1.n < h1.n + 1; omega)).trans (set_same _ _)
  · show h1.n + 1 < h1.n + 2
    omega
  intro a g h2 hJ
  have hi := hJ.1
  have hg := hJ.2.1
  have u1 := hJ.2.2.1
  have p2 := hJ.2.2.2.1
  have n2 := hJ.2.2.2.2
  clear hJ
  have g0' : h2.ob h.n = _ := (p2.ob _ l0).trans g0
  have l0' : h.n < h2.n := by omega
  have hlen := filter_len (vLt name) s.vars a.1
  have lw : h1.n < h2.n := by omega
  simp (maxSteps := 1000000) -implicitDefEqProofs only [push_cast, seval, g0, rd_of g0, rd1_of g0', l0']
  with_reducible refine bcase_d (fun hb => ?_) (fun hb => ?_)
  · have hi' : a.1 < s.vars.length := by omega
    with_reducible refine hR.use big (p0.trans (p1.trans p2)) hi' (fun id off eA hlt hr => ?_)
    subst eA
    simp only [Var.enc] at hr
    have r0 := (rd_2 hr).1
    have r1 := (rd_2 hr).2
    have hfl := filter_next (vLt name) hi'
    have hcl : ((((s.vars.take a.1).filter (vLt name)).map Var.enc).flatten).length = ((s.vars.take a.1).filter (vLt name)).length * 2 := flat_len (k := 2) _ (fun _ => rfl)
    simp (maxSteps := 1000000) -implicitDefEqProofs only [push_cast, seval, g0, rd_of g0, rd1_of g0', l0', hr, r0, r1, hlt]
    refine And.intro (by omega) (And.intro (by omega) ?_)
    with_reducible refine bcase_mk (fun hb2 => ?_) (fun hb2 => ?_)
    · simp (maxSteps := 1000000) -implicitDefEqProofs only [push_cast, seval, g0, rd_of g0, rd1_of g0', l0', hr, r0, r1, hlt]
      refine And.intro (by omega) (And.intro (by omega) ?_)
      refine Gr.app1 (h0 := h1) si48 (by decide) (by decide) (notInt_sl und48) (hg.mono (Nat.le_succ h1.n)) p2 rfl (by rw [hcl]; omega) (by decide) (fun h' gr ow p' hn' he => ?_)
      have w1 : h'.ob h1.n = _ := (he h1.n lw (hg.not_low (Nat.lt_succ_self _))).trans u1
      have g0'' : h'.ob h.n = _ := (p'.ob _ l0).trans g0
      have l0'' : h.n < h'.n := by omega
      simp (maxSteps := 1000000) -implicitDefEqProofs only [push_cast, seval, g0, rd_of g0, rd1_of g0'', l0'']
      rw [wrapSucc (by omega)]
      refine ⟨(a.1 + 1, .slice (some ⟨h2.n + 1, 0, none⟩) ((((s.vars.take a.1).filter (vLt name)).map Var.enc).flatten.length / 2 + 1) 2), by kernel_rfl, ⟨by show a.1 + 1 ≤ s.vars.length; omega, ?_, w1, p', by omega⟩, by show s.vars.length - (a.1 + 1) < s.vars.length - a.1; omega⟩
      have e : (((s.vars.take (a.1 + 1)).filter (vLt name)).map Var.enc).flatten = (((s.vars.take a.1).filter (vLt name)).map Var.enc).flatten ++ [.string s.vars[a.1].name, .string s.vars[a.1].val] := by
        rw [hfl, if_pos (show vLt name s.vars[a.1] = true from hb2), flat_snoc]; rfl
      show Gr (h1.n + 1) h' _ 2 (((s.vars.take (a.1 + 1)).filter (vLt name)).map Var.enc).flatten
      rw [e]
      exact .inr ⟨_, _, _, rfl, by omega, ow⟩
    · simp (maxSteps := 1000000) -implicitDefEqProofs only [push_cast, seval, g0, rd_of g0, rd1_of g0', l0', hr, r0, r1, hlt]
      rw [wrapSucc (by omega)]
      refine ⟨(a.1 + 1, a.2), by kernel_rfl, ⟨by show a.1 + 1 ≤ s.vars.length; omega, ?_, u1, p2, n2⟩, by show s.vars.length - (a.1 + 1) < s.vars.length - a.1; omega⟩
      show Gr (h1.n + 1) h2 a.2 2 (((s.vars.take (a.1 + 1)).filter (vLt name)).map Var.enc).flatten
      rw [hfl, if_neg (by rw [show vLt name s.vars[a.1] = false from hb2]; decide), List.append_nil]
      exact hg
  · have ea : a.1 = s.vars.length := by omega
    rw [ea, List.take_length] at hg
    simp (maxSteps := 1000000) -implicitDefEqProofs only [push_cast, seval]
    with_reducible refine CD.to (Cut_s val hvl _) ?_
    simp (maxSteps := 1000000) -implicitDefEqProofs only [push_cast, seval]
    have hcl : ((((s.vars.filter (vLt name)).map Var.enc).flatten)).length = (s.vars.filter (vLt name)).length * 2 := flat_len (k := 2) _ (fun _ => rfl)
    have hlen2 := filter_len2 (vLt name) s.vars
    refine Gr.app1 (h0 := h1) si48 (by decide) (by decide) (notInt_sl und48) (hg.mono (Nat.le_succ h1.n)) p2 rfl (by rw [hcl]; omega) (by decide) (fun h3 gr3 ow3 p3 hn3 he3 => ?_)
    have w1 : h3.ob h1.n = _ := (he3 h1.n lw (hg.not_low (Nat.lt_succ_self _))).trans u1
    have g03 : h3.ob h.n = _ := (p3.ob _ l0).trans g0
    have l03 : h.n < h3.n := by omega
    have ec : ((s.vars.filter (vLt name)).map Var.enc).flatten ++ [.string name, .string (cutB val)] = ((s.vars.filter (vLt name) ++ [(⟨name, cutB val⟩ : Var)]).map Var.enc).flatten := by
      rw [flat_snoc]; rfl
    rw [ec] at gr3 ow3
    generalize hF : s.vars.filter (vLt name) ++ [(⟨name, cutB val⟩ : Var)] = F at gr3 ow3
    have hFl : F.length = (s.vars.filter (vLt name)).length + 1 := by rw [← hF]; simp
    simp (maxSteps := 1000000) -implicitDefEqProofs only [push_cast, seval, g03, rd_of g03, rd1_of g03, l03]
    rw [hcl, Nat.mul_div_cancel _ (by decide : 0 < 2), ← hFl]
    rw [hcl, Nat.mul_div_cancel _ (by decide : 0 < 2), ← hFl] at gr3 ow3
    refine WC.loopA (by kernel_rfl) [8, 10] [44, 45, 46, 47, 48, 49, 50, 51, 52, 53, 54, 55, 56, 57, 58, 59, 60, 61, 62, 63, 64, 65, 66] (fun a : Nat × Value => [a.2, .int .i64 (a.1 : Nat)]) (fun a h' => a.1 ≤ s.vars.length ∧ Gr (h1.n + 1) h' a.2 2 ((F ++ (s.vars.take a.1).filter (vGt name)).map Var.enc).flatten ∧ h'.ob h1.n = (AOb.cells [rA, rB, Value.string s.out] .solo h1.n) ∧ Pre h1 h' ∧ h1.n + 1 < h'.n) (fun a => s.vars.length - a.1) (0, .slice (some ⟨h2.n + 1, 0, none⟩) F.length 2) (by kernel_rfl) ⟨Nat.zero_le _, ?_, w1, p3, ?_⟩ ?_
    · show Gr (h1.n + 1) h3 _ 2 ((F ++ (s.vars.take 0).filter (vGt name)).map Var.enc).flatten
      rw [List.take_zero, List.filter_nil, List.append_nil]
      exact .inr ⟨_, _, _, rfl, by omega, ow3⟩
    · omega
    clear gr3 ow3 he3 p2 n2 g0' l0' lw u1 hg hlen
    intro b g' h4 hJ
    have hi4 := hJ.1
    have hg4 := hJ.2.1
    have u4 := hJ.2.2.1
    have p4 := hJ.2.2.2.1
    have n4 := hJ.2.2.2.2
    clear hJ
    have g04 : h4.ob h.n = _ := (p4.ob _ l0).trans g0
    have l04 : h.n < h4.n := by omega
    have hlen4 := filter_len (vGt name) s.vars b.1
    have lw4 : h1.n < h4.n := by omega
    simp (maxSteps := 1000000) -implicitDefEqProofs only [push_cast, seval, g04, rd_of g04, rd1_of g04, l04]
    with_reducible refine bcase_d (fun hb4 => ?_) (fun hb4 => ?_)
    · have hi' : b.1 < s.vars.length := by omega
      with_reducible refine hR.use big (p0.trans (p1.trans p4)) hi' (fun id off eA hlt hr => ?_)
      subst eA
      simp only [Var.enc] at hr
      have r0 := (rd_2 hr).1
      have r1 := (rd_2 hr).2
      have hfl := filter_next (vGt name) hi'
      have hcl4 : (((F ++ (s.vars.take b.1).filter (vGt name)).map Var.enc).flatten).length = (F.length + ((s.vars.take b.1).filter (vGt name)).length) * 2 := by rw [← List.length_append]; exact flat_len (k := 2) _ (fun _ => rfl)
      simp (maxSteps := 1000000) -implicitDefEqProofs only [push_cast, seval, g04, rd_of g04, rd1_of g04, l04, hr, r0, r1, hlt]
      refine And.intro (by omega) (And.intro (by omega) ?_)
      with_reducible refine bcase_mk (fun hb2 => ?_) (fun hb2 => ?_)
      · have hb3 : vGt name s.vars[b.1] = false := by unfold vGt; rw [← gtB, hb2]; rfl
        simp (maxSteps := 1000000) -implicitDefEqProofs only [push_cast, seval, g04, rd_of g04, rd1_of g04, l04, hr, r0, r1, hlt]
        rw [wrapSucc (by omega)]
        refine ⟨(b.1 + 1, b.2), by kernel_rfl, ⟨by show b.1 + 1 ≤ s.vars.length; omega, ?_, u4, p4, n4⟩, by show s.vars.length - (b.1 + 1) < s.vars.length - b.1; omega⟩
        show Gr (h1.n + 1) h4 b.2 2 ((F ++ (s.vars.take (b.1 + 1)).filter (vGt name)).map Var.enc).flatten
        rw [hfl, if_neg (by rw [hb3]; decide), List.append_nil]
        exact hg4
      · have hb3 : vGt name s.vars[b.1] = true := by unfold vGt; rw [← gtB, hb2]; rfl
        simp (maxSteps := 1000000) -implicitDefEqProofs only [push_cast, seval, g04, rd_of g04, rd1_of g04, l04, hr, r0, r1, hlt]
        refine And.intro (by omega) (And.intro (by omega) ?_)
        refine Gr.app1 (h0 := h1) si48 (by decide) (by decide) (notInt_sl und48) (hg4.mono (Nat.le_succ h1.n)) p4 rfl (by rw [hcl4]; omega) (by decide) (fun h' gr ow p' hn' he => ?_)
        have w1 : h'.ob h1.n = _ := (he h1.n lw4 (hg4.not_low (Nat.lt_succ_self _))).trans u4
        have g0'' : h'.ob h.n = _ := (p'.ob _ l0).trans g0
        have l0'' : h.n < h'.n := by omega
        simp (maxSteps := 1000000) -implicitDefEqProofs only [push_cast, seval, g0, rd_of g0, rd1_of g0'', l0'']
        rw [wrapSucc (by omega)]
        refine ⟨(b.1 + 1, .slice (some ⟨h4.n + 1, 0, none⟩) (((F ++ (s.vars.take b.1).filter (vGt name)).map Var.enc).flatten.length / 2 + 1) 2), by kernel_rfl, ⟨by show b.1 + 1 ≤ s.vars.length; omega, ?_, w1, p', by omega⟩, by show s.vars.length - (b.1 + 1) < s.vars.length - b.1; omega⟩
        have e : ((F ++ (s.vars.take (b.1 + 1)).filter (vGt name)).map Var.enc).flatten = ((F ++ (s.vars.take b.1).filter (vGt name)).map Var.enc).flatten ++ [.string s.vars[b.1].name, .string s.vars[b.1].val] := by
          rw [hfl, if_pos hb3, ← List.append_assoc, flat_snoc]; rfl
        show Gr (h1.n + 1) h' _ 2 ((F ++ (s.vars.take (b.1 + 1)).filter (vGt name)).map Var.enc).flatten
        rw [e]
        exact .inr ⟨_, _, _, rfl, by omega, ow⟩
    · have eb : b.1 = s.vars.length := by omega
      rw [eb, List.take_length, ← hF] at hg4
      have hgN : Gr (h1.n + 1) h4 b.2 2 ((newV s.vars name val).map Var.enc).flatten := hg4
      obtain ⟨B, cB, eB, rB4⟩ := hgN.read (by decide) (fun _ => rfl)
      have g14 : h4.ob (h.n + 1) = _ := (p4.ob _ l1).trans g1
      have l14 : h.n + 1 < h4.n := by omega
      have hne : h.n + 1 ≠ h1.n := by omega
      simp (maxSteps := 1000000) -implicitDefEqProofs only [push_cast, seval, eB, u4, rd_of u4, rd1_of u4, lw4]
      with_reducible refine bcase_d (fun hb5 => ?_) (fun hb5 => ?_)
      · simp (maxSteps := 1000000) -implicitDefEqProofs only [push_cast, seval, eB, u4, rd_of u4, rd1_of u4, lw4, l1, y3, y4, g14, rd_of g14, rd1_of g14, l14, hne]
        have eS : setV s name val = ⟨newV s.vars name val, s.cells, s.out⟩ := by unfold setV; rw [if_pos (by omega)]
        rw [eS]
        rw [← eB] at *
        refine ⟨b.2, rB, rfl, ⟨(hgN.mono (by omega)).keep (Nat.le_refl _) (fun i e => ?_), (o1.b.mono (by show h.n ≤ h.n + 2; omega)).keep (by show h1.n ≤ h4.n; omega) (fun i e => ?_), fun i e e' => ?_⟩, ((p0.trans (p1.trans p4)).set (by omega) _).set (by omega) _⟩
        · have := hgN.range e
          rw [set_ne _ (by omega), set_ne _ (by omega)]
        · have e2 : h.n + 2 ≤ i ∧ i < h1.n := o1.b.range e
          rw [set_ne _ (by omega), set_ne _ (by omega)]
          exact p4.ob _ (by omega)
        · have := hgN.range e
          have := o1.b.range e'
          omega
      · simp (maxSteps := 1000000) -implicitDefEqProofs only [push_cast, seval, eB, u4, rd_of u4, rd1_of u4, lw4, l1, y3, y4, g14, rd_of g14, rd1_of g14, l14, hne]
        have eS : setV s name val = s := by unfold setV; rw [if_neg (by omega)]
        rw [eS]
        refine ⟨rA, rB, rfl, (o1.mono (by show h.n ≤ h.n + 2; omega)).to (by show h1.n ≤ h4.n; omega) (fun i e => ?_), ((p0.trans (p1.trans p4))).set (by omega) _⟩
        have e2 : h.n + 2 ≤ i ∧ i < h1.n := o1.range e
        rw [set_ne _ (by omega)]
        exact p4.ob _ (by omega)
end Go.Proofs.Ytfbcedjheempfaa
namespace Go.Proofs.Ytfbcedjheempfaa
open Go Go.Sim Go.Proofs
set_option linter.unusedSimpArgs false
set_option linter.unusedVariables false
set_option maxRecDepth 100000
set_option maxHeartbeats 1000000
theorem SetCell_s (s : Store) (name key val : ByteArray) (vA vB : Value) (h : AH) (r : RdT h vA vB s) (zs : SzB s) (hn : name.size ≤ 2000000) (hkl : key.size ≤ maxLen) (hvl : val.size ≤ maxLen) :
    CC Try.prog 128 [.agg #[vA, vB, .string s.out], .string name, .string key, .string val] h (fun v h' => ∃ rA rB, v = .agg #[rA, rB, .string (setC s name key val).out] ∧ OwnT h h' rA rB (setC s name key val) ∧ Pre h h') := by
  have y1 := r.vars.one
  have y2 := r.cells.one
  have znv := zs.nc
  have hm := maxLen_eq
  obtain ⟨A, ca, rfl, hR⟩ := r.cells.rde (fun _ => rfl)
  refine CC.withBig (fun big => ?_)
  refine CC.ofN Try.func128 Try.ntmps128 Try.results128 rfl (by decide) (by kernel_rfl) ?_
  simp (maxSteps := 1000000) -implicitDefEqProofs only [push_cast, seval, y1]
  have p0 := ((Pre.refl h).alloc (AOb.cells [vA, .slice A s.cells.length ca, Value.string s.out] .solo h.n)).alloc (AOb.cells [.slice none 0 0, .slice none 0 0, .string ⟨#[]⟩] .solo (h.n + 1))
  with_reducible refine CC.mono (l08Copy_c s vA _ _ (r.pre p0) zs.sz) (fun v h1 hv => ?_)
  with_reducible refine Exists.elim hv (fun rA hv => ?_)
  with_reducible refine Exists.elim hv (fun rB hv => ?_)
  have e1 := hv.1
  have o1 := hv.2.1
  have p1 := hv.2.2
  clear hv
  subst e1
  have y3 := o1.one.1
  have y4 := o1.one.2
  have n1 : h.n + 2 ≤ h1.n := p1.n
  have g0 : h1.ob h.n = AOb.cells [vA, .slice A s.cells.length ca, Value.string s.out] .solo h.n := (p1.ob _ (by show h.n < h.n + 2; omega)).trans (by (try simp (maxSteps := 1000000) -implicitDefEqProofs only [push_cast, seval, rdOb]); try rfl)
  have g1 : h1.ob (h.n + 1) = AOb.cells [.slice none 0 0, .slice none 0 0, .string ⟨#[]⟩] .solo (h.n + 1) := (p1.ob _ (by show h.n + 1 < h.n + 2; omega)).trans (by (try simp (maxSteps := 1000000) -implicitDefEqProofs only [push_cast, seval, rdOb]); try rfl)
  have l0 : h.n < h1.n := by omega
  have l1 : h.n + 1 < h1.n := by omega
  simp (maxSteps := 1000000) -implicitDefEqProofs only [push_cast, seval, g0, rd_of g0, rd1_of g0, g1, rd_of g1, rd1_of g1, l0, l1, y3, y4]
  with_reducible refine CD.to (Cut_s key hkl _) ?_
  simp (maxSteps := 1000000) -implicitDefEqProofs only [push_cast, seval, g0, rd_of g0, rd1_of g0, g1, rd_of g1, rd1_of g1, l0, l1, y3, y4]
  with_reducible refine CD.to (Cut_s val hvl _) ?_
  simp (maxSteps := 1000000) -implicitDefEqProofs only [push_cast, seval, g0, rd_of g0, rd1_of g0, g1, rd_of g1, rd1_of g1, l0, l1, y3, y4]
  generalize hY : mkC name key val = Y
  have hY1 : Y.name = name := by rw [← hY]; rfl
  have hY2 : Y.key = cutB key := by rw [← hY]; rfl
  have hY3 : Y.val = cutB val := by rw [← hY]; rfl
  rw [← hY2, ← hY3]
  have hL := fun (x : Cell) (h : AH) => l08Ahead_c x Y h
  have hG := fun (x : Cell) (h : AH) => l08Ahead_c Y x h
  rw [hY1] at hL hG
  have q1 : Pre h1 (((((h1.alloc (AOb.cells [Value.slice none 0 0, Value.slice none 0 0, Value.string ⟨#[]⟩] .solo h1.n)).set h1.n (AOb.cells [rA, rB, Value.string s.out] .solo h1.n)).alloc (AOb.cells [.string ⟨#[]⟩, .string ⟨#[]⟩, .string ⟨#[]⟩] .solo (h1.n + 1))).set (h1.n + 1) (AOb.cells [.string name, .string Y.key, .string Y.val] .solo (h1.n + 1))).alloc (AOb.cells [] .solo (h1.n + 2))) := (((((Pre.refl h1).alloc _).set (Nat.le_refl _) _).alloc _).set (by omega) _).alloc _
  refine WC.loopA (by kernel_rfl) [11, 12] [23, 24, 25, 26, 27, 28, 29, 30, 31, 32, 33, 34, 35, 36, 37, 38, 39, 40, 41, 42, 43, 44] (fun a : Nat × Value => [a.2, .int .i64 (a.1 : Nat)]) (fun a h' => a.1 ≤ s.cells.length ∧ Gr (h1.n + 2) h' a.2 3 ((((s.cells.take a.1).filter (cLt Y)).map Cell.enc).flatten) ∧ h'.ob h1.n = (AOb.cells [rA, rB, Value.string s.out] .solo h1.n) ∧ Pre h1 h' ∧ h1.n + 2 < h'.n ∧ h'.ob (h1.n + 1) = AOb.cells [.string name, .string Y.key, .string Y.val] .solo (h1.n + 1)) (fun a => s.cells.length - a.1) (0, .slice (some ⟨h1.n + 2, 0, none⟩) 0 3) (by kernel_rfl) ⟨Nat.zero_le _, ?_, ?_, q1, ?_, ?_⟩ ?_
  · exact .inr ⟨h1.n + 2, 0, 0, rfl, Nat.le_refl _, Own.zero rfl 3⟩
  · exact (alloc_lt _ (by show h1.n < h1.n + 2; omega)).trans ((set_ne _ (by omega)).trans ((alloc_lt _ (by show h1.n < h1.n + 1; omega)).trans (set_same _ _)))
  · show h1.n + 2 < h1.n + 3
    omega
  · exact (alloc_lt _ (by show h1.n + 1 < h1.n + 2; omega)).trans (set_same _ _)
  intro a g h2 hJ
  have hi := hJ.1
  have hg := hJ.2.1
  have u1 := hJ.2.2.1
  have p2 := hJ.2.2.2.1
  have n2 := hJ.2.2.2.2.1
  have c2 := hJ.2.2.2.2.2
  clear hJ
  have g0' : h2.ob h.n = _ := (p2.ob _ l0).trans g0
  have l0' : h.n < h2.n := by omega
  have hlen := filter_len (cLt Y) s.cells a.1
  have lw : h1.n < h2.n := by omega
  have lc : h1.n + 1 < h2.n := by omega
  simp (maxSteps := 1000000) -implicitDefEqProofs only [push_cast, seval, g0, rd_of g0, rd1_of g0', l0']
  with_reducible refine bcase_d (fun hb => ?_) (fun hb => ?_)
  · have hi' : a.1 < s.cells.length := by omega
    with_reducible refine hR.use big (p0.trans (p1.trans p2)) hi' (fun id off eA hlt hr => ?_)
    subst eA
    simp only [Cell.enc] at hr
    have r0 := (rd_3 hr).1
    have r1 := (rd_3 hr).2.1
    have r2 := (rd_3 hr).2.2
    have hfl := filter_next (cLt Y) hi'
    have hcl : ((((s.cells.take a.1).filter (cLt Y)).map Cell.enc).flatten).length = ((s.cells.take a.1).filter (cLt Y)).length * 3 := flat_len (k := 3) _ (fun _ => rfl)
    simp (maxSteps := 1000000) -implicitDefEqProofs only [push_cast, seval, g0, rd_of g0, rd1_of g0', l0', hr, r0, r1, r2, hlt, c2, rd_of c2, rd1_of c2, lc]
    refine WC.draw' (by kernel_rfl) (by kernel_rfl) (.q 0 (.q 1 (.q 2 (.q 3 (.q 4 (.q 5 (.c 6 (.done)))))))) (by kernel_rfl) ?_
    simp (maxSteps := 1000000) -implicitDefEqProofs only [push_cast, seval, g0, rd_of g0, rd1_of g0', l0', hr, r0, r1, r2, hlt, c2, rd_of c2, rd1_of c2, lc]
    refine And.intro (by omega) (And.intro (by omega) ?_)
    refine CQ.pure (fun h' => hL s.cells[a.1] h') ?_
    simp (maxSteps := 1000000) -implicitDefEqProofs only [push_cast, seval, g0, rd_of g0, rd1_of g0', l0', hr, r0, r1, r2, hlt, c2, rd_of c2, rd1_of c2, lc]
    with_reducible refine bcase_mk (fun hb2 => ?_) (fun hb2 => ?_)
    · simp (maxSteps := 1000000) -implicitDefEqProofs only [push_cast, seval, g0, rd_of g0, rd1_of g0', l0', hr, r0, r1, r2, hlt, c2, rd_of c2, rd1_of c2, lc]
      refine And.intro (by omega) (And.intro (by omega) ?_)
      refine Gr.app1 (h0 := h1) si49 (by decide) (by decide) (notInt_sl und49) (hg.mono (by omega)) p2 rfl (by rw [hcl]; omega) (by decide) (fun h' gr ow p' hn' he => ?_)
      have w1 : h'.ob h1.n = _ := (he h1.n lw (hg.not_low (by omega))).trans u1
      have cw1 : h'.ob (h1.n + 1) = _ := (he (h1.n + 1) lc (hg.not_low (by omega))).trans c2
      have g0'' : h'.ob h.n = _ := (p'.ob _ l0).trans g0
      have l0'' : h.n < h'.n := by omega
      simp (maxSteps := 1000000) -implicitDefEqProofs only [push_cast, seval, g0, rd_of g0, rd1_of g0'', l0'']
      rw [wrapSucc (by omega)]
      refine ⟨(a.1 + 1, .slice (some ⟨h2.n + 1, 0, none⟩) ((((s.cells.take a.1).filter (cLt Y)).map Cell.enc).flatten.length / 3 + 1) 3), by kernel_rfl, ⟨by show a.1 + 1 ≤ s.cells.length; omega, ?_, w1, p', by omega, cw1⟩, by show s.cells.length - (a.1 + 1) < s.cells.length - a.1; omega⟩
      have e : (((s.cells.take (a.1 + 1)).filter (cLt Y)).map Cell.enc).flatten = (((s.cells.take a.1).filter (cLt Y)).map Cell.enc).flatten ++ [.string s.cells[a.1].name, .string s.cells[a.1].key, .string s.cells[a.1].val] := by
        rw [hfl, if_pos (show cLt Y s.cells[a.1] = true from hb2), flat_snoc]; rfl
      show Gr (h1.n + 2) h' _ 3 (((s.cells.take (a.1 + 1)).filter (cLt Y)).map Cell.enc).flatten
      rw [e]
      exact .inr ⟨_, _, _, rfl, by omega, ow⟩
    · simp (maxSteps := 1000000) -implicitDefEqProofs only [push_cast, seval, g0, rd_of g0, rd1_of g0', l0', hr, r0, r1, r2, hlt, c2, rd_of c2, rd1_of c2, lc]
      rw [wrapSucc (by omega)]
      refine ⟨(a.1 + 1, a.2), by kernel_rfl, ⟨by show a.1 + 1 ≤ s.cells.length; omega, ?_, u1, p2, n2⟩, by show s.cells.length - (a.1 + 1) < s.cells.length - a.1; omega⟩
      show Gr (h1.n + 2) h2 a.2 3 (((s.cells.take (a.1 + 1)).filter (cLt Y)).map Cell.enc).flatten
      rw [hfl, if_neg (by rw [show cLt Y s.cells[a.1] = false from hb2]; decide), List.append_nil]
      exact hg
  · have ea : a.1 = s.cells.length := by omega
    rw [ea, List.take_length] at hg
    simp (maxSteps := 1000000) -implicitDefEqProofs only [push_cast, seval, c2, rd_of c2, rd1_of c2, lc]
    have hcl : ((((s.cells.filter (cLt Y)).map Cell.enc).flatten)).length = (s.cells.filter (cLt Y)).length * 3 := flat_len (k := 3) _ (fun _ => rfl)
    have hlen2 := filter_len2 (cLt Y) s.cells
    refine Gr.app1 (h0 := h1) si49 (by decide) (by decide) (notInt_sl und49) (hg.mono (by omega)) p2 rfl (by rw [hcl]; omega) (by decide) (fun h3 gr3 ow3 p3 hn3 he3 => ?_)
    have w1 : h3.ob h1.n = _ := (he3 h1.n lw (hg.not_low (by omega))).trans u1
    have g03 : h3.ob h.n = _ := (p3.ob _ l0).trans g0
    have l03 : h.n < h3.n := by omega
    have cw3 : h3.ob (h1.n + 1) = _ := (he3 (h1.n + 1) lc (hg.not_low (by omega))).trans c2
    have ec : ((s.cells.filter (cLt Y)).map Cell.enc).flatten ++ [.string name, .string Y.key, .string Y.val] = ((s.cells.filter (cLt Y) ++ [Y]).map Cell.enc).flatten := by
      rw [flat_snoc, Cell.enc, hY1]
    rw [ec] at gr3 ow3
    generalize hF : s.cells.filter (cLt Y) ++ [Y] = F at gr3 ow3
    have hFl : F.length = (s.cells.filter (cLt Y)).length + 1 := by rw [← hF]; simp
    simp (maxSteps := 1000000) -implicitDefEqProofs only [push_cast, seval, g03, rd_of g03, rd1_of g03, l03]
    rw [hcl, Nat.mul_div_cancel _ (by decide : 0 < 3), ← hFl]
    rw [hcl, Nat.mul_div_cancel _ (by decide : 0 < 3), ← hFl] at gr3 ow3
    refine WC.loopA (by kernel_rfl) [11, 13] [49, 50, 51, 52, 53, 54, 55, 56, 57, 58, 59, 60, 61, 62, 63, 64, 65, 66, 67, 68, 69, 70] (fun a : Nat × Value => [a.2, .int .i64 (a.1 : Nat)]) (fun a h' => a.1 ≤ s.cells.length ∧ Gr (h1.n + 2) h' a.2 3 ((F ++ (s.cells.take a.1).filter (cGt Y)).map Cell.enc).flatten ∧ h'.ob h1.n = (AOb.cells [rA, rB, Value.string s.out] .solo h1.n) ∧ Pre h1 h' ∧ h1.n + 2 < h'.n ∧ h'.ob (h1.n + 1) = AOb.cells [.string name, .string Y.key, .string Y.val] .solo (h1.n + 1)) (fun a => s.cells.length - a.1) (0, .slice (some ⟨h2.n + 1, 0, none⟩) F.length 3) (by kernel_rfl) ⟨Nat.zero_le _, ?_, w1, p3, ?_, cw3⟩ ?_
    · show Gr (h1.n + 2) h3 _ 3 ((F ++ (s.cells.take 0).filter (cGt Y)).map Cell.enc).flatten
      rw [List.take_zero, List.filter_nil, List.append_nil]
      exact .inr ⟨_, _, _, rfl, by omega, ow3⟩
    · omega
    clear gr3 ow3 he3 p2 n2 g0' l0' lw u1 hg hlen
    intro b g' h4 hJ
    have hi4 := hJ.1
    have hg4 := hJ.2.1
    have u4 := hJ.2.2.1
    have p4 := hJ.2.2.2.1
    have n4 := hJ.2.2.2.2.1
    have c4 := hJ.2.2.2.2.2
    clear hJ
    have g04 : h4.ob h.n = _ := (p4.ob _ l0).trans g0
    have l04 : h.n < h4.n := by omega
    have hlen4 := filter_len (cGt Y) s.cells b.1
    have lw4 : h1.n < h4.n := by omega
    have lc4 : h1.n + 1 < h4.n := by omega
    simp (maxSteps := 1000000) -implicitDefEqProofs only [push_cast, seval, g04, rd_of g04, rd1_of g04, l04]
    with_reducible refine bcase_d (fun hb4 => ?_) (fun hb4 => ?_)
    · have hi' : b.1 < s.cells.length := by omega
      with_reducible refine hR.use big (p0.trans (p1.trans p4)) hi' (fun id off eA hlt hr => ?_)
      subst eA
      simp only [Cell.enc] at hr
      have r0 := (rd_3 hr).1
      have r1 := (rd_3 hr).2.1
      have r2 := (rd_3 hr).2.2
      have hfl := filter_next (cGt Y) hi'
      have hcl4 : (((F ++ (s.cells.take b.1).filter (cGt Y)).map Cell.enc).flatten).length = (F.length + ((s.cells.take b.1).filter (cGt Y)).length) * 3 := by rw [← List.length_append]; exact flat_len (k := 3) _ (fun _ => rfl)
      simp (maxSteps := 1000000) -implicitDefEqProofs only [push_cast, seval, g04, rd_of g04, rd1_of g04, l04, hr, r0, r1, r2, hlt, c4, rd_of c4, rd1_of c4, lc4]
      refine WC.draw' (by kernel_rfl) (by kernel_rfl) (.q 0 (.q 1 (.q 2 (.q 3 (.q 4 (.q 5 (.c 6 (.done)))))))) (by kernel_rfl) ?_
      simp (maxSteps := 1000000) -implicitDefEqProofs only [push_cast, seval, g04, rd_of g04, rd1_of g04, l04, hr, r0, r1, r2, hlt, c4, rd_of c4, rd1_of c4, lc4]
      refine And.intro (by omega) (And.intro (by omega) ?_)
      refine CQ.pure (fun h' => hG s.cells[b.1] h') ?_
      simp (maxSteps := 1000000) -implicitDefEqProofs only [push_cast, seval, g04, rd_of g04, rd1_of g04, l04, hr, r0, r1, r2, hlt, c4, rd_of c4, rd1_of c4, lc4]
      with_reducible refine bcase_mk (fun hb2 => ?_) (fun hb2 => ?_)
      · have hb3 : cGt Y s.cells[b.1] = true := hb2
        simp (maxSteps := 1000000) -implicitDefEqProofs only [push_cast, seval, g04, rd_of g04, rd1_of g04, l04, hr, r0, r1, r2, hlt, c4, rd_of c4, rd1_of c4, lc4]
        refine And.intro (by omega) (And.intro (by omega) ?_)
        refine Gr.app1 (h0 := h1) si49 (by decide) (by decide) (notInt_sl und49) (hg4.mono (by omega)) p4 rfl (by rw [hcl4]; omega) (by decide) (fun h' gr ow p' hn' he => ?_)
        have w1 : h'.ob h1.n = _ := (he h1.n lw4 (hg4.not_low (by omega))).trans u4
        have cw1 : h'.ob (h1.n + 1) = _ := (he (h1.n + 1) lc4 (hg4.not_low (by omega))).trans c4
        have g0'' : h'.ob h.n = _ := (p'.ob _ l0).trans g0
        have l0'' : h.n < h'.n := by omega
        simp (maxSteps := 1000000) -implicitDefEqProofs only [push_cast, seval, g0, rd_of g0, rd1_of g0'', l0'']
        rw [wrapSucc (by omega)]
        refine ⟨(b.1 + 1, .slice (some ⟨h4.n + 1, 0, none⟩) (((F ++ (s.cells.take b.1).filter (cGt Y)).map Cell.enc).flatten.length / 3 + 1) 3), by kernel_rfl, ⟨by show b.1 + 1 ≤ s.cells.length; omega, ?_, w1, p', by omega, cw1⟩, by show s.cells.length - (b.1 + 1) < s.cells.length - b.1; omega⟩
        have e : ((F ++ (s.cells.take (b.1 + 1)).filter (cGt Y)).map Cell.enc).flatten = ((F ++ (s.cells.take b.1).filter (cGt Y)).map Cell.enc).flatten ++ [.string s.cells[b.1].name, .string s.cells[b.1].key, .string s.cells[b.1].val] := by
          rw [hfl, if_pos hb3, ← List.append_assoc, flat_snoc]; rfl
        show Gr (h1.n + 2) h' _ 3 ((F ++ (s.cells.take (b.1 + 1)).filter (cGt Y)).map Cell.enc).flatten
        rw [e]
        exact .inr ⟨_, _, _, rfl, by omega, ow⟩
      · have hb3 : cGt Y s.cells[b.1] = false := hb2
        simp (maxSteps := 1000000) -implicitDefEqProofs only [push_cast, seval, g04, rd_of g04, rd1_of g04, l04, hr, r0, r1, r2, hlt, c4, rd_of c4, rd1_of c4, lc4]
        rw [wrapSucc (by omega)]
        refine ⟨(b.1 + 1, b.2), by kernel_rfl, ⟨by show b.1 + 1 ≤ s.cells.length; omega, ?_, u4, p4, n4⟩, by show s.cells.length - (b.1 + 1) < s.cells.length - b.1; omega⟩
        show Gr (h1.n + 2) h4 b.2 3 ((F ++ (s.cells.take (b.1 + 1)).filter (cGt Y)).map Cell.enc).flatten
        rw [hfl, if_neg (by rw [hb3]; decide), List.append_nil]
        exact hg4
    · have eb : b.1 = s.cells.length := by omega
      rw [eb, List.take_length, ← hF] at hg4
      have hgN : Gr (h1.n + 2) h4 b.2 3 ((newC s.cells Y).map Cell.enc).flatten := hg4
      obtain ⟨B, cB, eB, rB4⟩ := hgN.read (by decide) (fun _ => rfl)
      have g14 : h4.ob (h.n + 1) = _ := (p4.ob _ l1).trans g1
      have l14 : h.n + 1 < h4.n := by omega
      have hne : h.n + 1 ≠ h1.n := by omega
      simp (maxSteps := 1000000) -implicitDefEqProofs only [push_cast, seval, eB, u4, rd_of u4, rd1_of u4, lw4]
      with_reducible refine bcase_d (fun hb5 => ?_) (fun hb5 => ?_)
      · simp (maxSteps := 1000000) -implicitDefEqProofs only [push_cast, seval, eB, u4, rd_of u4, rd1_of u4, lw4, l1, y3, y4, g14, rd_of g14, rd1_of g14, l14, hne]
        have eS : setC s name key val = ⟨s.vars, newC s.cells Y, s.out⟩ := by unfold setC; rw [hY, if_pos (by omega)]
        rw [eS]
        rw [← eB] at *
        refine ⟨rA, b.2, rfl, ⟨(o1.a.mono (by show h.n ≤ h.n + 2; omega)).keep (by show h1.n ≤ h4.n; omega) (fun i e => ?_), (hgN.mono (by omega)).keep (Nat.le_refl _) (fun i e => ?_), fun i e e' => ?_⟩, ((p0.trans (p1.trans p4)).set (by omega) _).set (by omega) _⟩
        · have e2 : h.n + 2 ≤ i ∧ i < h1.n := o1.a.range e
          rw [set_ne _ (by omega), set_ne _ (by omega)]
          exact p4.ob _ (by omega)
        · have := hgN.range e
          rw [set_ne _ (by omega), set_ne _ (by omega)]
        · have := hgN.range e'
          have := o1.a.range e
          omega
      · simp (maxSteps := 1000000) -implicitDefEqProofs only [push_cast, seval, eB, u4, rd_of u4, rd1_of u4, lw4, l1, y3, y4, g14, rd_of g14, rd1_of g14, l14, hne]
        have eS : setC s name key val = s := by unfold setC; rw [hY, if_neg (by omega)]
        rw [eS]
        refine ⟨rA, rB, rfl, (o1.mono (by show h.n ≤ h.n + 2; omega)).to (by show h1.n ≤ h4.n; omega) (fun i e => ?_), ((p0.trans (p1.trans p4))).set (by omega) _⟩
        have e2 : h.n + 2 ≤ i ∧ i < h1.n := o1.range e
        rw [set_ne _ (by omega)]
        exact p4.ob _ (by omega)
end Go.Proofs.Ytfbcedjheempfaa
namespace Go.Proofs.Ytfbcedjheempfaa
open Go Go.Sim Go.Proofs
set_option linter.unusedSimpArgs false
set_option linter.unusedVariables false
set_option maxRecDepth 100000
set_option maxHeartbeats 1000000
theorem nameI (n : Int) {G : Prop} (k : ∀ N, N = n → G) : G := k n rfl
/-- The cursor of a draw: the slice of its bytes, its place, its number. -/
def curO (p : Nat) (S : Value) (i : Nat) (x : Int) : AOb := .cells [S, .int .i64 (i : Nat), .int .i64 x] .solo p
/-- Bytes that are drawn from. -/
structure Bts (p : Nat) (h : AH) (S : Value) (l : List Nat) : Prop where
  sl : ∃ A c, S = .slice A l.length c ∧ ∀ i (hi : i < l.length), ∃ id off, A = some ⟨id, off, none⟩ ∧ id < h.n ∧ id ≠ p ∧ rd h id (off + i * 1) 1 = some [.int .u8 (l[i] : Nat)]
  lt : ∀ n ∈ l, n < 256
  len : l.length ≤ 1048576
/-- A cursor that stands somewhere. -/
def Cur (p : Nat) (S : Value) (l : List Nat) (h : AH) : Prop := ∃ i x, h.ob p = curO p S i x ∧ i ≤ l.length
/-- All that a draw needs. -/
structure Dw (p : Nat) (S : Value) (l : List Nat) (h : AH) : Prop where
  bts : Bts p h S l
  cur : Cur p S l h
  lt : p < h.n
/-- What a draw leaves behind: its cursor moved; all else as it was. -/
structure Dn (p : Nat) (S : Value) (l : List Nat) (h h' : AH) : Prop where
  n : h.n ≤ h'.n
  ob : ∀ j, j < h.n → j ≠ p → h'.ob j = h.ob j
  cur : Cur p S l h'
theorem Dw.refl {p : Nat} {S : Value} {l : List Nat} {h : AH} (d : Dw p S l h) : Dn p S l h h := ⟨Nat.le_refl _, fun _ _ _ => rfl, d.cur⟩
theorem Dn.trans {p : Nat} {S : Value} {l : List Nat} {a b c : AH} (x : Dn p S l a b) (y : Dn p S l b c) : Dn p S l a c := ⟨Nat.le_trans x.n y.n, fun j h1 h2 => (y.ob j (Nat.lt_of_lt_of_le h1 x.n) h2).trans (x.ob j h1 h2), y.cur⟩
theorem Cur.pre {p : Nat} {S : Value} {l : List Nat} {h h' : AH} (d : Cur p S l h) (e : h'.ob p = h.ob p) : Cur p S l h' := by
  obtain ⟨i, x, e', hi⟩ := d
  exact ⟨i, x, e.trans e', hi⟩
theorem Dn.alloc {p : Nat} {S : Value} {l : List Nat} {h h' : AH} (d : Dn p S l h h') (hp : p < h.n) (o : AOb) : Dn p S l h (h'.alloc o) :=
  ⟨Nat.le_trans d.n (le_alloc o), fun j h1 h2 => (alloc_lt o (Nat.lt_of_lt_of_le h1 d.n)).trans (d.ob j h1 h2), d.cur.pre (alloc_lt o (Nat.lt_of_lt_of_le hp d.n))⟩
theorem Dn.set {p : Nat} {S : Value} {l : List Nat} {h h' : AH} (d : Dn p S l h h') (hp : p < h.n) {j : Nat} (hj : h.n ≤ j) (o : AOb) : Dn p S l h (h'.set j o) :=
  ⟨d.n, fun i h1 h2 => (set_ne o (by omega)).trans (d.ob i h1 h2), d.cur.pre (set_ne o (by omega))⟩
theorem Dn.pre {p : Nat} {S : Value} {l : List Nat} {h h' h'' : AH} (d : Dn p S l h h') (hp : p < h.n) (q : Pre h' h'') : Dn p S l h h'' :=
  ⟨Nat.le_trans d.n q.n, fun j h1 h2 => (q.ob j (Nat.lt_of_lt_of_le h1 d.n)).trans (d.ob j h1 h2), d.cur.pre (q.ob p (Nat.lt_of_lt_of_le hp d.n))⟩
theorem Dw.dn {p : Nat} {S : Value} {l : List Nat} {h h' : AH} (d : Dw p S l h) (w : Dn p S l h h') : Dw p S l h' := by
  obtain ⟨A, c, e, r⟩ := d.bts.sl
  refine ⟨⟨⟨A, c, e, fun i hi => ?_⟩, d.bts.lt, d.bts.len⟩, w.cur, Nat.lt_of_lt_of_le d.lt w.n⟩
  obtain ⟨id, off, e1, h1, h2, h3⟩ := r i hi
  exact ⟨id, off, e1, Nat.lt_of_lt_of_le h1 w.n, h2, by rw [← h3, rd_eq, rd_eq, w.ob id h1 h2]⟩
theorem Dw.toDn {p : Nat} {S : Value} {l : List Nat} {h h' : AH} (d : Dw p S l h) (q : Pre h h') : Dn p S l h h' := d.refl.pre d.lt q
theorem Dw.pre {p : Nat} {S : Value} {l : List Nat} {h h' : AH} (d : Dw p S l h) (q : Pre h h') : Dw p S l h' := d.dn (d.toDn q)
def m255 (a : Int) : Nat := (BitVec.ofInt IntKind.i64.bits a &&& BitVec.ofInt IntKind.i64.bits 255).toNat
theorem m255_lt (a : Int) : m255 a < 256 := by
  unfold m255
  rw [BitVec.toNat_and]
  have h2 : (BitVec.ofInt IntKind.i64.bits 255).toNat = 255 := by decide
  rw [h2]
  exact Nat.lt_of_le_of_lt Nat.and_le_right (by omega)
theorem m255_eq (a : Int) : IntKind.i64.wrap (BitVec.ofInt IntKind.i64.bits a &&& BitVec.ofInt IntKind.i64.bits 255).toNat = (m255 a : Nat) := by
  have := m255_lt a
  rw [w64 (by unfold m255 at this; omega) (by unfold m255 at this; omega)]
  rfl
theorem CC.num {f : FuncId} {args : List Value} {h : AH} {p : Nat} {S : Value} {l : List Nat} {Q : Nat → Prop} {K : Value → AH → Prop} (hc : CC Try.prog f args h fun v h' => (∃ y : Nat, v = .int .i64 (y : Nat) ∧ Q y) ∧ Dn p S l h h')
    (hk : ∀ (y : Nat) h', Q y → Dn p S l h h' → K (.int .i64 (y : Nat)) h') : CC Try.prog f args h K := CC.mono hc (fun v h' ⟨⟨y, e, q⟩, d⟩ => by subst e; exact hk y h' q d)
theorem CC.txt {f : FuncId} {args : List Value} {h : AH} {p : Nat} {S : Value} {l : List Nat} {Q : ByteArray → Prop} {K : Value → AH → Prop} (hc : CC Try.prog f args h fun v h' => (∃ y : ByteArray, v = .string y ∧ Q y) ∧ Dn p S l h h')
    (hk : ∀ (y : ByteArray) h', Q y → Dn p S l h h' → K (.string y) h') : CC Try.prog f args h K := CC.mono hc (fun v h' ⟨⟨y, e, q⟩, d⟩ => by subst e; exact hk y h' q d)
theorem l01Byte_c (p : Nat) (S : Value) (l : List Nat) (h : AH) (d : Dw p S l h) :
    CC Try.prog 106 [.pointer (some ⟨p, 0, none⟩)] h (fun v h' => (∃ y : Nat, v = .int .i64 (y : Nat) ∧ y < 256) ∧ Dn p S l h h') := by
  have hp := d.lt
  obtain ⟨⟨A, c, rfl, hR⟩, hlt', hlen⟩ := d.bts
  obtain ⟨i, x, e, hi⟩ := d.cur
  have dd := d.refl
  have key : ∀ i' x', i' ≤ l.length → Dn p (.slice A l.length c) l h (h.set p (curO p (.slice A l.length c) i' x')) := fun i' x' hi' => ⟨Nat.le_refl _, fun j _ h2 => set_ne _ h2, ⟨i', x', set_same _ _, hi'⟩⟩
  simp only [curO] at e
  refine CC.ofN Try.func106 Try.ntmps106 Try.results106 rfl (by decide) (by kernel_rfl) ?_
  simp (maxSteps := 1000000) -implicitDefEqProofs only [push_cast, seval, e, hp, rd_of e, rd1_of e]
  with_reducible refine nameI (IntKind.i64.wrap (IntKind.i64.wrap (x * 6364136223846793005) + 1442695040888963407)) (fun X hX => ?_)
  rw [← hX]
  refine WC.draw' (by kernel_rfl) (by kernel_rfl) (.q 0 (.q 1 (.q 2 (.q 3 (.q 4 (.q 5 (.q 6 (.q 7 (.q 8 (.q 9 (.q 10 (.q 11 (.q 12 (.done)))))))))))))) (by kernel_rfl) ?_
  simp (maxSteps := 1000000) -implicitDefEqProofs only [push_cast, seval, e, hp, rd_of e, rd1_of e, m255_eq]
  with_reducible refine nameN (m255 (IntKind.i64.wrap ((BitVec.ofInt IntKind.i64.bits (X.fdiv (2 ^ min 33 IntKind.i64.bits)) ^^^ BitVec.ofInt IntKind.i64.bits (X.fdiv (2 ^ min 45 IntKind.i64.bits))).toNat : Nat))) (fun Y hY => ?_)
  have hY2 : Y < 256 := by rw [hY]; exact m255_lt _
  rw [← hY]
  clear hY
  refine WC.draw' (by kernel_rfl) (by kernel_rfl) (.q 0 (.q 1 (.q 2 (.q 3 (.q 4 (.q 5 (.q 6 (.q 7 (.q 8 (.q 9 (.done))))))))))) (by kernel_rfl) ?_
  simp (maxSteps := 1000000) -implicitDefEqProofs only [push_cast, seval, e, hp, rd_of e, rd1_of e, m255_eq]
  with_reducible refine bcase_d (fun hb => ?_) (fun hb => ?_)
  · have hi' : i < l.length := by omega
    have hx := hR i hi'
    with_reducible refine Exists.elim hx (fun id hx => ?_)
    with_reducible refine Exists.elim hx (fun off hx => ?_)
    have eA := hx.1
    have hlt := hx.2.1
    have hne := hx.2.2.1
    have hr := hx.2.2.2
    clear hx
    subst eA
    rw [Nat.mul_one] at hr
    have r0 := rd_1 hr
    have r1 : ∀ O, rd1 (h.set p O) id (off + i * 1) = some (.int .u8 (l[i] : Nat)) := fun O => by
      rw [rd1_eq, set_ne _ hne, ← rd1_eq, Nat.mul_one]; exact r0
    have hlt2 := hlt' l[i] (List.getElem_mem hi')
    refine WC.draw' (by kernel_rfl) (by kernel_rfl) (.q 0 (.q 1 (.q 2 (.q 3 (.q 4 (.q 5 (.q 6 (.q 7 (.q 8 (.q 9 (.q 10 (.q 11 (.q 12 (.q 13 (.q 14 (.done)))))))))))))))) (by kernel_rfl) ?_
    simp (maxSteps := 1000000) -implicitDefEqProofs only [push_cast, seval, e, hp, rd_of e, rd1_of e, m255_eq, hr, r0, r1, hlt, hne]
    refine And.intro (by omega) (And.intro (by omega) ?_)
    rw [wrapSucc (by omega)]
    exact ⟨⟨_, rfl, m255_lt _⟩, key (i + 1) X hi'⟩
  · simp (maxSteps := 1000000) -implicitDefEqProofs only [push_cast, seval]
    exact ⟨⟨Y, rfl, hY2⟩, key i X hi⟩
theorem l01Below_c (p : Nat) (S : Value) (l : List Nat) (n : Int) (h : AH) (d : Dw p S l h) :
    CC Try.prog 69 [.pointer (some ⟨p, 0, none⟩), .int .i64 n] h (fun v h' => (∃ y : Nat, v = .int .i64 (y : Nat) ∧ (0 < n → (y : Int) < n) ∧ (n ≤ 0 → y = 0)) ∧ Dn p S l h h') := by
  refine CC.ofN Try.func69 Try.ntmps69 Try.results69 rfl (by decide) (by kernel_rfl) ?_
  simp (maxSteps := 1000000) -implicitDefEqProofs only [push_cast, seval]
  with_reducible refine bcase_d (fun hb => ?_) (fun hb => ?_)
  · simp (maxSteps := 1000000) -implicitDefEqProofs only [push_cast, seval]
    exact ⟨⟨0, rfl, fun e => by omega, fun _ => rfl⟩, d.refl⟩
  have md : ∀ a : Nat, ∃ y : Nat, (a : Int).tmod n = (y : Nat) ∧ (y : Int) < n := fun a => by
    obtain ⟨m, rfl⟩ := Int.eq_ofNat_of_zero_le (show 0 ≤ n by omega)
    refine ⟨a % m, ?_, ?_⟩
    · rw [Int.tmod_eq_emod_of_nonneg (by omega)]; rfl
    · have := Nat.mod_lt a (show 0 < m by omega); omega
  have hn0 : n ≠ 0 := by omega
  simp (maxSteps := 1000000) -implicitDefEqProofs only [push_cast, seval]
  with_reducible refine bcase_d (fun hb2 => ?_) (fun hb2 => ?_)
  · simp (maxSteps := 1000000) -implicitDefEqProofs only [push_cast, seval]
    with_reducible refine CC.num (l01Byte_c p S l _ d) (fun y h1 hy d1 => ?_)
    simp (maxSteps := 1000000) -implicitDefEqProofs only [push_cast, seval]
    refine And.intro hn0 ?_
    obtain ⟨z, ez, hz⟩ := md y
    rw [ez]
    exact ⟨⟨z, rfl, fun _ => hz, fun e => by omega⟩, d1⟩
  · simp (maxSteps := 1000000) -implicitDefEqProofs only [push_cast, seval]
    with_reducible refine CC.num (l01Byte_c p S l _ d) (fun y1 h1 q1 d1 => ?_)
    simp (maxSteps := 1000000) -implicitDefEqProofs only [push_cast, seval]
    with_reducible refine CC.num (l01Byte_c p S l _ (d.dn d1)) (fun y2 h2 q2 d2 => ?_)
    simp (maxSteps := 1000000) -implicitDefEqProofs only [push_cast, seval]
    with_reducible refine CC.num (l01Byte_c p S l _ ((d.dn d1).dn d2)) (fun y3 h3 q3 d3 => ?_)
    simp (maxSteps := 1000000) -implicitDefEqProofs only [push_cast, seval]
    with_reducible refine CC.num (l01Byte_c p S l _ (((d.dn d1).dn d2).dn d3)) (fun y4 h4 q4 d4 => ?_)
    with_reducible refine nameN (y1 * 16777216 + y2 * 65536 + y3 * 256 + y4) (fun Z hZ => ?_)
    have w : IntKind.i64.wrap (IntKind.i64.wrap (IntKind.i64.wrap (IntKind.i64.wrap ((y1 : Int) * 16777216) + IntKind.i64.wrap ((y2 : Int) * 65536)) + IntKind.i64.wrap ((y3 : Int) * 256)) + y4) = (Z : Int) := by
      rw [hZ, w64 (n := (y1 : Int) * 16777216) (by omega) (by omega), w64 (n := (y2 : Int) * 65536) (by omega) (by omega), w64 (n := (y3 : Int) * 256) (by omega) (by omega), w64 (n := (y1 : Int) * 16777216 + (y2 : Int) * 65536) (by omega) (by omega), w64 (n := (y1 : Int) * 16777216 + (y2 : Int) * 65536 + (y3 : Int) * 256) (by omega) (by omega), w64 (by omega) (by omega)]
      omega
    obtain ⟨z, ez, hz⟩ := md Z
    simp (maxSteps := 1000000) -implicitDefEqProofs only [push_cast, seval, w, ez]
    exact And.intro hn0 ⟨⟨z, rfl, fun _ => hz, fun e => by omega⟩, ((d1.trans d2).trans d3).trans d4⟩
end Go.Proofs.Ytfbcedjheempfaa
namespace Go.Proofs.Ytfbcedjheempfaa
open Go Go.Sim Go.Proofs
set_option linter.unusedSimpArgs false
set_option linter.unusedVariables false
set_option maxRecDepth 100000
set_option maxHeartbeats 1000000
theorem CC.bol {f : FuncId} {args : List Value} {h : AH} {p : Nat} {S : Value} {l : List Nat} {K : Value → AH → Prop} (hc : CC Try.prog f args h fun v h' => (∃ y : Bool, v = .bool y) ∧ Dn p S l h h')
    (hk : ∀ (y : Bool) h', Dn p S l h h' → K (.bool y) h') : CC Try.prog f args h K := CC.mono hc (fun v h' ⟨⟨y, e⟩, d⟩ => by subst e; exact hk y h' d)
theorem l01Once_c (p : Nat) (S : Value) (l : List Nat) (n : Int) (h : AH) (d : Dw p S l h) :
    CC Try.prog 95 [.pointer (some ⟨p, 0, none⟩), .int .i64 n] h (fun v h' => (∃ y : Bool, v = .bool y) ∧ Dn p S l h h') := by
  refine CC.ofN Try.func95 Try.ntmps95 Try.results95 rfl (by decide) (by kernel_rfl) ?_
  simp (maxSteps := 1000000) -implicitDefEqProofs only [push_cast, seval]
  with_reducible refine CC.num (l01Below_c p S l _ _ d) (fun y h1 q d1 => ?_)
  simp (maxSteps := 1000000) -implicitDefEqProofs only [push_cast, seval]
  exact ⟨⟨_, rfl⟩, d1⟩
def strs (Q : ByteArray → Prop) : List Value → Prop
  | [] => True
  | .string y :: r => Q y ∧ strs Q r
  | _ => False
theorem strs_at {Q : ByteArray → Prop} : ∀ {cs : List Value} {i : Nat}, strs Q cs → i < cs.length → ∃ y, cs[i]? = some (.string y) ∧ Q y
  | .string y :: r, 0, h, _ => ⟨y, rfl, h.1⟩
  | .string y :: r, i + 1, h, hi => strs_at (cs := r) h.2 (by simpa using hi)
theorem l01Pick_c (p : Nat) (S : Value) (l : List Nat) (id n : Nat) (Q : ByteArray → Prop) (cs : List Value) (h : AH) (d : Dw p S l h) (e : h.ob id = .cells cs .solo id) (hc : strs Q cs) (hn : cs.length = n) (h0 : 0 < n) (hlt : id < h.n) :
    CC Try.prog 108 [.pointer (some ⟨p, 0, none⟩), .slice (some ⟨id, 0, none⟩) n 1] h (fun v h' => (∃ y : ByteArray, v = .string y ∧ Q y) ∧ Dn p S l h h') := by
  subst hn
  have hne : id ≠ p := fun e' => by
    subst e'
    obtain ⟨i, x, e2, _⟩ := d.cur
    rw [e] at e2
    obtain ⟨A, c, rfl, _⟩ := d.bts.sl
    simp only [curO, AOb.cells.injEq] at e2
    rw [e2.1] at hc
    exact hc
  refine CC.ofN Try.func108 Try.ntmps108 Try.results108 rfl (by decide) (by kernel_rfl) ?_
  simp (maxSteps := 1000000) -implicitDefEqProofs only [push_cast, seval]
  with_reducible refine CC.num (l01Below_c p S l _ _ d) (fun y h1 q d1 => ?_)
  have hy : (y : Int) < cs.length := q.1 (by omega)
  have hy' : y < cs.length := by omega
  have e1 : h1.ob id = _ := (d1.ob id hlt hne).trans e
  have l1 : id < h1.n := Nat.lt_of_lt_of_le hlt d1.n
  have hz := strs_at hc hy'
  with_reducible refine Exists.elim hz (fun z hz => ?_)
  have g1 : rd1 h1 id (y * 1) = some (.string z) := by rw [rd1_of e1, rd1O_cells, Nat.mul_one]; exact hz.1
  have hQ := hz.2
  simp (maxSteps := 1000000) -implicitDefEqProofs only [push_cast, seval, l1, g1]
  refine And.intro (by omega) (And.intro (by omega) ?_)
  exact ⟨⟨z, rfl, hQ⟩, d1⟩
theorem l03Val_c (p : Nat) (S : Value) (l : List Nat) (h : AH) (d : Dw p S l h) :
    CC Try.prog 127 [.pointer (some ⟨p, 0, none⟩)] h (fun v h' => (∃ y : ByteArray, v = .string y ∧ y.size ≤ 42) ∧ Dn p S l h h') := by
  refine CC.ofN Try.func127 Try.ntmps127 Try.results127 rfl (by decide) (by kernel_rfl) ?_
  simp (maxSteps := 1000000) -implicitDefEqProofs only [push_cast, seval]
  refine CC.txt (l01Pick_c p S l h.n 16 (fun y => y.size ≤ 42) _ _ (d.pre ((Pre.refl h).alloc _)) (alloc_same _) (by simp only [strs]; decide) rfl (by omega) (lt_alloc _)) (fun y h1 q d1 => ?_)
  simp (maxSteps := 1000000) -implicitDefEqProofs only [push_cast, seval]
  exact ⟨⟨y, rfl, q⟩, (d.toDn ((Pre.refl h).alloc _)).trans d1⟩
theorem l08Name_c (p : Nat) (S : Value) (l : List Nat) (h : AH) (d : Dw p S l h) :
    CC Try.prog 126 [.pointer (some ⟨p, 0, none⟩)] h (fun v h' => (∃ y : ByteArray, v = .string y ∧ letters y = true) ∧ Dn p S l h h') := by
  refine CC.ofN Try.func126 Try.ntmps126 Try.results126 rfl (by decide) (by kernel_rfl) ?_
  simp (maxSteps := 1000000) -implicitDefEqProofs only [push_cast, seval]
  refine CC.txt (l01Pick_c p S l h.n 5 (fun y => letters y = true) _ _ (d.pre ((Pre.refl h).alloc _)) (alloc_same _) (by simp only [strs]; decide) rfl (by omega) (lt_alloc _)) (fun y h1 q d1 => ?_)
  simp (maxSteps := 1000000) -implicitDefEqProofs only [push_cast, seval]
  exact ⟨⟨y, rfl, q⟩, (d.toDn ((Pre.refl h).alloc _)).trans d1⟩
theorem letters_size {y : ByteArray} (h : letters y = true) : y.size ≤ 8 := by
  simp only [letters, inB, Bool.and_eq_true, decide_eq_true_eq] at h
  omega
end Go.Proofs.Ytfbcedjheempfaa
/- Stores that are set stay right. Conditions: those that each theorem names. -/
set_option linter.unusedSimpArgs false
set_option linter.unusedVariables false
namespace Go.Sim
theorem bl_trans : ∀ a b c : List UInt8, Op.bytesLess a b = true → Op.bytesLess b c = true → Op.bytesLess a c = true
  | [], [], _ => by simp [Op.bytesLess]
  | [], _ :: _, [] => by simp [Op.bytesLess]
  | [], _ :: _, _ :: _ => by simp [Op.bytesLess]
  | _ :: _, [], _ => by simp [Op.bytesLess]
  | _ :: _, _ :: _, [] => by simp [Op.bytesLess]
  | x :: a, y :: b, z :: c => by
    have ih := bl_trans a b c
    simp only [Op.bytesLess]
    intro h1 h2
    by_cases e1 : x < y
    · by_cases e2 : y < z
      · have : x < z := UInt8.lt_trans e1 e2
        simp [this]
      · by_cases e3 : y = z
        · subst e3; simp [e1]
        · simp [e2, e3] at h2
    · by_cases e3 : x = y
      · subst e3
        by_cases e2 : x < z
        · simp [e2]
        · by_cases e4 : x = z
          · subst e4
            simp [UInt8.lt_irrefl] at h1 h2 ⊢
            exact ih h1 h2
          · simp [e2, e4] at h2
      · simp [e1, e3] at h1
theorem bl_irr (a : List UInt8) : Op.bytesLess a a = false := by
  induction a with
  | nil => rfl
  | cons x l ih => simp [Op.bytesLess, ih]
theorem ltB_trans {a b c : ByteArray} (h1 : ltB a b = true) (h2 : ltB b c = true) : ltB a c = true := bl_trans _ _ _ h1 h2
theorem ltB_irr (a : ByteArray) : ltB a a = false := bl_irr _
theorem cLess_trans {a b c : Cell} (h1 : cellCmp a b < 0) (h2 : cellCmp b c < 0) : cellCmp a c < 0 := by
  have k : ∀ x y : Cell, cellCmp x y < 0 ↔ (ltB x.name y.name = true ∨ x.name = y.name ∧ ltB x.key y.key = true) := fun x y => by
    have := cellCmp_lt x y
    rw [show (cellCmp x y < 0) = (decide (cellCmp x y < 0) = true) from by simp, this]
    simp
  rw [k] at h1 h2 ⊢
  rcases h1 with h1 | ⟨e1, h1⟩
  · rcases h2 with h2 | ⟨e2, h2⟩
    · exact .inl (ltB_trans h1 h2)
    · rw [← e2]; exact .inl h1
  · rcases h2 with h2 | ⟨e2, h2⟩
    · rw [e1]; exact .inl h2
    · exact .inr ⟨e1.trans e2, ltB_trans h1 h2⟩
theorem cLess_irr (a : Cell) : ¬ cellCmp a a < 0 := by
  rw [show (cellCmp a a < 0) = (decide (cellCmp a a < 0) = true) from by simp, cellCmp_lt]
  simp [ltB_irr]
/-- In order: each ahead of all behind it. -/
def Srt {α : Type} (R : α → α → Prop) (l : List α) : Prop := l.Pairwise R
theorem adj_srt {α : Type} {R : α → α → Prop} (tr : ∀ a b c, R a b → R b c → R a c) {l : List α} (h : ∀ i (hi : i < l.length) (h0 : 0 < i), R (l[i - 1]'(by omega)) l[i]) : l.Pairwise R := by
  rw [List.pairwise_iff_getElem]
  intro i j hi hj hij
  induction j with
  | zero => omega
  | succ j ih =>
    have hs := h (j + 1) hj (by omega)
    simp only [Nat.add_sub_cancel] at hs
    by_cases e : i = j
    · subst e; exact hs
    · exact tr _ _ _ (ih (by omega) (by omega)) hs
theorem srt_adj {α : Type} {R : α → α → Prop} {l : List α} (h : l.Pairwise R) {i : Nat} (hi : i < l.length) (h0 : 0 < i) : R (l[i - 1]'(by omega)) l[i] :=
  List.pairwise_iff_getElem.1 h (i - 1) i (by omega) hi (by omega)
def vR (a b : Var) : Prop := ltB a.name b.name = true
def cR (a b : Cell) : Prop := cellCmp a b < 0
theorem vR_trans (a b c : Var) (h : vR a b) (k : vR b c) : vR a c := ltB_trans h k
theorem cR_trans (a b c : Cell) (h : cR a b) (k : cR b c) : cR a c := cLess_trans h k
theorem storeOk_iff (s : Store) : storeOk s = true ↔
    (∀ x ∈ s.vars, letters x.name = true ∧ x.val.size ≤ 40) ∧ s.vars.Pairwise vR ∧
    (∀ x ∈ s.cells, letters x.name = true ∧ x.key.size ≤ 40 ∧ x.val.size ≤ 40) ∧ s.cells.Pairwise cR ∧ s.vars.length ≤ 60 ∧ s.cells.length ≤ 2000 ∧ s.out.size ≤ 3000 := by
  constructor
  · intro h
    have hl := storeOk_len h
    simp only [storeOk, Bool.and_eq_true] at h
    have hv := allN_iff.1 h.1.1.1.1
    have hc := allN_iff.1 h.1.1.1.2
    refine ⟨fun x hx => ?_, adj_srt (R := vR) vR_trans (fun i hi h0 => ?_), fun x hx => ?_, adj_srt (R := cR) cR_trans (fun i hi h0 => ?_), hl⟩
    · obtain ⟨i, hi, rfl⟩ := List.mem_iff_getElem.1 hx
      have := hv i hi
      rw [varOkAt_eq hi] at this
      simp only [Bool.and_eq_true, decide_eq_true_eq] at this
      exact ⟨this.1.1, by omega⟩
    · have := hv i hi
      rw [varOkAt_eq hi] at this
      simp only [Bool.and_eq_true, Bool.or_eq_true, beq_iff_eq] at this
      rcases this.2 with e | e
      · omega
      · exact e
    · obtain ⟨i, hi, rfl⟩ := List.mem_iff_getElem.1 hx
      have := hc i hi
      rw [cellOkAt_eq hi] at this
      simp only [Bool.and_eq_true, decide_eq_true_eq] at this
      exact ⟨this.1.1.1, by omega, by omega⟩
    · have := hc i hi
      rw [cellOkAt_eq hi] at this
      simp only [Bool.and_eq_true, Bool.or_eq_true, beq_iff_eq, decide_eq_true_eq] at this
      rcases this.2 with e | e
      · omega
      · exact e
  · rintro ⟨h1, h2, h3, h4, h5, h6, h7⟩
    simp only [storeOk, Bool.and_eq_true, decide_eq_true_eq]
    refine ⟨⟨⟨⟨allN_iff.2 (fun i hi => ?_), allN_iff.2 (fun i hi => ?_)⟩, by omega⟩, by omega⟩, by omega⟩
    · rw [varOkAt_eq hi]
      have a := h1 _ (List.getElem_mem hi)
      rcases Nat.eq_zero_or_pos i with e | e
      · rw [a.1, decide_eq_true (by omega), show (i == 0) = true by simp [e]]; rfl
      · have := srt_adj h2 hi e
        rw [a.1, decide_eq_true (by omega), show ltB _ _ = true from this, Bool.or_true]; rfl
    · rw [cellOkAt_eq hi]
      have a := h3 _ (List.getElem_mem hi)
      rcases Nat.eq_zero_or_pos i with e | e
      · rw [a.1, decide_eq_true (by omega), decide_eq_true (by omega), show (i == 0) = true by simp [e]]; rfl
      · have := srt_adj h4 hi e
        rw [a.1, decide_eq_true (by omega), decide_eq_true (by omega), decide_eq_true (show cellCmp _ _ < 0 from this), Bool.or_true]; rfl
theorem srt_new {α : Type} {R : α → α → Prop} (tr : ∀ a b c, R a b → R b c → R a c) {l : List α} (h : l.Pairwise R) (y : α) (p q : α → Bool) (hp : ∀ x, p x = true → R x y) (hq : ∀ x, q x = true → R y x) : (l.filter p ++ [y] ++ l.filter q).Pairwise R := by
  rw [List.pairwise_append, List.pairwise_append]
  refine ⟨⟨h.filter _, List.pairwise_singleton _ _, fun a ha b hb => ?_⟩, h.filter _, fun a ha b hb => ?_⟩
  · simp only [List.mem_singleton] at hb; subst hb
    exact hp a (List.mem_filter.1 ha).2
  · have hb' := hq b (List.mem_filter.1 hb).2
    rcases List.mem_append.1 ha with ha | ha
    · exact tr _ _ _ (hp a (List.mem_filter.1 ha).2) hb'
    · simp only [List.mem_singleton] at ha; subst ha; exact hb'
theorem setV_ok {s : Store} (h : storeOk s = true) {n v : ByteArray} (hn : letters n = true) : storeOk (setV s n v) = true := by
  unfold setV
  split
  · rename_i hl
    rw [storeOk_iff] at h ⊢
    obtain ⟨h1, h2, h3, h4, h5, h6, h7⟩ := h
    refine ⟨fun x hx => ?_, srt_new vR_trans h2 _ _ _ (fun x hx => hx) (fun x hx => hx), h3, h4, hl, h6, h7⟩
    simp only [newV, List.mem_append, List.mem_filter, List.mem_singleton] at hx
    rcases hx with (hx | rfl) | hx
    · exact h1 x hx.1
    · exact ⟨hn, cutB_size v⟩
    · exact h1 x hx.1
  · exact h
theorem setC_ok {s : Store} (h : storeOk s = true) {n k v : ByteArray} (hn : letters n = true) : storeOk (setC s n k v) = true := by
  unfold setC
  split
  · rename_i hl
    rw [storeOk_iff] at h ⊢
    obtain ⟨h1, h2, h3, h4, h5, h6, h7⟩ := h
    refine ⟨h1, h2, fun x hx => ?_, srt_new cR_trans h4 _ _ _ (fun x hx => (of_decide_eq_true hx : cellCmp _ _ < 0)) (fun x hx => (of_decide_eq_true hx : cellCmp _ _ < 0)), h5, hl, h7⟩
    simp only [newC, List.mem_append, List.mem_filter, List.mem_singleton] at hx
    rcases hx with (hx | rfl) | hx
    · exact h3 x hx.1
    · exact ⟨hn, cutB_size k, cutB_size v⟩
    · exact h3 x hx.1
  · exact h
theorem say_ok {s : Store} (h : storeOk s = true) (line : ByteArray) : storeOk (sayS s line) = true := by
  rw [storeOk_iff] at h ⊢
  obtain ⟨h1, h2, h3, h4, h5, h6, h7⟩ := h
  exact ⟨h1, h2, h3, h4, h5, h6, outB_size _⟩
theorem ok_szB {s : Store} (h : storeOk s = true) : SzB s := by
  rw [storeOk_iff] at h
  obtain ⟨h1, h2, h3, h4, h5, h6, h7⟩ := h
  have ls : ∀ y, letters y = true → y.size ≤ 8 := fun y hy => by
    simp only [letters, inB, Bool.and_eq_true, decide_eq_true_eq] at hy
    omega
  exact ⟨fun x hx => by have := h1 x hx; have := ls _ this.1; omega, fun x hx => by have := h3 x hx; have := ls _ this.1; omega, by omega, by omega, by omega⟩
end Go.Sim
namespace Go.Proofs.Ytfbcedjheempfaa
open Go Go.Sim Go.Proofs
set_option linter.unusedSimpArgs false
set_option linter.unusedVariables false
set_option maxRecDepth 100000
set_option maxHeartbeats 1000000
theorem OwnT.zero (h0 h : AH) : OwnT h0 h (.slice none 0 0) (.slice none 0 0) store0 := ⟨Gr.nil _ _ _ _, Gr.nil _ _ _ _, fun i e => e.elim⟩
theorem store0_ok : storeOk store0 = true := by decide
theorem OwnT.dn {p : Nat} {S : Value} {l : List Nat} {h0 h h' : AH} {vA vB : Value} {st : Store} (o : OwnT h0 h vA vB st) (hp : p < h0.n) (d : Dn p S l h h') : OwnT h0 h' vA vB st :=
  o.keep d.n (fun i e => by have := o.range e; exact d.ob i this.2 (by omega))
/-- A drawn store. -/
theorem l08Store_c (p : Nat) (S : Value) (l : List Nat) (h : AH) (d : Dw p S l h) :
    CC Try.prog 107 [.pointer (some ⟨p, 0, none⟩)] h (fun v h' => ∃ vA vB st, v = .agg #[vA, vB, .string st.out] ∧ storeOk st = true ∧ OwnT h h' vA vB st ∧ Dn p S l h h') := by
  have hp := d.lt
  have hp2 : p < (⟨h.n + 2, h.ob⟩ : AH).n := by show p < h.n + 2; omega
  refine CC.ofN Try.func107 Try.ntmps107 Try.results107 rfl (by decide) (by kernel_rfl) ?_
  simp (maxSteps := 1000000) -implicitDefEqProofs only [push_cast, seval]
  refine WC.loopA (by kernel_rfl) [4] [6, 7, 8, 9, 10, 11, 12, 13, 14, 15, 16, 17, 18, 19, 20, 21, 22, 23, 24, 25, 26, 27, 28, 29, 30, 31, 32, 33, 34, 35, 36] (fun a : Nat × Value × Value × Store => [.int .i64 (a.1 : Nat)]) (fun a h' => a.1 ≤ 8 ∧ h'.ob h.n = .cells [.slice none 0 0, .slice none 0 0, .string ⟨#[]⟩] .solo h.n ∧ h'.ob (h.n + 1) = .cells [a.2.1, a.2.2.1, .string a.2.2.2.out] .solo (h.n + 1) ∧ storeOk a.2.2.2 = true ∧ OwnT ⟨h.n + 2, h.ob⟩ h' a.2.1 a.2.2.1 a.2.2.2 ∧ Dn p S l h h' ∧ h.n + 2 ≤ h'.n) (fun a => 8 - a.1) (0, .slice none 0 0, .slice none 0 0, store0) (by kernel_rfl) ⟨Nat.zero_le _, (by (try simp (maxSteps := 1000000) -implicitDefEqProofs only [push_cast, seval, rdOb]); try rfl), (by (try simp (maxSteps := 1000000) -implicitDefEqProofs only [push_cast, seval, rdOb]); try rfl), store0_ok, OwnT.zero _ _, ((d.refl.alloc hp _).alloc hp _).set hp (by show h.n ≤ h.n + 1; omega) _, ?_⟩ ?_
  · show h.n + 2 ≤ h.n + 2
    omega
  intro a g h1 hJ
  have hi := hJ.1
  have g0 := hJ.2.1
  have g1 := hJ.2.2.1
  have ok := hJ.2.2.2.1
  have oT := hJ.2.2.2.2.1
  have d1 := hJ.2.2.2.2.2.1
  have n1 := hJ.2.2.2.2.2.2
  clear hJ
  have y1 := oT.one.1
  have y2 := oT.one.2
  have l0 : h.n < h1.n := by omega
  have l1 : h.n + 1 < h1.n := by omega
  simp (maxSteps := 1000000) -implicitDefEqProofs only [push_cast, seval]
  with_reducible refine CC.num (l01Below_c p S l _ _ (d.dn d1)) (fun y h2 q d2 => ?_)
  have hn2 := d2.n
  have f0 : h2.ob h.n = _ := (d2.ob _ l0 (by omega)).trans g0
  have f1 : h2.ob (h.n + 1) = _ := (d2.ob _ l1 (by omega)).trans g1
  have l02 : h.n < h2.n := by omega
  have l12 : h.n + 1 < h2.n := by omega
  have oT2 := oT.dn hp2 d2
  have dw2 := (d.dn d1).dn d2
  simp (maxSteps := 1000000) -implicitDefEqProofs only [push_cast, seval]
  with_reducible refine bcase_d (fun hb => ?_) (fun hb => ?_)
  · simp (maxSteps := 1000000) -implicitDefEqProofs only [push_cast, seval]
    have hy : (y : Int) < 8 := q.1 (by omega)
    with_reducible refine CC.num (l01Below_c p S l _ _ dw2) (fun z h3 q3 d3 => ?_)
    have hn3 := d3.n
    have k0 : h3.ob h.n = _ := (d3.ob _ l02 (by omega)).trans f0
    have k1 : h3.ob (h.n + 1) = _ := (d3.ob _ l12 (by omega)).trans f1
    have l03 : h.n < h3.n := by omega
    have l13 : h.n + 1 < h3.n := by omega
    have oT3 := oT2.dn hp2 d3
    have dw3 := dw2.dn d3
    have db : Dn p S l h h3 := (d1.trans d2).trans d3
    clear oT oT2 f0 f1 g0 g1 d1 d2 d3
    simp (maxSteps := 1000000) -implicitDefEqProofs only [push_cast, seval]
    with_reducible refine bcase_d (fun hb1 => ?_) (fun hb1 => ?_)
    · simp (maxSteps := 1000000) -implicitDefEqProofs only [push_cast, seval]
      refine WC.draw' (by kernel_rfl) (by kernel_rfl) (.q 0 (.q 1 (.q 3 (.a 2 false (.a 4 false (.a 5 false (.a 6 true (.done)))))))) (by kernel_rfl) ?_
      simp (maxSteps := 1000000) -implicitDefEqProofs only [push_cast, seval, k1, rd_of k1, rd1_of k1, l13, y1, y2]
      with_reducible refine CC.txt (l08Name_c p S l _ dw3) (fun nm h4 qn d4 => ?_)
      have m1 : h4.ob (h.n + 1) = _ := (d4.ob _ l13 (by omega)).trans k1
      simp (maxSteps := 1000000) -implicitDefEqProofs only [push_cast, seval, k1, rd_of k1, rd1_of k1, m1, rd_of m1, rd1_of m1, l13, y1, y2]
      have q4 : h4.ob h.n = _ := (d4.ob _ l03 (by omega)).trans k0
      have hn4 := d4.n
      have oT4 := oT3.dn hp2 d4
      with_reducible refine CC.txt (l03Val_c p S l _ (dw3.dn d4)) (fun vl h5 qv d5 => ?_)
      have m5 : h5.ob (h.n + 1) = _ := (d5.ob _ (by omega) (by omega)).trans m1
      have q5 : h5.ob h.n = _ := (d5.ob _ (by omega) (by omega)).trans q4
      have hn5 := d5.n
      have oT5 := oT4.dn hp2 d5
      simp (maxSteps := 1000000) -implicitDefEqProofs only [push_cast, seval, k1, rd_of k1, rd1_of k1, m1, rd_of m1, rd1_of m1, m5, rd_of m5, rd1_of m5, l13, y1, y2]
      have hmx := maxLen_eq
      have ls := letters_size qn
      with_reducible refine CC.mono (SetVar_s a.2.2.2 nm vl _ _ _ oT5.rdt (ok_szB ok) (by omega) (by omega)) (fun v h6 hv => ?_)
      with_reducible refine Exists.elim hv (fun rA hv => ?_)
      with_reducible refine Exists.elim hv (fun rB hv => ?_)
      have e1 := hv.1
      have oN := hv.2.1
      have p6 := hv.2.2
      clear hv
      subst e1
      have hn6 : h5.n ≤ h6.n := p6.n
      have u1 : h6.ob (h.n + 1) = _ := (p6.ob _ (by omega)).trans m5
      have u0 : h6.ob h.n = _ := (p6.ob _ (by omega)).trans q5
      have lu : h.n + 1 < h6.n := by omega
      have y3 := oN.one.1
      have y4 := oN.one.2
      simp (maxSteps := 1000000) -implicitDefEqProofs only [push_cast, seval, k1, rd_of k1, rd1_of k1, m1, rd_of m1, rd1_of m1, m5, rd_of m5, rd1_of m5, u1, rd_of u1, rd1_of u1, l13, y1, y2, y3, y4, lu]
      rw [wrapSucc (by omega)]
      have dN : Dn p S l h (h6.set (h.n + 1) (AOb.cells [rA, rB, Value.string (setV a.2.2.2 nm vl).out] .solo (h.n + 1))) := (((db.trans d4).trans d5).pre hp p6).set hp (by omega) _
      exact ⟨(a.1 + 1, rA, rB, setV a.2.2.2 nm vl), by kernel_rfl, ⟨by show a.1 + 1 ≤ 8; omega, u0, rfl, setV_ok ok qn, (oN.mono (by show h.n + 2 ≤ _; omega)).to (Nat.le_refl _) (fun i e => set_ne _ (by have := oN.range e; omega)), dN, by show h.n + 2 ≤ h6.n; omega⟩, by show 8 - (a.1 + 1) < 8 - a.1; omega⟩
    · simp (maxSteps := 1000000) -implicitDefEqProofs only [push_cast, seval]
      with_reducible refine bcase_d (fun hb2 => ?_) (fun hb2 => ?_)
      · simp (maxSteps := 1000000) -implicitDefEqProofs only [push_cast, seval]
        refine WC.draw' (by kernel_rfl) (by kernel_rfl) (.q 0 (.q 1 (.q 4 (.q 6 (.a 2 false (.a 3 false (.a 5 false (.a 7 false (.a 8 false (.a 9 true (.done))))))))))) (by kernel_rfl) ?_
        simp (maxSteps := 1000000) -implicitDefEqProofs only [push_cast, seval, k1, rd_of k1, rd1_of k1, l13, y1, y2]
        have dA := dw3.toDn ((Pre.refl h3).alloc (AOb.cells [Value.string ⟨#[116]⟩, Value.string ⟨#[117]⟩] .solo h3.n))
        have oA := oT3.alloc (AOb.cells [Value.string ⟨#[116]⟩, Value.string ⟨#[117]⟩] .solo h3.n)
        with_reducible refine CC.txt (l01Pick_c p S l h3.n 2 (fun y => letters y = true) _ _ (dw3.dn dA) (alloc_same _) (by simp only [strs]; decide) rfl (by omega) (lt_alloc _)) (fun nm h4 qn d4 => ?_)
        have hn4 : h3.n + 1 ≤ h4.n := d4.n
        have m4 : h4.ob (h.n + 1) = _ := (d4.ob _ (by show h.n + 1 < h3.n + 1; omega) (by omega)).trans ((alloc_lt _ l13).trans k1)
        have q4 : h4.ob h.n = _ := (d4.ob _ (by show h.n < h3.n + 1; omega) (by omega)).trans ((alloc_lt _ l03).trans k0)
        have oT4 := oA.dn hp2 d4
        have dw4 := (dw3.dn dA).dn d4
        simp (maxSteps := 1000000) -implicitDefEqProofs only [push_cast, seval, k1, rd_of k1, rd1_of k1, m4, rd_of m4, rd1_of m4, l13, y1, y2]
        with_reducible refine CC.txt (l03Val_c p S l _ dw4) (fun ky h5 qk d5 => ?_)
        have hn5 := d5.n
        have m5 : h5.ob (h.n + 1) = _ := (d5.ob _ (by omega) (by omega)).trans m4
        have q5 : h5.ob h.n = _ := (d5.ob _ (by omega) (by omega)).trans q4
        have oT5 := oT4.dn hp2 d5
        simp (maxSteps := 1000000) -implicitDefEqProofs only [push_cast, seval, k1, rd_of k1, rd1_of k1, m4, rd_of m4, rd1_of m4, m5, rd_of m5, rd1_of m5, l13, y1, y2]
        with_reducible refine CC.txt (l03Val_c p S l _ (dw4.dn d5)) (fun vl h6 qv d6 => ?_)
        have hn6 := d6.n
        have m6 : h6.ob (h.n + 1) = _ := (d6.ob _ (by omega) (by omega)).trans m5
        have q6 : h6.ob h.n = _ := (d6.ob _ (by omega) (by omega)).trans q5
        have oT6 := oT5.dn hp2 d6
        simp (maxSteps := 1000000) -implicitDefEqProofs only [push_cast, seval, k1, rd_of k1, rd1_of k1, m4, rd_of m4, rd1_of m4, m5, rd_of m5, rd1_of m5, m6, rd_of m6, rd1_of m6, l13, y1, y2]
        have hmx := maxLen_eq
        have ls := letters_size qn
        with_reducible refine CC.mono (SetCell_s a.2.2.2 nm ky vl _ _ _ oT6.rdt (ok_szB ok) (by omega) (by omega) (by omega)) (fun v h7 hv => ?_)
        with_reducible refine Exists.elim hv (fun rA hv => ?_)
        with_reducible refine Exists.elim hv (fun rB hv => ?_)
        have e1 := hv.1
        have oN := hv.2.1
        have p7 := hv.2.2
        clear hv
        subst e1
        have hn7 : h6.n ≤ h7.n := p7.n
        have u1 : h7.ob (h.n + 1) = _ := (p7.ob _ (by omega)).trans m6
        have u0 : h7.ob h.n = _ := (p7.ob _ (by omega)).trans q6
        have lu : h.n + 1 < h7.n := by omega
        have y3 := oN.one.1
        have y4 := oN.one.2
        simp (maxSteps := 1000000) -implicitDefEqProofs only [push_cast, seval, k1, rd_of k1, rd1_of k1, m4, rd_of m4, rd1_of m4, m5, rd_of m5, rd1_of m5, m6, rd_of m6, rd1_of m6, u1, rd_of u1, rd1_of u1, l13, y1, y2, y3, y4, lu]
        rw [wrapSucc (by omega)]
        have dN : Dn p S l h (h7.set (h.n + 1) (AOb.cells [rA, rB, Value.string (setC a.2.2.2 nm ky vl).out] .solo (h.n + 1))) := (((((db.trans dA).trans d4).trans d5).trans d6).pre hp p7).set hp (by omega) _
        exact ⟨(a.1 + 1, rA, rB, setC a.2.2.2 nm ky vl), by kernel_rfl, ⟨by show a.1 + 1 ≤ 8; omega, u0, rfl, setC_ok ok qn, (oN.mono (by show h.n + 2 ≤ _; omega)).to (Nat.le_refl _) (fun i e => set_ne _ (by have := oN.range e; omega)), dN, by show h.n + 2 ≤ h7.n; omega⟩, by show 8 - (a.1 + 1) < 8 - a.1; omega⟩
      · simp (maxSteps := 1000000) -implicitDefEqProofs only [push_cast, seval]
        refine WC.draw' (by kernel_rfl) (by kernel_rfl) (.q 0 (.q 1 (.a 2 false (.a 3 false (.a 4 true (.done)))))) (by kernel_rfl) ?_
        simp (maxSteps := 1000000) -implicitDefEqProofs only [push_cast, seval, k1, rd_of k1, rd1_of k1, l13, y1, y2]
        with_reducible refine CC.txt (l03Val_c p S l _ dw3) (fun vl h4 qv d4 => ?_)
        have hn4 := d4.n
        have m4 : h4.ob (h.n + 1) = _ := (d4.ob _ (by omega) (by omega)).trans k1
        have q4 : h4.ob h.n = _ := (d4.ob _ (by omega) (by omega)).trans k0
        have oT4 := oT3.dn hp2 d4
        simp (maxSteps := 1000000) -implicitDefEqProofs only [push_cast, seval, k1, rd_of k1, rd1_of k1, m4, rd_of m4, rd1_of m4, l13, y1, y2]
        with_reducible refine CC.mono (Say_s a.2.2.2 vl _ _ _ oT4.rdt (ok_szB ok) (by omega)) (fun v h5 hv => ?_)
        with_reducible refine Exists.elim hv (fun rA hv => ?_)
        with_reducible refine Exists.elim hv (fun rB hv => ?_)
        have e1 := hv.1
        have oN := hv.2.1
        have p5 := hv.2.2
        clear hv
        subst e1
        have hn5 : h4.n ≤ h5.n := p5.n
        have u1 : h5.ob (h.n + 1) = _ := (p5.ob _ (by omega)).trans m4
        have u0 : h5.ob h.n = _ := (p5.ob _ (by omega)).trans q4
        have lu : h.n + 1 < h5.n := by omega
        have y3 := oN.one.1
        have y4 := oN.one.2
        simp (maxSteps := 1000000) -implicitDefEqProofs only [push_cast, seval, k1, rd_of k1, rd1_of k1, m4, rd_of m4, rd1_of m4, u1, rd_of u1, rd1_of u1, l13, y1, y2, y3, y4, lu]
        rw [wrapSucc (by omega)]
        have dN : Dn p S l h (h5.set (h.n + 1) (AOb.cells [rA, rB, Value.string (sayS a.2.2.2 vl).out] .solo (h.n + 1))) := ((db.trans d4).pre hp p5).set hp (by omega) _
        exact ⟨(a.1 + 1, rA, rB, sayS a.2.2.2 vl), by kernel_rfl, ⟨by show a.1 + 1 ≤ 8; omega, u0, rfl, say_ok ok vl, (oN.mono (by show h.n + 2 ≤ _; omega)).to (Nat.le_refl _) (fun i e => set_ne _ (by have := oN.range e; omega)), dN, by show h.n + 2 ≤ h5.n; omega⟩, by show 8 - (a.1 + 1) < 8 - a.1; omega⟩
  · simp (maxSteps := 1000000) -implicitDefEqProofs only [push_cast, seval, f1, rd_of f1, rd1_of f1, l12, y1, y2, f0, rd_of f0, rd1_of f0, l02]
    refine ⟨a.2.1, a.2.2.1, a.2.2.2, rfl, ok, (oT2.mono (by show h.n ≤ h.n + 2; omega)).to (Nat.le_refl _) (fun i e => ?_), ((d1.trans d2)).set hp (Nat.le_refl _) _⟩
    have e2 : h.n + 2 ≤ i ∧ _ := oT2.range e
    exact set_ne _ (by omega)
end Go.Proofs.Ytfbcedjheempfaa
