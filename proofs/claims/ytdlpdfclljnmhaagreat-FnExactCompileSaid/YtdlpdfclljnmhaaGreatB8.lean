/- Parts of the proof of the row: the ground, contracts of the functions that it reaches (K11, K9, K10, D6). Conditions: those that each theorem names. -/
import Derived.Test.YtdlpdfclljnmhaaGreatB7

namespace Go.Proofs.YtdlpdfclljnmhaaGreat
open Go Go.Sim Go.Proofs
set_option linter.unusedSimpArgs false
set_option linter.unusedVariables false
set_option maxRecDepth 100000
set_option maxHeartbeats 1000000
theorem markText_c (k : Nat) (h0 : 0 < k) (hk : k < 4000000000000) (h : AH) : CD Tryz.prog 47 [.int .i64 (k : Nat)] h (.string (mt k)) h := by
  refine CD.quiet ?_ (low_string _ _)
  refine CC.ofN Tryz.func47 Tryz.ntmps47 Tryz.results47 rfl (by decide) (by kernel_rfl) ?_
  simp (maxSteps := 1000000) -implicitDefEqProofs only [push_cast, seval]
  with_reducible refine bcase_d (fun hb => ?_) (fun hb => ?_)
  · exfalso; omega
  simp (maxSteps := 1000000) -implicitDefEqProofs only [push_cast, seval]
  refine WC.loopA (by kernel_rfl) [0, 3] [6, 7, 8, 9, 10, 11, 12, 13, 14, 15, 16, 17] (fun a : Nat × ByteArray => [.int .i64 (a.1 : Nat), .string a.2]) (fun a h' => (dg a.1 a.1 a.2 = dg k k ⟨#[]⟩ ∧ a.2.size + a.1 ≤ k) ∧ Pre h h') (fun a => a.1) (k, ⟨#[]⟩) (by kernel_rfl) ⟨⟨rfl, by show 0 + k ≤ k; omega⟩, Pre.refl _⟩ ?_
  intro a g h1 hJ
  have hd := hJ.1.1
  have hl := hJ.1.2
  have hp := hJ.2
  clear hJ
  simp (maxSteps := 1000000) -implicitDefEqProofs only [push_cast, seval]
  with_reducible refine bcase_d (fun hb => ?_) (fun hb => ?_)
  · have e1 : (IntKind.u8.wrap (IntKind.i64.wrap (48 + (a.1 : Int).tmod 10))).toNat = 48 + a.1 % 10 := by
      rw [Int.tmod_eq_emod_of_nonneg (by omega), w64 (by omega) (by omega), w8 (by omega) (by omega)]; omega
    have e2 : IntKind.i64.wrap ((a.1 : Int).tdiv 10) = ((a.1 / 10 : Nat) : Int) := by
      rw [Int.tdiv_eq_ediv_of_nonneg (by omega), w64 (by omega) (by omega)]; omega
    simp (maxSteps := 1000000) -implicitDefEqProofs only [push_cast, seval, e1, e2]
    have z1 : (ByteArray.mk #[UInt8.ofNat (48 + a.1 % 10)]).size = 1 := rfl
    refine And.intro (by rw [z1]; omega) ⟨(a.1 / 10, ⟨#[UInt8.ofNat (48 + a.1 % 10)]⟩ ++ a.2), by kernel_rfl, ⟨⟨?_, ?_⟩, hp.alloc _⟩, ?_⟩
    · rw [← hd, dg_step (k := a.1) (by omega)]
    · show (ByteArray.mk #[UInt8.ofNat (48 + a.1 % 10)] ++ a.2).size + a.1 / 10 ≤ k
      rw [ByteArray.size_append, z1]; omega
    · show a.1 / 10 < a.1
      omega
  · have e : a.1 = 0 := by omega
    have z1 : (ByteArray.mk #[109]).size = 1 := rfl
    rw [e, dg_zero] at hd
    rw [hd] at hl
    simp (maxSteps := 1000000) -implicitDefEqProofs only [push_cast, seval]
    refine And.intro (by rw [z1, hd]; omega) ?_
    repeat' (first | with_reducible (first | exact Keep.refl _ _ | assumption | exact byte_lt _ _ | apply Keep.alloc | (refine Keep.set ?_ ?_; rotate_left; · omega) | apply Pre.alloc | apply Pre.set | exact Pre.refl _ | exact le_alloc _ | (refine Pre.keep ?_; assumption) | (refine Pre.n ?_; assumption)) | ((with_reducible (first | refine bcase_d (fun hb => ?_) (fun hb => ?_) | refine bcase_mk (fun hb => ?_) (fun hb => ?_))) <;> try simp (maxSteps := 1000000) -implicitDefEqProofs only [push_cast, seval]) | with_reducible refine And.intro ?_ ?_ | omega | (simp only [alloc_n, set_n, kill_n]; omega) | (exfalso; omega))
    rw [hd]; rfl
/-- A slice whose cells are marked. -/
def fS (k : Nat) : Value := .string (mt k)
def fI (k : Nat) : Value := .int .i64 (k : Nat)
theorem markIntS_s (id n : Nat) (cs : List Value) (k : Nat) (h : AH) (e : h.ob id = .cells cs .solo id) (hid : id < h.n) (hl : cs.length = n * 1) (h0 : 0 < k) (hk : k + n * 1 < 4000000000000) (hn : n < 274877906944) :
    CC Tryz.prog 73 [.slice (some ⟨id, 0, none⟩) n 1, .int .i64 (k : Nat)] h (fun v h' => v = .int .i64 ((k + n * 1 : Nat) : Int) ∧ (∃ cs', h'.ob id = .cells cs' .solo id ∧ cs'.length = n * 1) ∧ h'.n = h.n ∧ ∀ j, j ≠ id → h'.ob j = h.ob j) := by
  refine CC.ofN Tryz.func73 Tryz.ntmps73 Tryz.results73 rfl (by decide) (by kernel_rfl) ?_
  simp (maxSteps := 1000000) -implicitDefEqProofs only [push_cast, seval]
  refine WC.loopA (by kernel_rfl) [1, 5] [6, 7, 8, 9, 10, 11, 12, 13, 14, 15, 16, 17] (fun a : Nat × Nat × List Value => [.int .i64 (a.2.1 : Nat), .int .i64 (a.1 : Nat)]) (fun a h' => (a.1 ≤ n ∧ a.2.1 = k + a.1 * 1 ∧ a.2.2.length = n * 1) ∧ h'.ob id = .cells a.2.2 .solo id ∧ h'.n = h.n ∧ ∀ j, j ≠ id → h'.ob j = h.ob j) (fun a => n - a.1) (0, k, cs) (by kernel_rfl) ⟨⟨Nat.zero_le _, rfl, hl⟩, e, rfl, fun _ _ => rfl⟩ ?_
  intro a g h1 hJ
  have hi := hJ.1.1
  have hK := hJ.1.2.1
  have hc := hJ.1.2.2
  have o1 := hJ.2.1
  have n1 := hJ.2.2.1
  have f1 := hJ.2.2.2
  clear hJ
  have l1 : id < h1.n := by omega
  simp (maxSteps := 1000000) -implicitDefEqProofs only [push_cast, seval]
  with_reducible refine bcase_d (fun hb => ?_) (fun hb => ?_)
  · have hi' : a.1 < n := by omega
    simp (maxSteps := 1000000) -implicitDefEqProofs only [push_cast, seval, o1, rd_of o1, rd1_of o1, l1]
    refine And.intro (by omega) (And.intro (by omega) (And.intro (by omega) ?_))
    rw [wrapSucc (by omega), wrapSucc (by omega)]
    exact ⟨(a.1 + 1, a.2.1 + 1, a.2.2.set (a.1 * 1) (.int .i64 (a.2.1 : Nat))), by kernel_rfl, ⟨⟨by show a.1 + 1 ≤ n; omega, by show a.2.1 + 1 = k + (a.1 + 1) * 1; omega, by show (List.set _ _ _).length = _; rw [List.length_set]; exact hc⟩, rfl, n1, fun j hj => (set_ne _ hj).trans (f1 j hj)⟩, by show n - (a.1 + 1) < n - a.1; omega⟩
  · have e1 : a.1 = n := by omega
    simp (maxSteps := 1000000) -implicitDefEqProofs only [push_cast, seval]
    exact ⟨by rw [hK, e1]; push_cast; rfl, ⟨_, o1, hc⟩, n1, f1⟩
theorem markRuleS_s (id n : Nat) (cs : List Value) (k : Nat) (h : AH) (e : h.ob id = .cells cs .solo id) (hid : id < h.n) (hl : cs.length = n * 3) (h0 : 0 < k) (hk : k + n * 3 < 4000000000000) (hn : n < 274877906944) :
    CC Tryz.prog 46 [.slice (some ⟨id, 0, none⟩) n 3, .int .i64 (k : Nat)] h (fun v h' => v = .int .i64 ((k + n * 3 : Nat) : Int) ∧ (∃ cs', h'.ob id = .cells cs' .solo id ∧ cs'.length = n * 3) ∧ h'.n = h.n ∧ ∀ j, j ≠ id → h'.ob j = h.ob j) := by
  refine CC.ofN Tryz.func46 Tryz.ntmps46 Tryz.results46 rfl (by decide) (by kernel_rfl) ?_
  simp (maxSteps := 1000000) -implicitDefEqProofs only [push_cast, seval]
  refine WC.loopA (by kernel_rfl) [1, 5] [6, 7, 8, 9, 10, 11, 12, 13, 14, 15, 16, 17, 18, 19, 20, 21, 22, 23, 24, 25, 26, 27, 28, 29, 30, 31, 32] (fun a : Nat × Nat × List Value => [.int .i64 (a.2.1 : Nat), .int .i64 (a.1 : Nat)]) (fun a h' => (a.1 ≤ n ∧ a.2.1 = k + a.1 * 3 ∧ a.2.2.length = n * 3) ∧ h'.ob id = .cells a.2.2 .solo id ∧ h'.n = h.n ∧ ∀ j, j ≠ id → h'.ob j = h.ob j) (fun a => n - a.1) (0, k, cs) (by kernel_rfl) ⟨⟨Nat.zero_le _, rfl, hl⟩, e, rfl, fun _ _ => rfl⟩ ?_
  intro a g h1 hJ
  have hi := hJ.1.1
  have hK := hJ.1.2.1
  have hc := hJ.1.2.2
  have o1 := hJ.2.1
  have n1 := hJ.2.2.1
  have f1 := hJ.2.2.2
  clear hJ
  have l1 : id < h1.n := by omega
  simp (maxSteps := 1000000) -implicitDefEqProofs only [push_cast, seval]
  with_reducible refine bcase_d (fun hb => ?_) (fun hb => ?_)
  · have hi' : a.1 < n := by omega
    with_reducible refine nameN (a.2.1 + 1) (fun K1 hK1 => ?_)
    have w1 : IntKind.i64.wrap ((a.2.1 : Int) + 1) = (K1 : Nat) := by rw [wrapSucc (by omega), hK1]
    with_reducible refine nameN (K1 + 1) (fun K2 hK2 => ?_)
    have w2 : IntKind.i64.wrap ((K1 : Int) + 1) = (K2 : Nat) := by rw [wrapSucc (by omega), hK2]
    with_reducible refine nameN (K2 + 1) (fun K3 hK3 => ?_)
    have w3 : IntKind.i64.wrap ((K2 : Int) + 1) = (K3 : Nat) := by rw [wrapSucc (by omega), hK3]
    simp (maxSteps := 1000000) -implicitDefEqProofs only [push_cast, seval, o1, rd_of o1, rd1_of o1, l1, w1]
    refine And.intro (by omega) (And.intro (by omega) (And.intro (by omega) ?_))
    simp (maxSteps := 1000000) -implicitDefEqProofs only [push_cast, seval, w2]
    refine And.intro (by omega) (And.intro (by omega) (And.intro (by omega) (And.intro (by omega) (And.intro (by omega) (And.intro (by omega) ?_)))))
    simp (maxSteps := 1000000) -implicitDefEqProofs only [push_cast, seval, w3]
    rw [wrapSucc (by omega)]
    exact ⟨(a.1 + 1, K3, ((a.2.2.set (a.1 * 3) (.int .i64 (a.2.1 : Nat))).set (a.1 * 3 + 1) (.int .i64 (K1 : Nat))).set (a.1 * 3 + 2) (.int .i64 (K2 : Nat))), by kernel_rfl, ⟨⟨by show a.1 + 1 ≤ n; omega, by show K3 = k + (a.1 + 1) * 3; omega, by show (List.set _ _ _).length = _; rw [List.length_set, List.length_set, List.length_set]; exact hc⟩, rfl, n1, fun j hj => (set_ne _ hj).trans (f1 j hj)⟩, by show n - (a.1 + 1) < n - a.1; omega⟩
  · have e1 : a.1 = n := by omega
    simp (maxSteps := 1000000) -implicitDefEqProofs only [push_cast, seval]
    exact ⟨by rw [hK, e1]; push_cast; rfl, ⟨_, o1, hc⟩, n1, f1⟩
/-- Nodes of the call's own, marked or not: their kids' slices stand in them, each in a slice of its own. -/
def KN (h : AH) (id : Nat) (cs : List Value) (D : List (Nd × Value)) : Prop := h.ob id = .cells cs .solo id ∧ cs.length = D.length * 3 ∧ (∀ j (hj : j < D.length), cs[j * 3 + 2]? = some D[j].2) ∧ ∀ x ∈ D, ∃ i ks, x.2 = .slice (some ⟨i, 0, none⟩) x.1.kids.length 1 ∧ h.ob i = .cells ks .solo i ∧ ks.length = x.1.kids.length * 1 ∧ i ≠ id ∧ i < h.n
theorem SoN.kn {n0 : Nat} {h : AH} {w : Value} {D : List (Nd × Value)} {id : Nat} {cs : List Value} (s : SoN n0 h w D id cs) : KN h id cs D := by
  refine ⟨s.ob, s.fill.1, fun j hj => ?_, fun x hx => ?_⟩
  · have := congrArg (·[2]?) (s.fill.2 j hj hj)
    simp only [List.getElem?_take, List.getElem?_drop, encD] at this
    simpa using this
  · obtain ⟨i, ks, e1, e2, e3, e4, e5⟩ := s.kids x hx
    exact ⟨i, ks, e1, e2, e3, by omega, e5⟩
/-- An object of the nodes. -/
def KB (id : Nat) (D : List (Nd × Value)) (j : Nat) : Prop := j = id ∨ ∃ x ∈ D, atBlock x.2 j
theorem markNodeS_s (id : Nat) (cs : List Value) (D : List (Nd × Value)) (k : Nat) (h : AH) (w : KN h id cs D) (hid : id < h.n) (h0 : 0 < k) (hk : k ≤ 1000) (hn : D.length ≤ 1048576) (hz : ∀ x ∈ D, x.1.kids.length ≤ 1048576) :
    CC Tryz.prog 45 [.slice (some ⟨id, 0, none⟩) D.length 3, .int .i64 (k : Nat)] h (fun v h' => (∃ k' : Nat, v = .int .i64 (k' : Nat) ∧ 0 < k' ∧ k' ≤ k + D.length * 1048578) ∧ h'.n = h.n ∧ ∀ j, ¬ KB id D j → h'.ob j = h.ob j) := by
  refine CC.ofN Tryz.func45 Tryz.ntmps45 Tryz.results45 rfl (by decide) (by kernel_rfl) ?_
  simp (maxSteps := 1000000) -implicitDefEqProofs only [push_cast, seval]
  refine WC.loopA (by kernel_rfl) [1, 5] [6, 7, 8, 9, 10, 11, 12, 13, 14, 15, 16, 17, 18, 19, 20, 21, 22, 23, 24, 25, 26, 27, 28, 29, 30, 31, 32, 33] (fun a : Nat × Nat × List Value => [.int .i64 (a.2.1 : Nat), .int .i64 (a.1 : Nat)]) (fun a h' => (a.1 ≤ D.length ∧ 0 < a.2.1 ∧ a.2.1 ≤ k + a.1 * 1048578) ∧ KN h' id a.2.2 D ∧ h'.n = h.n ∧ ∀ j, ¬ KB id D j → h'.ob j = h.ob j) (fun a => D.length - a.1) (0, k, cs) (by kernel_rfl) ⟨⟨Nat.zero_le _, h0, by show k ≤ k + 0 * 1048578; omega⟩, w, rfl, fun _ _ => rfl⟩ ?_
  intro a g h1 hJ
  have hi := hJ.1.1
  have hK0 := hJ.1.2.1
  have hK := hJ.1.2.2
  have kn := hJ.2.1
  have n1 := hJ.2.2.1
  have f1 := hJ.2.2.2
  clear hJ
  have o1 := kn.1
  have hc := kn.2.1
  have l1 : id < h1.n := by omega
  simp (maxSteps := 1000000) -implicitDefEqProofs only [push_cast, seval]
  with_reducible refine bcase_d (fun hb => ?_) (fun hb => ?_)
  · have hi' : a.1 < D.length := by omega
    have kd := kn.2.2.1 a.1 hi'
    have hzx := hz _ (List.getElem_mem hi')
    have hxm := List.getElem_mem hi'
    have kk := kn.2.2.2 _ hxm
    generalize D[a.1] = X at *
    with_reducible refine nameN (a.2.1 + 1) (fun K1 hK1 => ?_)
    have w1 : IntKind.i64.wrap ((a.2.1 : Int) + 1) = (K1 : Nat) := by rw [wrapSucc (by omega), hK1]
    with_reducible refine nameN (K1 + 1) (fun K2 hK2 => ?_)
    have w2 : IntKind.i64.wrap ((K1 : Int) + 1) = (K2 : Nat) := by rw [wrapSucc (by omega), hK2]
    simp (maxSteps := 1000000) -implicitDefEqProofs only [push_cast, seval, o1, rd_of o1, rd1_of o1, l1, w1]
    refine And.intro (by omega) (And.intro (by omega) (And.intro (by omega) ?_))
    with_reducible refine CD.to (markText_c K1 (by omega) (by omega) _) ?_
    have rk : ((a.2.2.set (a.1 * 3) (.int .i64 (a.2.1 : Nat))).set (a.1 * 3 + 1) (.string (mt K1)))[a.1 * 3 + 2]? = some X.2 := by
      rw [List.getElem?_set_ne (by omega), List.getElem?_set_ne (by omega)]; exact kd
    with_reducible refine Exists.elim kk (fun i kk => ?_)
    with_reducible refine Exists.elim kk (fun ks kk => ?_)
    have ke := kk.1
    have ko := kk.2.1
    have kl := kk.2.2.1
    have kne := kk.2.2.2.1
    have klt := kk.2.2.2.2
    clear kk
    rw [ke] at rk
    simp (maxSteps := 1000000) -implicitDefEqProofs only [push_cast, seval, o1, rd_of o1, rd1_of o1, l1, w1, w2, rk]
    refine And.intro (by omega) (And.intro (by omega) (And.intro (by omega) (And.intro (by omega) (And.intro (by omega) ?_))))
    simp (maxSteps := 1000000) -implicitDefEqProofs only [push_cast, seval, o1, rd_of o1, rd1_of o1, l1, w1, w2, rk]
    have oH : (h1.set id (.cells ((a.2.2.set (a.1 * 3) (.int .i64 (a.2.1 : Nat))).set (a.1 * 3 + 1) (.string (mt K1))) .solo id)).ob id = _ := set_same _ _
    have fH : ∀ j, j ≠ id → (h1.set id (.cells ((a.2.2.set (a.1 * 3) (.int .i64 (a.2.1 : Nat))).set (a.1 * 3 + 1) (.string (mt K1))) .solo id)).ob j = h1.ob j := fun j hj => set_ne _ hj
    have nH : (h1.set id (.cells ((a.2.2.set (a.1 * 3) (.int .i64 (a.2.1 : Nat))).set (a.1 * 3 + 1) (.string (mt K1))) .solo id)).n = h1.n := rfl
    generalize (h1.set id (.cells ((a.2.2.set (a.1 * 3) (.int .i64 (a.2.1 : Nat))).set (a.1 * 3 + 1) (.string (mt K1))) .solo id)) = H at *
    with_reducible refine CC.mono (markIntS_s i X.1.kids.length ks K2 H ((fH i kne).trans ko) (by omega) kl (by omega) (by omega) (by omega)) (fun v h2 hv => ?_)
    have e1 := hv.1
    have e2 := hv.2.1
    have n2 := hv.2.2.1
    have f2 := hv.2.2.2
    clear hv
    with_reducible refine nameN (K2 + X.1.kids.length * 1) (fun K3 hK3 => ?_)
    rw [← hK3] at e1
    subst e1
    simp (maxSteps := 1000000) -implicitDefEqProofs only [push_cast, seval]
    rw [wrapSucc (by omega)]
    refine ⟨(a.1 + 1, K3, (a.2.2.set (a.1 * 3) (.int .i64 (a.2.1 : Nat))).set (a.1 * 3 + 1) (.string (mt K1))), by kernel_rfl, ⟨⟨by show a.1 + 1 ≤ D.length; omega, by show 0 < K3; omega, by show K3 ≤ k + (a.1 + 1) * 1048578; omega⟩, ⟨(f2 id (Ne.symm kne)).trans oH, by show (List.set _ _ _).length = _; rw [List.length_set, List.length_set]; exact hc, fun j hj => ?_, fun y hy => ?_⟩, by omega, fun j hj => ?_⟩, by show D.length - (a.1 + 1) < D.length - a.1; omega⟩
    · show (List.set _ _ _)[j * 3 + 2]? = _
      rw [List.getElem?_set_ne (by omega), List.getElem?_set_ne (by omega)]; exact kn.2.2.1 j hj
    · obtain ⟨iy, ky, q1, q2, q3, q4, q5⟩ := kn.2.2.2 y hy
      by_cases ei : iy = i
      · subst ei
        obtain ⟨cs2, c1, c2⟩ := e2
        rw [ko] at q2
        injection q2 with q2
        subst q2
        exact ⟨iy, cs2, q1, c1, by omega, q4, by omega⟩
      · exact ⟨iy, ky, q1, (f2 iy ei).trans ((fH iy q4).trans q2), q3, q4, by omega⟩
    · have j1 : j ≠ id := fun e => hj (.inl e)
      have j2 : j ≠ i := fun e => hj (.inr ⟨X, hxm, by rw [ke]; exact e.symm⟩)
      exact (f2 j j2).trans ((fH j j1).trans (f1 j hj))
  · have e1 : a.1 = D.length := by omega
    simp (maxSteps := 1000000) -implicitDefEqProofs only [push_cast, seval]
    exact ⟨⟨a.2.1, rfl, hK0, by rw [e1] at hK; exact hK⟩, n1, f1⟩
theorem markProgram_s (wN wR : Value) (D : List (Nd × Value)) (R : List Ru) (n0 : Nat) (h : AH) (s : SoG n0 h wN wR D R) (hn : D.length ≤ 1048576) (hr : R.length ≤ 1048576) (hz : ∀ x ∈ D, x.1.kids.length ≤ 1048576) :
    CC Tryz.prog 17 [.agg #[wN, wR], .int .i64 1] h (fun v h' => (∃ k' : Nat, v = .int .i64 (k' : Nat)) ∧ h.n ≤ h'.n ∧ ∀ j, j < h.n → ¬ (atBlock wN j ∨ atBlock wR j ∨ ∃ x ∈ D, atBlock x.2 j) → h'.ob j = h.ob j) := by
  obtain ⟨id, cs, sn⟩ := s.nodes
  obtain ⟨ir, cr, rfl, ro, rl, r0, rlt⟩ := s.rules
  have ap := s.apart ir rfl
  obtain rfl := sn.e
  have kn := sn.kn
  have hid := sn.hi
  have hne : ir ≠ id := fun e => ap.1 (by rw [e]; exact rfl)
  have hnk : ∀ x ∈ D, ¬ atBlock x.2 ir := ap.2
  have kn' : KN (h.alloc (.cells [.slice (some ⟨id, 0, none⟩) D.length 3, .slice (some ⟨ir, 0, none⟩) R.length 3] .solo h.n)) id cs D := ⟨(alloc_lt _ hid).trans kn.1, kn.2.1, kn.2.2.1, fun x hx => by
    obtain ⟨i, ks, e1, e2, e3, e4, e5⟩ := kn.2.2.2 x hx
    exact ⟨i, ks, e1, (alloc_lt _ e5).trans e2, e3, e4, Nat.lt_succ_of_lt e5⟩⟩
  have kb : ∀ j, KB id D j → j < h.n := fun j hj => by
    rcases hj with rfl | ⟨x, hx, e⟩
    · exact hid
    · exact ((sn.kids x hx).range e).2
  refine CC.ofN Tryz.func17 Tryz.ntmps17 Tryz.results17 rfl (by decide) (by kernel_rfl) ?_
  simp (maxSteps := 1000000) -implicitDefEqProofs only [push_cast, seval]
  have hM := markNodeS_s id cs D 1 _ kn' (Nat.lt_succ_of_lt hid) (by omega) (by omega) hn hz
  with_reducible refine CC.mono hM (fun v h1 hv => ?_)
  with_reducible refine Exists.elim hv.1 (fun k1 hk => ?_)
  have e1 := hk.1
  have k0 := hk.2.1
  have kb1 := hk.2.2
  have n1 := hv.2.1
  have f1 := hv.2.2
  clear hv hk hM
  subst e1
  have n1' : h1.n = h.n + 1 := n1
  have hp : ¬ KB id D h.n := fun e => by have := kb _ e; omega
  have o1 := (f1 h.n hp).trans (alloc_same _)
  have l1 : h.n < h1.n := by omega
  have hir : ¬ KB id D ir := fun e => by
    rcases e with e | ⟨x, hx, e⟩
    · exact hne e
    · exact hnk x hx e
  have or1 : h1.ob ir = .cells cr .solo ir := (f1 ir hir).trans ((alloc_lt _ rlt).trans ro)
  simp (maxSteps := 1000000) -implicitDefEqProofs only [push_cast, seval, o1, rd_of o1, rd1_of o1, l1]
  with_reducible refine CC.mono (markRuleS_s ir R.length cr k1 h1 or1 (by omega) rl k0 (by omega) (by omega)) (fun v h2 hv => ?_)
  have e1 := hv.1
  have n2 := hv.2.2.1
  have f2 := hv.2.2.2
  clear hv
  with_reducible refine nameN (k1 + R.length * 3) (fun K3 hK3 => ?_)
  rw [← hK3] at e1
  subst e1
  simp (maxSteps := 1000000) -implicitDefEqProofs only [push_cast, seval]
  refine ⟨⟨K3, rfl⟩, by omega, fun j hj hb => ?_⟩
  rw [f2 j (fun e => hb (.inr (.inl e.symm))), f1 j (fun e => hb (by
    rcases e with e | e
    · exact .inl e.symm
    · exact .inr (.inr e))), alloc_lt _ hj]
end Go.Proofs.YtdlpdfclljnmhaaGreat
namespace Go.Proofs.YtdlpdfclljnmhaaGreat
open Go Go.Sim Go.Proofs
set_option linter.unusedSimpArgs false
set_option linter.unusedVariables false
set_option maxRecDepth 100000
set_option maxHeartbeats 1000000
theorem markStringS_o (id off n : Nat) (cs : List Value) (k : Nat) (h : AH) (o : Own h id off n 1 cs) (h0 : 0 < k) (hk : k + n * 1 < 4000000000000) (hn : n < 274877906944) :
    CC Tryz.prog 18 [.slice (some ⟨id, off, none⟩) n 1, .int .i64 (k : Nat)] h (fun v h' => v = .int .i64 ((k + n * 1 : Nat) : Int) ∧ Own h' id off n 1 (marks fS k (n * 1)) ∧ Wr h h' id) := by
  refine CC.ofN Tryz.func18 Tryz.ntmps18 Tryz.results18 rfl (by decide) (by kernel_rfl) ?_
  simp (maxSteps := 1000000) -implicitDefEqProofs only [push_cast, seval]
  refine WC.loopA (by kernel_rfl) [1, 5] [6, 7, 8, 9, 10, 11, 12, 13, 14, 15, 16, 17, 18] (fun a : Nat × Nat × List Value => [.int .i64 (a.2.1 : Nat), .int .i64 (a.1 : Nat)]) (fun a h' => (a.1 ≤ n ∧ a.2.1 = k + a.1 * 1 ∧ Mkd fS k a.2.2 (a.1 * 1)) ∧ Own h' id off n 1 a.2.2 ∧ Wr h h' id) (fun a => n - a.1) (0, k, cs) (by kernel_rfl) ⟨⟨Nat.zero_le _, rfl, Mkd.zero _ _ _⟩, o, Wr.refl _ _⟩ ?_
  intro a g h1 hJ
  have hi := hJ.1.1
  have hK := hJ.1.2.1
  have hm := hJ.1.2.2
  have o0 := hJ.2.1
  have r0 := hJ.2.2
  clear hJ
  have l0 := o0.lt
  have n0 := o0.len
  simp (maxSteps := 1000000) -implicitDefEqProofs only [push_cast, seval]
  with_reducible refine bcase_d (fun hb => ?_) (fun hb => ?_)
  · have hi' : a.1 < n := by omega
    with_reducible refine nameN (a.2.1 + 1) (fun K1 hK1 => ?_)
    have w1 : IntKind.i64.wrap ((a.2.1 : Int) + 1) = (K1 : Nat) := by rw [wrapSucc (by omega), hK1]
    simp (maxSteps := 1000000) -implicitDefEqProofs only [push_cast, seval]
    with_reducible refine CD.to (markText_c a.2.1 (by omega) (by omega) _) ?_
    simp (maxSteps := 1000000) -implicitDefEqProofs only [push_cast, seval, l0, w1]
    refine And.intro (by omega) (And.intro (by omega) ?_)
    refine (show Own _ id off n 1 _ from o0).wr (lo := a.1 * 1) (vs := [.string (mt a.2.1)]) (by simp only [List.length_cons, List.length_nil]; omega) (fun h2 o1 q1 => ?_)
    have l1 := o1.lt
    simp (maxSteps := 1000000) -implicitDefEqProofs only [push_cast, seval, l1, w1]
    rw [wrapSucc (by omega)]
    refine ⟨(a.1 + 1, K1, putL (a.2.2) (a.1 * 1) [.string (mt a.2.1)]), by kernel_rfl, ⟨⟨by show a.1 + 1 ≤ n; omega, by show K1 = k + (a.1 + 1) * 1; omega, ?_⟩, o1, r0.trans (q1)⟩, by show n - (a.1 + 1) < n - a.1; omega⟩
    rw [show (a.1 + 1) * 1 = a.1 * 1 + 1 from by omega]
    exact (hm).put (by (try simp only [putL_length]); omega) (by show _ = fS _; rw [show k + (a.1 * 1) = a.2.1 by omega]; rfl)
  · have e : a.1 = n := by omega
    simp (maxSteps := 1000000) -implicitDefEqProofs only [push_cast, seval]
    rw [e] at hm
    have hq := hm.all n0
    rw [hq] at o0
    refine ⟨?_, o0, r0⟩
    rw [hK, e]
    push_cast
    rfl

theorem heldStringS_o (id off n c : Nat) (k : Nat) (h : AH) (o : Own h id off n 1 (marks fS k (n * 1))) (h0 : 0 < k) (hk : k + n * 1 < 4000000000000) (hn : n < 274877906944) :
    CD Tryz.prog 19 [.slice (some ⟨id, off, none⟩) n c, .int .i64 (k : Nat)] h (.int .i64 ((k + n * 1 : Nat) : Int)) h := by
  refine CD.quiet ?_ (low_int _ _ _)
  refine CC.ofN Tryz.func19 Tryz.ntmps19 Tryz.results19 rfl (by decide) (by kernel_rfl) ?_
  simp (maxSteps := 1000000) -implicitDefEqProofs only [push_cast, seval]
  refine WC.loopA (by kernel_rfl) [1, 5] [4, 6, 7, 8, 9, 10, 11, 12, 13, 14, 15, 16, 17, 18, 19, 20] (fun a : Nat × Nat => [.int .i64 (a.2 : Nat), .int .i64 (a.1 : Nat)]) (fun a h' => (a.1 ≤ n ∧ a.2 = k + a.1 * 1) ∧ Pre h h') (fun a => n - a.1) (0, k) (by kernel_rfl) ⟨⟨Nat.zero_le _, rfl⟩, Pre.refl _⟩ ?_
  intro a g h1 hJ
  have hi := hJ.1.1
  have hK := hJ.1.2
  have hp := hJ.2
  clear hJ
  have o1 := o.pre hp
  have l1 := o1.lt
  simp (maxSteps := 1000000) -implicitDefEqProofs only [push_cast, seval]
  with_reducible refine bcase_d (fun hb => ?_) (fun hb => ?_)
  · have hi' : a.1 < n := by omega
    with_reducible refine nameN (a.2 + 1) (fun K1 hK1 => ?_)
    have w1 : IntKind.i64.wrap ((a.2 : Int) + 1) = (K1 : Nat) := by rw [wrapSucc (by omega), hK1]
    have g0 : rd1 h1 id (off + a.1 * 1) = some (.string (mt a.2)) := by
      have := o1.rd1 (j := a.1 * 1) (by omega)
      rw [show off + a.1 * 1 = off + (a.1 * 1) by omega, this, List.getD_eq_getElem?_getD, marks_get fS k (n * 1) (by omega)]
      rw [show k + (a.1 * 1) = a.2 by omega]; rfl
    simp (maxSteps := 1000000) -implicitDefEqProofs only [push_cast, seval, l1, w1, g0]
    refine WC.draw' (by kernel_rfl) (by kernel_rfl) (.q 0 (.q 1 (.q 2 (.q 3 (.q 4 (.c 5 (.q 6 (.done)))))))) (by kernel_rfl) ?_
    simp (maxSteps := 1000000) -implicitDefEqProofs only [push_cast, seval, l1, w1, g0]
    refine And.intro (by omega) (And.intro (by omega) ?_)
    simp (maxSteps := 1000000) -implicitDefEqProofs only [push_cast, seval, l1, w1, g0]
    refine CQ.pure (fun h' => markText_c a.2 (by omega) (by omega) h') ?_
    simp (maxSteps := 1000000) -implicitDefEqProofs only [push_cast, seval, l1, w1, g0]
    rw [wrapSucc (by omega)]
    exact ⟨(a.1 + 1, K1), by kernel_rfl, ⟨⟨by show a.1 + 1 ≤ n; omega, by show K1 = k + (a.1 + 1) * 1; omega⟩, hp⟩, by show n - (a.1 + 1) < n - a.1; omega⟩
  · have e : a.1 = n := by omega
    simp (maxSteps := 1000000) -implicitDefEqProofs only [push_cast, seval]
    refine ⟨by rw [hK, e]; push_cast; rfl, hp.keep⟩
theorem markStringS_n (c k : Nat) (hk : k < 4000000000000) (h : AH) : CD Tryz.prog 18 [.slice none 0 c, .int .i64 (k : Nat)] h (.int .i64 (k : Nat)) h := by
  refine CD.quiet ?_ (low_int _ _ _)
  refine CC.ofN Tryz.func18 Tryz.ntmps18 Tryz.results18 rfl (by decide) (by kernel_rfl) ?_
  simp (maxSteps := 1000000) -implicitDefEqProofs only [push_cast, seval]
  refine WC.loopA (by kernel_rfl) [1, 5] [6, 7, 8, 9, 10, 11, 12, 13, 14, 15, 16, 17, 18] (fun a : Nat => [.int .i64 (k : Nat), .int .i64 (a : Nat)]) (fun a h' => a = 0 ∧ Pre h h') (fun a => 1 - a) 0 (by kernel_rfl) ⟨rfl, Pre.refl _⟩ ?_
  intro a g h1 hJ
  have e := hJ.1
  have hp := hJ.2
  clear hJ
  subst e
  simp (maxSteps := 1000000) -implicitDefEqProofs only [push_cast, seval]
  repeat' (first | with_reducible (first | exact Keep.refl _ _ | assumption | exact byte_lt _ _ | apply Keep.alloc | (refine Keep.set ?_ ?_; rotate_left; · omega) | apply Pre.alloc | apply Pre.set | exact Pre.refl _ | exact le_alloc _ | (refine Pre.keep ?_; assumption) | (refine Pre.n ?_; assumption)) | ((with_reducible (first | refine bcase_d (fun hb => ?_) (fun hb => ?_) | refine bcase_mk (fun hb => ?_) (fun hb => ?_))) <;> try simp (maxSteps := 1000000) -implicitDefEqProofs only [push_cast, seval]) | with_reducible refine And.intro ?_ ?_ | omega | (simp only [alloc_n, set_n, kill_n]; omega) | (exfalso; omega))
theorem heldStringS_n (c k : Nat) (hk : k < 4000000000000) (h : AH) : CD Tryz.prog 19 [.slice none 0 c, .int .i64 (k : Nat)] h (.int .i64 (k : Nat)) h := by
  refine CD.quiet ?_ (low_int _ _ _)
  refine CC.ofN Tryz.func19 Tryz.ntmps19 Tryz.results19 rfl (by decide) (by kernel_rfl) ?_
  simp (maxSteps := 1000000) -implicitDefEqProofs only [push_cast, seval]
  refine WC.loopA (by kernel_rfl) [1, 5] [4, 6, 7, 8, 9, 10, 11, 12, 13, 14, 15, 16, 17, 18, 19, 20] (fun a : Nat => [.int .i64 (k : Nat), .int .i64 (a : Nat)]) (fun a h' => a = 0 ∧ Pre h h') (fun a => 1 - a) 0 (by kernel_rfl) ⟨rfl, Pre.refl _⟩ ?_
  intro a g h1 hJ
  have e := hJ.1
  have hp := hJ.2
  clear hJ
  subst e
  simp (maxSteps := 1000000) -implicitDefEqProofs only [push_cast, seval]
  repeat' (first | with_reducible (first | exact Keep.refl _ _ | assumption | exact byte_lt _ _ | apply Keep.alloc | (refine Keep.set ?_ ?_; rotate_left; · omega) | apply Pre.alloc | apply Pre.set | exact Pre.refl _ | exact le_alloc _ | (refine Pre.keep ?_; assumption) | (refine Pre.n ?_; assumption)) | ((with_reducible (first | refine bcase_d (fun hb => ?_) (fun hb => ?_) | refine bcase_mk (fun hb => ?_) (fun hb => ?_))) <;> try simp (maxSteps := 1000000) -implicitDefEqProofs only [push_cast, seval]) | with_reducible refine And.intro ?_ ?_ | omega | (simp only [alloc_n, set_n, kill_n]; omega) | (exfalso; omega))
theorem markStringS_c (n0 : Nat) (A : Option Addr) (n : Nat) (cs : List Value) (k : Nat) (h : AH) (o : Gr n0 h (.slice A n 1) 1 cs) (hc : cs.length = n * 1) (h0 : 0 < k) (hk : k + n * 1 < 4000000000000) (hn : n < 274877906944) :
    CC Tryz.prog 18 [.slice A n 1, .int .i64 (k : Nat)] h (fun v h' => v = .int .i64 ((k + n * 1 : Nat) : Int) ∧ Gr n0 h' (.slice A n 1) 1 (marks fS k (n * 1)) ∧ WrV h h' (.slice A n 1)) := by
  refine CC.withFit (fun ft => ?_)
  rcases o with ⟨c, e, e2⟩ | ⟨id, off, m, e, hb, ow⟩
  · injection e with e3 e4 e5
    subst e3 e4 e5 e2
    exact (markStringS_n 1 k (by omega) h).to ⟨rfl, .inl ⟨1, rfl, rfl⟩, WrV.refl _ _⟩
  · injection e with e3 e4
    subst e3 e4
    exact (markStringS_o id off n cs k h ow h0 hk hn).mono (fun v h' ⟨a, b, c⟩ => ⟨a, .inr ⟨id, off, n, rfl, hb, b⟩, c.toV ft ow⟩)
theorem heldStringS_c (n0 : Nat) (A : Option Addr) (n : Nat) (k : Nat) (h : AH) (o : Gr n0 h (.slice A n 1) 1 (marks fS k (n * 1))) (h0 : 0 < k) (hk : k + n * 1 < 4000000000000) (hn : n < 274877906944) :
    CD Tryz.prog 19 [.slice A n 1, .int .i64 (k : Nat)] h (.int .i64 ((k + n * 1 : Nat) : Int)) h := by
  rcases o with ⟨c, e, e2⟩ | ⟨id, off, m, e, hb, ow⟩
  · injection e with e3 e4 e5
    subst e3 e4 e5
    exact heldStringS_n 1 k (by omega) h
  · injection e with e3 e4
    subst e3 e4
    exact heldStringS_o id off n 1 k h ow h0 hk hn

theorem markInstrS_o (id off n : Nat) (cs : List Value) (k : Nat) (h : AH) (o : Own h id off n 2 cs) (h0 : 0 < k) (hk : k + n * 2 < 4000000000000) (hn : n < 274877906944) :
    CC Tryz.prog 53 [.slice (some ⟨id, off, none⟩) n 2, .int .i64 (k : Nat)] h (fun v h' => v = .int .i64 ((k + n * 2 : Nat) : Int) ∧ Own h' id off n 2 (marks fI k (n * 2)) ∧ Wr h h' id) := by
  refine CC.ofN Tryz.func53 Tryz.ntmps53 Tryz.results53 rfl (by decide) (by kernel_rfl) ?_
  simp (maxSteps := 1000000) -implicitDefEqProofs only [push_cast, seval]
  refine WC.loopA (by kernel_rfl) [1, 5] [6, 7, 8, 9, 10, 11, 12, 13, 14, 15, 16, 17, 18, 19, 20, 21, 22, 23, 24, 25] (fun a : Nat × Nat × List Value => [.int .i64 (a.2.1 : Nat), .int .i64 (a.1 : Nat)]) (fun a h' => (a.1 ≤ n ∧ a.2.1 = k + a.1 * 2 ∧ Mkd fI k a.2.2 (a.1 * 2)) ∧ Own h' id off n 2 a.2.2 ∧ Wr h h' id) (fun a => n - a.1) (0, k, cs) (by kernel_rfl) ⟨⟨Nat.zero_le _, rfl, Mkd.zero _ _ _⟩, o, Wr.refl _ _⟩ ?_
  intro a g h1 hJ
  have hi := hJ.1.1
  have hK := hJ.1.2.1
  have hm := hJ.1.2.2
  have o0 := hJ.2.1
  have r0 := hJ.2.2
  clear hJ
  have l0 := o0.lt
  have n0 := o0.len
  simp (maxSteps := 1000000) -implicitDefEqProofs only [push_cast, seval]
  with_reducible refine bcase_d (fun hb => ?_) (fun hb => ?_)
  · have hi' : a.1 < n := by omega
    with_reducible refine nameN (a.2.1 + 1) (fun K1 hK1 => ?_)
    have w1 : IntKind.i64.wrap ((a.2.1 : Int) + 1) = (K1 : Nat) := by rw [wrapSucc (by omega), hK1]
    with_reducible refine nameN (K1 + 1) (fun K2 hK2 => ?_)
    have w2 : IntKind.i64.wrap ((K1 : Int) + 1) = (K2 : Nat) := by rw [wrapSucc (by omega), hK2]
    simp (maxSteps := 1000000) -implicitDefEqProofs only [push_cast, seval]
    refine And.intro (by omega) (And.intro (by omega) ?_)
    refine (show Own _ id off n 2 _ from o0).wr (lo := a.1 * 2) (vs := [.int .i64 (a.2.1 : Nat)]) (by simp only [List.length_cons, List.length_nil]; omega) (fun h2 o1 q1 => ?_)
    have l1 := o1.lt
    simp (maxSteps := 1000000) -implicitDefEqProofs only [push_cast, seval, l1, w1, w2]
    refine And.intro (by omega) (And.intro (by omega) ?_)
    refine (show Own _ id off n 2 _ from o1).wr (lo := a.1 * 2 + 1) (vs := [.int .i64 (K1 : Nat)]) (by simp only [List.length_cons, List.length_nil]; omega) (fun h3 o2 q2 => ?_)
    have l2 := o2.lt
    simp (maxSteps := 1000000) -implicitDefEqProofs only [push_cast, seval, l2, w1, w2]
    rw [wrapSucc (by omega)]
    refine ⟨(a.1 + 1, K2, putL (putL (a.2.2) (a.1 * 2) [.int .i64 (a.2.1 : Nat)]) (a.1 * 2 + 1) [.int .i64 (K1 : Nat)]), by kernel_rfl, ⟨⟨by show a.1 + 1 ≤ n; omega, by show K2 = k + (a.1 + 1) * 2; omega, ?_⟩, o2, r0.trans ((q1).trans q2)⟩, by show n - (a.1 + 1) < n - a.1; omega⟩
    rw [show (a.1 + 1) * 2 = a.1 * 2 + 1 + 1 from by omega]
    exact ((hm).put (by (try simp only [putL_length]); omega) (by show _ = fI _; rw [show k + (a.1 * 2) = a.2.1 by omega]; rfl)).put (by (try simp only [putL_length]); omega) (by show _ = fI _; rw [show k + (a.1 * 2 + 1) = K1 by omega]; rfl)
  · have e : a.1 = n := by omega
    simp (maxSteps := 1000000) -implicitDefEqProofs only [push_cast, seval]
    rw [e] at hm
    have hq := hm.all n0
    rw [hq] at o0
    refine ⟨?_, o0, r0⟩
    rw [hK, e]
    push_cast
    rfl

theorem heldInstrS_o (id off n c : Nat) (k : Nat) (h : AH) (o : Own h id off n 2 (marks fI k (n * 2))) (h0 : 0 < k) (hk : k + n * 2 < 4000000000000) (hn : n < 274877906944) :
    CD Tryz.prog 54 [.slice (some ⟨id, off, none⟩) n c, .int .i64 (k : Nat)] h (.int .i64 ((k + n * 2 : Nat) : Int)) h := by
  refine CD.quiet ?_ (low_int _ _ _)
  refine CC.ofN Tryz.func54 Tryz.ntmps54 Tryz.results54 rfl (by decide) (by kernel_rfl) ?_
  simp (maxSteps := 1000000) -implicitDefEqProofs only [push_cast, seval]
  refine WC.loopA (by kernel_rfl) [1, 5] [4, 6, 7, 8, 9, 10, 11, 12, 13, 14, 15, 16, 17, 18, 19, 20, 21, 22, 23, 24, 25, 26, 27, 28, 29] (fun a : Nat × Nat => [.int .i64 (a.2 : Nat), .int .i64 (a.1 : Nat)]) (fun a h' => (a.1 ≤ n ∧ a.2 = k + a.1 * 2) ∧ Pre h h') (fun a => n - a.1) (0, k) (by kernel_rfl) ⟨⟨Nat.zero_le _, rfl⟩, Pre.refl _⟩ ?_
  intro a g h1 hJ
  have hi := hJ.1.1
  have hK := hJ.1.2
  have hp := hJ.2
  clear hJ
  have o1 := o.pre hp
  have l1 := o1.lt
  simp (maxSteps := 1000000) -implicitDefEqProofs only [push_cast, seval]
  with_reducible refine bcase_d (fun hb => ?_) (fun hb => ?_)
  · have hi' : a.1 < n := by omega
    with_reducible refine nameN (a.2 + 1) (fun K1 hK1 => ?_)
    have w1 : IntKind.i64.wrap ((a.2 : Int) + 1) = (K1 : Nat) := by rw [wrapSucc (by omega), hK1]
    with_reducible refine nameN (K1 + 1) (fun K2 hK2 => ?_)
    have w2 : IntKind.i64.wrap ((K1 : Int) + 1) = (K2 : Nat) := by rw [wrapSucc (by omega), hK2]
    have g0 : rd1 h1 id (off + a.1 * 2) = some (.int .i64 (a.2 : Nat)) := by
      have := o1.rd1 (j := a.1 * 2) (by omega)
      rw [show off + a.1 * 2 = off + (a.1 * 2) by omega, this, List.getD_eq_getElem?_getD, marks_get fI k (n * 2) (by omega)]
      rw [show k + (a.1 * 2) = a.2 by omega]; rfl
    have g1 : rd1 h1 id (off + a.1 * 2 + 1) = some (.int .i64 (K1 : Nat)) := by
      have := o1.rd1 (j := a.1 * 2 + 1) (by omega)
      rw [show off + a.1 * 2 + 1 = off + (a.1 * 2 + 1) by omega, this, List.getD_eq_getElem?_getD, marks_get fI k (n * 2) (by omega)]
      rw [show k + (a.1 * 2 + 1) = K1 by omega]; rfl
    simp (maxSteps := 1000000) -implicitDefEqProofs only [push_cast, seval, l1, w1, w2, g0, g1]
    refine And.intro (by omega) (And.intro (by omega) ?_)
    try simp (maxSteps := 1000000) -implicitDefEqProofs only [push_cast, seval, l1, w1, w2, g0, g1]
    refine And.intro (by omega) (And.intro (by omega) ?_)
    try simp (maxSteps := 1000000) -implicitDefEqProofs only [push_cast, seval, l1, w1, w2, g0, g1]
    rw [wrapSucc (by omega)]
    exact ⟨(a.1 + 1, K2), by kernel_rfl, ⟨⟨by show a.1 + 1 ≤ n; omega, by show K2 = k + (a.1 + 1) * 2; omega⟩, hp⟩, by show n - (a.1 + 1) < n - a.1; omega⟩
  · have e : a.1 = n := by omega
    simp (maxSteps := 1000000) -implicitDefEqProofs only [push_cast, seval]
    refine ⟨by rw [hK, e]; push_cast; rfl, hp.keep⟩
theorem markInstrS_n (c k : Nat) (hk : k < 4000000000000) (h : AH) : CD Tryz.prog 53 [.slice none 0 c, .int .i64 (k : Nat)] h (.int .i64 (k : Nat)) h := by
  refine CD.quiet ?_ (low_int _ _ _)
  refine CC.ofN Tryz.func53 Tryz.ntmps53 Tryz.results53 rfl (by decide) (by kernel_rfl) ?_
  simp (maxSteps := 1000000) -implicitDefEqProofs only [push_cast, seval]
  refine WC.loopA (by kernel_rfl) [1, 5] [6, 7, 8, 9, 10, 11, 12, 13, 14, 15, 16, 17, 18, 19, 20, 21, 22, 23, 24, 25] (fun a : Nat => [.int .i64 (k : Nat), .int .i64 (a : Nat)]) (fun a h' => a = 0 ∧ Pre h h') (fun a => 1 - a) 0 (by kernel_rfl) ⟨rfl, Pre.refl _⟩ ?_
  intro a g h1 hJ
  have e := hJ.1
  have hp := hJ.2
  clear hJ
  subst e
  simp (maxSteps := 1000000) -implicitDefEqProofs only [push_cast, seval]
  repeat' (first | with_reducible (first | exact Keep.refl _ _ | assumption | exact byte_lt _ _ | apply Keep.alloc | (refine Keep.set ?_ ?_; rotate_left; · omega) | apply Pre.alloc | apply Pre.set | exact Pre.refl _ | exact le_alloc _ | (refine Pre.keep ?_; assumption) | (refine Pre.n ?_; assumption)) | ((with_reducible (first | refine bcase_d (fun hb => ?_) (fun hb => ?_) | refine bcase_mk (fun hb => ?_) (fun hb => ?_))) <;> try simp (maxSteps := 1000000) -implicitDefEqProofs only [push_cast, seval]) | with_reducible refine And.intro ?_ ?_ | omega | (simp only [alloc_n, set_n, kill_n]; omega) | (exfalso; omega))
theorem heldInstrS_n (c k : Nat) (hk : k < 4000000000000) (h : AH) : CD Tryz.prog 54 [.slice none 0 c, .int .i64 (k : Nat)] h (.int .i64 (k : Nat)) h := by
  refine CD.quiet ?_ (low_int _ _ _)
  refine CC.ofN Tryz.func54 Tryz.ntmps54 Tryz.results54 rfl (by decide) (by kernel_rfl) ?_
  simp (maxSteps := 1000000) -implicitDefEqProofs only [push_cast, seval]
  refine WC.loopA (by kernel_rfl) [1, 5] [4, 6, 7, 8, 9, 10, 11, 12, 13, 14, 15, 16, 17, 18, 19, 20, 21, 22, 23, 24, 25, 26, 27, 28, 29] (fun a : Nat => [.int .i64 (k : Nat), .int .i64 (a : Nat)]) (fun a h' => a = 0 ∧ Pre h h') (fun a => 1 - a) 0 (by kernel_rfl) ⟨rfl, Pre.refl _⟩ ?_
  intro a g h1 hJ
  have e := hJ.1
  have hp := hJ.2
  clear hJ
  subst e
  simp (maxSteps := 1000000) -implicitDefEqProofs only [push_cast, seval]
  repeat' (first | with_reducible (first | exact Keep.refl _ _ | assumption | exact byte_lt _ _ | apply Keep.alloc | (refine Keep.set ?_ ?_; rotate_left; · omega) | apply Pre.alloc | apply Pre.set | exact Pre.refl _ | exact le_alloc _ | (refine Pre.keep ?_; assumption) | (refine Pre.n ?_; assumption)) | ((with_reducible (first | refine bcase_d (fun hb => ?_) (fun hb => ?_) | refine bcase_mk (fun hb => ?_) (fun hb => ?_))) <;> try simp (maxSteps := 1000000) -implicitDefEqProofs only [push_cast, seval]) | with_reducible refine And.intro ?_ ?_ | omega | (simp only [alloc_n, set_n, kill_n]; omega) | (exfalso; omega))
theorem markInstrS_c (n0 : Nat) (A : Option Addr) (n : Nat) (cs : List Value) (k : Nat) (h : AH) (o : Gr n0 h (.slice A n 2) 2 cs) (hc : cs.length = n * 2) (h0 : 0 < k) (hk : k + n * 2 < 4000000000000) (hn : n < 274877906944) :
    CC Tryz.prog 53 [.slice A n 2, .int .i64 (k : Nat)] h (fun v h' => v = .int .i64 ((k + n * 2 : Nat) : Int) ∧ Gr n0 h' (.slice A n 2) 2 (marks fI k (n * 2)) ∧ WrV h h' (.slice A n 2)) := by
  refine CC.withFit (fun ft => ?_)
  rcases o with ⟨c, e, e2⟩ | ⟨id, off, m, e, hb, ow⟩
  · injection e with e3 e4 e5
    subst e3 e4 e5 e2
    exact (markInstrS_n 2 k (by omega) h).to ⟨rfl, .inl ⟨2, rfl, rfl⟩, WrV.refl _ _⟩
  · injection e with e3 e4
    subst e3 e4
    exact (markInstrS_o id off n cs k h ow h0 hk hn).mono (fun v h' ⟨a, b, c⟩ => ⟨a, .inr ⟨id, off, n, rfl, hb, b⟩, c.toV ft ow⟩)
theorem heldInstrS_c (n0 : Nat) (A : Option Addr) (n : Nat) (k : Nat) (h : AH) (o : Gr n0 h (.slice A n 2) 2 (marks fI k (n * 2))) (h0 : 0 < k) (hk : k + n * 2 < 4000000000000) (hn : n < 274877906944) :
    CD Tryz.prog 54 [.slice A n 2, .int .i64 (k : Nat)] h (.int .i64 ((k + n * 2 : Nat) : Int)) h := by
  rcases o with ⟨c, e, e2⟩ | ⟨id, off, m, e, hb, ow⟩
  · injection e with e3 e4 e5
    subst e3 e4 e5
    exact heldInstrS_n 2 k (by omega) h
  · injection e with e3 e4
    subst e3 e4
    exact heldInstrS_o id off n 2 k h ow h0 hk hn

theorem OwnC.keep {h0 h h' : AH} {vA vB : Value} {c : Cod} (o : OwnC h0 h vA vB c) (hn : h.n ≤ h'.n) (e : ∀ i, (atBlock vA i ∨ atBlock vB i) → h'.ob i = h.ob i) : OwnC h0 h' vA vB c := ⟨o.a.keep hn (fun i hi => e i (.inl hi)), o.b.keep hn (fun i hi => e i (.inr hi)), o.ne⟩
theorem OwnC.pre {h0 h h' : AH} {vA vB : Value} {c : Cod} (o : OwnC h0 h vA vB c) (p : Pre h h') : OwnC h0 h' vA vB c := ⟨o.a.pre p, o.b.pre p, o.ne⟩
theorem OwnC.range {h0 h : AH} {vA vB : Value} {c : Cod} (o : OwnC h0 h vA vB c) {i : Nat} (e : atBlock vA i ∨ atBlock vB i) : h0.n + 1 ≤ i ∧ i < h.n := by
  rcases e with e | e
  · exact o.a.range e
  · exact o.b.range e
theorem OwnC.live {h0 h : AH} {vA vB : Value} {c : Cod} (o : OwnC h0 h vA vB c) {i : Nat} (e : atBlock vA i ∨ atBlock vB i) : live h i := by
  rcases e with e | e
  · exact o.a.live e
  · exact o.b.live e
theorem OwnC.rdc {h0 h : AH} {vA vB : Value} {c : Cod} (o : OwnC h0 h vA vB c) : RdC h vA vB c := ⟨o.a.rdv (by decide) (fun _ => rfl), o.b.rdv (by decide) (fun _ => rfl)⟩
theorem OwnC.one {h0 h : AH} {vA vB : Value} {c : Cod} (o : OwnC h0 h vA vB c) : Sim.one vA = true ∧ Sim.one vB = true := ⟨o.rdc.texts.one, o.rdc.list.one⟩
/-- Marked code. -/
def MkC (h : AH) (vA vB : Value) (nv nc k : Nat) : Prop := ∃ n0 n1, Gr n0 h vA 1 (marks fS k (nv * 1)) ∧ Gr n1 h vB 2 (marks fI (k + nv * 1) (nc * 2))
theorem MkC.keep {h h' : AH} {vA vB : Value} {nv nc k : Nat} (o : MkC h vA vB nv nc k) (hn : h.n ≤ h'.n) (e : ∀ i, (atBlock vA i ∨ atBlock vB i) → h'.ob i = h.ob i) : MkC h' vA vB nv nc k := by
  obtain ⟨n0, n1, a, b⟩ := o
  exact ⟨n0, n1, a.keep hn (fun i hi => e i (.inl hi)), b.keep hn (fun i hi => e i (.inr hi))⟩
theorem MkC.live {h : AH} {vA vB : Value} {nv nc k : Nat} (o : MkC h vA vB nv nc k) {i : Nat} (e : atBlock vA i ∨ atBlock vB i) : Sim.live h i := by
  obtain ⟨n0, n1, a, b⟩ := o
  rcases e with e | e
  · exact a.live e
  · exact b.live e
theorem MkC.one {h : AH} {vA vB : Value} {nv nc k : Nat} (o : MkC h vA vB nv nc k) : Sim.one vA = true ∧ Sim.one vB = true := by
  obtain ⟨n0, n1, a, b⟩ := o
  constructor
  · rcases a with ⟨c, rfl, _⟩ | ⟨id, off, n, rfl, _, _⟩ <;> rfl
  · rcases b with ⟨c, rfl, _⟩ | ⟨id, off, n, rfl, _, _⟩ <;> rfl
theorem txts_len (c : Cod) : ((c.texts.map encTx).flatten).length = c.texts.length * 1 := flat_len (k := 1) _ (fun _ => rfl)
theorem list_len (c : Cod) : ((c.list.map encN).flatten).length = c.list.length * 2 := flat_len (k := 2) _ (fun _ => rfl)
theorem Gr.slice {n0 : Nat} {h : AH} {v : Value} {k : Nat} {cs : List Value} (w : Gr n0 h v k cs) (hk : 0 < k) {m : Nat} (hm : cs.length = m * k) : (∃ A, v = .slice A m k) ∨ (∃ c, v = .slice none 0 c ∧ m = 0) := by
  rcases w with ⟨c, rfl, rfl⟩ | ⟨id, off, n, rfl, b, o⟩
  · refine .inr ⟨c, rfl, ?_⟩
    rcases Nat.eq_zero_or_pos m with h | h
    · exact h
    · have := Nat.mul_pos h hk
      simp at hm; omega
  · refine .inl ⟨some ⟨id, off, none⟩, ?_⟩
    rw [Nat.eq_of_mul_eq_mul_right hk (o.len.symm.trans hm)]
theorem live.of {h h' : AH} {j : Nat} (l : live h j) (e : h'.ob j = h.ob j) : live h' j := by
  rcases l with ⟨ln, ⟨all, st, e1, hs⟩⟩ | l
  · exact .inl ⟨ln, ⟨all, st, e.trans e1, hs⟩⟩
  · exact .inr (by rw [e]; exact l)
theorem markT_any (n0 n k : Nat) (v : Value) (cs : List Value) (h : AH) (o : Gr n0 h v 1 cs) (hc : cs.length = n * 1) (h0 : 0 < k) (hk : k + n * 1 < 4000000000000) (hn : n < 274877906944) :
    CC Tryz.prog 18 [v, .int .i64 (k : Nat)] h (fun r h' => r = .int .i64 ((k + n * 1 : Nat) : Int) ∧ Gr n0 h' v 1 (marks fS k (n * 1)) ∧ WrV h h' v) := by
  rcases Gr.slice o (by decide) hc with ⟨A, rfl⟩ | ⟨c, rfl, rfl⟩
  · exact markStringS_c n0 A n cs k h o hc h0 hk hn
  · exact (markStringS_n c k (by omega) h).to ⟨rfl, .inl ⟨c, rfl, rfl⟩, WrV.refl _ _⟩
theorem markN_any (n0 n k : Nat) (v : Value) (cs : List Value) (h : AH) (o : Gr n0 h v 2 cs) (hc : cs.length = n * 2) (h0 : 0 < k) (hk : k + n * 2 < 4000000000000) (hn : n < 274877906944) :
    CC Tryz.prog 53 [v, .int .i64 (k : Nat)] h (fun r h' => r = .int .i64 ((k + n * 2 : Nat) : Int) ∧ Gr n0 h' v 2 (marks fI k (n * 2)) ∧ WrV h h' v) := by
  rcases Gr.slice o (by decide) hc with ⟨A, rfl⟩ | ⟨c, rfl, rfl⟩
  · exact markInstrS_c n0 A n cs k h o hc h0 hk hn
  · exact (markInstrS_n c k (by omega) h).to ⟨rfl, .inl ⟨c, rfl, rfl⟩, WrV.refl _ _⟩
theorem heldT_any (n0 n k : Nat) (v : Value) (h : AH) (o : Gr n0 h v 1 (marks fS k (n * 1))) (h0 : 0 < k) (hk : k + n * 1 < 4000000000000) (hn : n < 274877906944) :
    CD Tryz.prog 19 [v, .int .i64 (k : Nat)] h (.int .i64 ((k + n * 1 : Nat) : Int)) h := by
  rcases Gr.slice o (by decide) (marks_length _ _ _) with ⟨A, rfl⟩ | ⟨c, rfl, rfl⟩
  · exact heldStringS_c n0 A n k h o h0 hk hn
  · exact heldStringS_n c k (by omega) h
theorem heldN_any (n0 n k : Nat) (v : Value) (h : AH) (o : Gr n0 h v 2 (marks fI k (n * 2))) (h0 : 0 < k) (hk : k + n * 2 < 4000000000000) (hn : n < 274877906944) :
    CD Tryz.prog 54 [v, .int .i64 (k : Nat)] h (.int .i64 ((k + n * 2 : Nat) : Int)) h := by
  rcases Gr.slice o (by decide) (marks_length _ _ _) with ⟨A, rfl⟩ | ⟨c, rfl, rfl⟩
  · exact heldInstrS_c n0 A n k h o h0 hk hn
  · exact heldInstrS_n c k (by omega) h
theorem markCode_c (h0 h : AH) (vA vB : Value) (st : Cod) (ln fn : Int) (k nv nc : Nat) (o : OwnC h0 h vA vB st) (ev : st.texts.length = nv) (ec : st.list.length = nc) (k0 : 0 < k) (hk : k < 1000000) (hv : nv < 274877906944) (hc : nc < 274877906944) :
    CC Tryz.prog 23 [.agg #[vA, vB, .int .i64 0, .int .i64 ln, .int .i64 fn], .int .i64 (k : Nat)] h (fun r h' => r = .int .i64 ((k + nv * 1 + nc * 2 : Nat) : Int) ∧ MkC h' vA vB nv nc k ∧ h.n ≤ h'.n ∧ ∀ j, j < h.n → ¬ (atBlock vA j ∨ atBlock vB j) → live h j → h'.ob j = h.ob j) := by
  have o1 := o.one
  have b := o.a
  have d := o.b
  have c := o.ne
  have q1 := o1.1
  have q2 := o1.2
  have l1 := txts_len st
  have l2 := list_len st
  rw [ev] at l1
  rw [ec] at l2
  with_reducible refine nameN (k + nv * 1) (fun K1 hK1 => ?_)
  refine CC.ofN Tryz.func23 Tryz.ntmps23 Tryz.results23 rfl (by decide) (by kernel_rfl) ?_
  simp (maxSteps := 1000000) -implicitDefEqProofs only [push_cast, seval, q1, q2]
  with_reducible refine CC.mono (markT_any _ nv k vA _ _ (b.alloc _) l1 k0 (by omega) hv) (fun v h1 hv => ?_)
  have e1 := hv.1
  have g1 := hv.2.1
  have w1 := hv.2.2
  clear hv
  rw [← hK1] at e1
  subst e1
  have ox : h1.ob h.n = AOb.cells [vA, vB, Value.int .i64 0, .int .i64 ln, .int .i64 fn] .solo h.n := (w1.ob h.n (fun e => by have := b.range e; omega) (.inl ⟨h.n, ⟨_, _, alloc_same _, .inl rfl⟩⟩)).trans (alloc_same _)
  have lx : h.n < h1.n := by rw [w1.n]; exact lt_alloc _
  have kd : ∀ i, atBlock vB i → h1.ob i = (h.alloc (AOb.cells [vA, vB, Value.int .i64 0, .int .i64 ln, .int .i64 fn] .solo h.n)).ob i := fun i hi => w1.ob i (fun e => c i e hi) ((d.alloc _).live hi)
  have d1 : Gr _ h1 vB 2 _ := (d.alloc _).keep (by rw [w1.n]; exact Nat.le_refl _) kd
  simp (maxSteps := 1000000) -implicitDefEqProofs only [push_cast, seval, ox, lx, rd_of ox, rd1_of ox]
  with_reducible refine CC.mono (markN_any _ nc K1 vB _ _ d1 l2 (by omega) (by omega) hc) (fun v h2 hv => ?_)
  have e1 := hv.1
  have g2 := hv.2.1
  have w2 := hv.2.2
  clear hv
  subst e1
  simp (maxSteps := 1000000) -implicitDefEqProofs only [push_cast, seval]
  rw [hK1] at g2
  refine ⟨by rw [hK1]; push_cast; rfl, ⟨_, _, g1.keep (by rw [w2.n]; exact Nat.le_refl _) (fun i hi => w2.ob i (fun e => ?_) (g1.live hi)), g2⟩, by rw [w2.n]; omega, fun j hj hb hl => ?_⟩
  · exact c i hi e
  · have e1 : h1.ob j = h.ob j := (w1.ob j (fun e => hb (.inl e)) (live.of hl (alloc_lt _ hj))).trans (alloc_lt _ hj)
    exact (w2.ob j (fun e => hb (.inr e)) (live.of hl e1)).trans e1
theorem heldCode_c (h : AH) (vA vB : Value) (ln fn : Int) (k nv nc : Nat) (o : MkC h vA vB nv nc k) (k0 : 0 < k) (hk : k < 1000000) (hv : nv < 274877906944) (hc : nc < 274877906944) :
    CD Tryz.prog 24 [.agg #[vA, vB, .int .i64 0, .int .i64 ln, .int .i64 fn], .int .i64 (k : Nat)] h (.int .i64 ((k + nv * 1 + nc * 2 : Nat) : Int)) h := by
  have o1 := o.one
  obtain ⟨m, m1, a, b⟩ := o
  have q1 := o1.1
  have q2 := o1.2
  refine CD.quiet ?_ (low_int _ _ _)
  with_reducible refine nameN (k + nv * 1) (fun K1 hK1 => ?_)
  have hA := heldT_any _ nv k vA _ (a.alloc (AOb.cells [vA, vB, Value.int .i64 0, .int .i64 ln, .int .i64 fn] .solo h.n)) k0 (by omega) hv
  have hB := heldN_any _ nc (k + nv * 1) vB _ (b.alloc (AOb.cells [vA, vB, Value.int .i64 0, .int .i64 ln, .int .i64 fn] .solo h.n)) (by omega) (by omega) hc
  rw [← hK1] at hA hB
  with_reducible refine nameN (k + nv * 1 + nc * 2) (fun K2 hK2 => ?_)
  rw [← hK1] at hK2
  rw [← hK2] at hB
  refine CC.ofN Tryz.func24 Tryz.ntmps24 Tryz.results24 rfl (by decide) (by kernel_rfl) ?_
  simp (maxSteps := 1000000) -implicitDefEqProofs only [push_cast, seval, q1, q2]
  repeat' (first | with_reducible (first | exact Keep.refl _ _ | assumption | exact byte_lt _ _ | apply Keep.alloc | (refine Keep.set ?_ ?_; rotate_left; · omega) | apply Pre.alloc | apply Pre.set | exact Pre.refl _ | exact le_alloc _ | (refine Pre.keep ?_; assumption) | (refine Pre.n ?_; assumption)) | ((with_reducible (first | refine CD.to (hA) ?_ | refine CQ.pure (fun _ => hA) ?_ | refine CD.to (hB) ?_ | refine CQ.pure (fun _ => hB) ?_ | refine bcase_d (fun hb => ?_) (fun hb => ?_) | refine bcase_mk (fun hb => ?_) (fun hb => ?_))) <;> try simp (maxSteps := 1000000) -implicitDefEqProofs only [push_cast, seval, q1, q2]) | with_reducible refine And.intro ?_ ?_ | omega | (simp only [alloc_n, set_n, kill_n]; omega) | (exfalso; omega))
  rw [hK2, hK1]
  push_cast
  rfl
end Go.Proofs.YtdlpdfclljnmhaaGreat
namespace Go.Proofs.YtdlpdfclljnmhaaGreat
open Go Go.Sim Go.Proofs
set_option linter.unusedSimpArgs false
set_option linter.unusedVariables false
set_option maxRecDepth 100000
set_option maxHeartbeats 1000000
theorem markT_L (n0 n k : Nat) (v : Value) (cs : List Value) (h : AH) (o : Gr n0 h v 1 cs) (lo : Lo n0 h v) (hc : cs.length = n * 1) (h0 : 0 < k) (hk : k + n * 1 < 4000000000000) (hn : n < 274877906944) :
    CC Tryz.prog 18 [v, .int .i64 (k : Nat)] h (fun r h' => r = .int .i64 ((k + n * 1 : Nat) : Int) ∧ (Gr n0 h' v 1 (marks fS k (n * 1)) ∧ ∀ j, j < n0 → h'.ob j = h.ob j) ∧ WrV h h' v) := by
  refine CC.withFit (fun ft => ?_)
  refine CC.withLin (fun li => ?_)
  have g : GrL n0 h v 1 cs := ⟨o, lo⟩
  rcases Gr.slice o (by decide) hc with ⟨A, rfl⟩ | ⟨c, rfl, rfl⟩
  · rcases o with ⟨c, e, e2⟩ | ⟨id, off, m, e, hb, ow⟩
    · injection e with e3 e4 e5
      subst e3 e4 e5 e2
      exact (markStringS_n 1 k (by omega) h).to ⟨rfl, ⟨.inl ⟨1, rfl, rfl⟩, fun _ _ => rfl⟩, WrV.refl _ _⟩
    · injection e with e3 e4
      subst e3 e4
      exact (markStringS_o id off n cs k h ow h0 hk hn).mono (fun v h' ⟨a, b, c⟩ => ⟨a, ⟨.inr ⟨id, off, n, rfl, hb, b⟩, g.wr li c⟩, c.toV ft ow⟩)
  · exact (markStringS_n c k (by omega) h).to ⟨rfl, ⟨.inl ⟨c, rfl, rfl⟩, fun _ _ => rfl⟩, WrV.refl _ _⟩
theorem markN_L (n0 n k : Nat) (v : Value) (cs : List Value) (h : AH) (o : Gr n0 h v 2 cs) (lo : Lo n0 h v) (hc : cs.length = n * 2) (h0 : 0 < k) (hk : k + n * 2 < 4000000000000) (hn : n < 274877906944) :
    CC Tryz.prog 53 [v, .int .i64 (k : Nat)] h (fun r h' => r = .int .i64 ((k + n * 2 : Nat) : Int) ∧ (Gr n0 h' v 2 (marks fI k (n * 2)) ∧ ∀ j, j < n0 → h'.ob j = h.ob j) ∧ WrV h h' v) := by
  refine CC.withFit (fun ft => ?_)
  refine CC.withLin (fun li => ?_)
  have g : GrL n0 h v 2 cs := ⟨o, lo⟩
  rcases Gr.slice o (by decide) hc with ⟨A, rfl⟩ | ⟨c, rfl, rfl⟩
  · rcases o with ⟨c, e, e2⟩ | ⟨id, off, m, e, hb, ow⟩
    · injection e with e3 e4 e5
      subst e3 e4 e5 e2
      exact (markInstrS_n 2 k (by omega) h).to ⟨rfl, ⟨.inl ⟨2, rfl, rfl⟩, fun _ _ => rfl⟩, WrV.refl _ _⟩
    · injection e with e3 e4
      subst e3 e4
      exact (markInstrS_o id off n cs k h ow h0 hk hn).mono (fun v h' ⟨a, b, c⟩ => ⟨a, ⟨.inr ⟨id, off, n, rfl, hb, b⟩, g.wr li c⟩, c.toV ft ow⟩)
  · exact (markInstrS_n c k (by omega) h).to ⟨rfl, ⟨.inl ⟨c, rfl, rfl⟩, fun _ _ => rfl⟩, WrV.refl _ _⟩
theorem markCode_L (h0 h : AH) (vA vB : Value) (st : Cod) (ln fn : Int) (k nv nc : Nat) (o : OwnC h0 h vA vB st) (loA : Lo (h0.n + 1) h vA) (loB : Lo (h0.n + 1) h vB) (hlt : h0.n + 1 ≤ h.n) (ev : st.texts.length = nv) (ec : st.list.length = nc) (k0 : 0 < k) (hk : k < 1000000) (hv : nv < 274877906944) (hc : nc < 274877906944) :
    CC Tryz.prog 23 [.agg #[vA, vB, .int .i64 0, .int .i64 ln, .int .i64 fn], .int .i64 (k : Nat)] h (fun r h' => r = .int .i64 ((k + nv * 1 + nc * 2 : Nat) : Int) ∧ MkC h' vA vB nv nc k ∧ h.n ≤ h'.n ∧ (∀ j, j < h.n → ¬ (atBlock vA j ∨ atBlock vB j) → live h j → h'.ob j = h.ob j) ∧ ∀ j, j < h0.n + 1 → h'.ob j = h.ob j) := by
  have o1 := o.one
  have b := o.a
  have d := o.b
  have c := o.ne
  have q1 := o1.1
  have q2 := o1.2
  have l1 := txts_len st
  have l2 := list_len st
  rw [ev] at l1
  rw [ec] at l2
  with_reducible refine nameN (k + nv * 1) (fun K1 hK1 => ?_)
  refine CC.ofN Tryz.func23 Tryz.ntmps23 Tryz.results23 rfl (by decide) (by kernel_rfl) ?_
  simp (maxSteps := 1000000) -implicitDefEqProofs only [push_cast, seval, q1, q2]
  with_reducible refine CC.mono (markT_L _ nv k vA _ _ (b.alloc _) (loA.keep (fun i hi => alloc_lt _ (b.range hi).2)) l1 k0 (by omega) hv) (fun v h1 hv => ?_)
  have e1 := hv.1
  have g1 := hv.2.1.1
  have lw1 := hv.2.1.2
  have w1 := hv.2.2
  clear hv
  rw [← hK1] at e1
  subst e1
  have ox : h1.ob h.n = AOb.cells [vA, vB, Value.int .i64 0, .int .i64 ln, .int .i64 fn] .solo h.n := (w1.ob h.n (fun e => by have := b.range e; omega) (.inl ⟨h.n, ⟨_, _, alloc_same _, .inl rfl⟩⟩)).trans (alloc_same _)
  have lx : h.n < h1.n := by rw [w1.n]; exact lt_alloc _
  have kd : ∀ i, atBlock vB i → h1.ob i = (h.alloc (AOb.cells [vA, vB, Value.int .i64 0, .int .i64 ln, .int .i64 fn] .solo h.n)).ob i := fun i hi => w1.ob i (fun e => c i e hi) ((d.alloc _).live hi)
  have d1 : Gr _ h1 vB 2 _ := (d.alloc _).keep (by rw [w1.n]; exact Nat.le_refl _) kd
  have loB1 : Lo (h0.n + 1) h1 vB := loB.keep (fun i hi => (kd i hi).trans (alloc_lt _ (d.range hi).2))
  simp (maxSteps := 1000000) -implicitDefEqProofs only [push_cast, seval, ox, lx, rd_of ox, rd1_of ox]
  with_reducible refine CC.mono (markN_L _ nc K1 vB _ _ d1 loB1 l2 (by omega) (by omega) hc) (fun v h2 hv => ?_)
  have e1 := hv.1
  have g2 := hv.2.1.1
  have lw2 := hv.2.1.2
  have w2 := hv.2.2
  clear hv
  subst e1
  simp (maxSteps := 1000000) -implicitDefEqProofs only [push_cast, seval]
  rw [hK1] at g2
  refine ⟨by rw [hK1]; push_cast; rfl, ⟨_, _, g1.keep (by rw [w2.n]; exact Nat.le_refl _) (fun i hi => w2.ob i (fun e => ?_) (g1.live hi)), g2⟩, by rw [w2.n]; omega, fun j hj hb hl => ?_, fun j hj => ((lw2 j hj).trans (lw1 j hj)).trans (alloc_lt _ (by omega))⟩
  · exact c i hi e
  · have e1 : h1.ob j = h.ob j := (w1.ob j (fun e => hb (.inl e)) (live.of hl (alloc_lt _ hj))).trans (alloc_lt _ hj)
    exact (w2.ob j (fun e => hb (.inr e)) (live.of hl e1)).trans e1
end Go.Proofs.YtdlpdfclljnmhaaGreat
namespace Go.Proofs.YtdlpdfclljnmhaaGreat
open Go Go.Sim Go.Proofs
set_option linter.unusedSimpArgs false
set_option linter.unusedVariables false
set_option maxRecDepth 100000
set_option maxHeartbeats 1000000
theorem SoG.pre {n0 : Nat} {h h' : AH} {wN wR : Value} {D : List (Nd × Value)} {R : List Ru} (s : SoG n0 h wN wR D R) (p : Pre h h') : SoG n0 h' wN wR D R := by
  obtain ⟨id, cs, sn⟩ := s.nodes
  exact ⟨⟨id, cs, sn.keep p.n (fun i e => p.ob i (sn.range e).2)⟩, s.rules.pre p, s.apart⟩
theorem SoG.range {n0 : Nat} {h : AH} {wN wR : Value} {D : List (Nd × Value)} {R : List Ru} (s : SoG n0 h wN wR D R) {i : Nat} (e : atBlock wN i ∨ atBlock wR i ∨ ∃ x ∈ D, atBlock x.2 i) : n0 ≤ i ∧ i < h.n := by
  obtain ⟨id, cs, sn⟩ := s.nodes
  rcases e with e | e | e
  · exact sn.range (.inl e)
  · exact s.rules.range e
  · exact sn.range (.inr e)
theorem CmpV.of {D L : List (Nd × Value)} {R : List Ru} {h h' : AH} {v : Value} (m : D.map Prod.fst = L.map Prod.fst) (c : CmpV D R h v h') : CmpV L R h v h' := by
  unfold CmpV cmpC cmpOk at *
  rw [m] at c
  exact c
theorem cmpC_bgn (L : List (Nd × Value)) (R : List Ru) : (cmpC L R).bgn = 0 := by
  unfold cmpC
  split <;> rfl
theorem cmpC_sz (L : List (Nd × Value)) (R : List Ru) : (cmpC L R).texts.length < 274877906944 ∧ (cmpC L R).list.length < 274877906944 := by
  unfold cmpC
  split
  · rename_i hk
    simp only [cmpOk, Bool.and_eq_true] at hk
    have o := (codeOk_iff _).1 hk.2
    have := o.1.t60
    have := o.1.l250
    omega
  · exact ⟨by show 0 < _; omega, by show 0 < _; omega⟩
theorem eqCode_own (h0 h1 h : AH) (vA vB wA wB : Value) (c : Cod) (oa : OwnC h0 h vA vB c) (ob : OwnC h1 h wA wB c) (b0 : c.bgn = 0) (ht : c.texts.length < 274877906944) (hl : c.list.length < 274877906944) :
    CD Tryz.prog 22 [.agg #[vA, vB, .int .i64 0, .int .i64 c.line, .int .i64 c.fin], .agg #[wA, wB, .int .i64 0, .int .i64 c.line, .int .i64 c.fin]] h (.bool true) h := by
  have := eqCode_c c vA vB wA wB h oa.rdc ob.rdc ht hl
  rw [b0] at this
  exact this
theorem live_solo {h : AH} {i ln : Nat} {cs : List Value} (e : h.ob i = .cells cs .solo ln) : live h i := .inl ⟨ln, ⟨_, _, e, .inl rfl⟩⟩
/-- A box that is made and filled. -/
theorem newbox (h : AH) (z cs : List Value) : Pre h ((h.alloc (.cells z .solo h.n)).set h.n (.cells cs .solo h.n)) ∧ ((h.alloc (.cells z .solo h.n)).set h.n (.cells cs .solo h.n)).ob h.n = .cells cs .solo h.n ∧ ((h.alloc (.cells z .solo h.n)).set h.n (.cells cs .solo h.n)).n = h.n + 1 :=
  ⟨((Pre.refl h).alloc _).set (Nat.le_refl _) _, set_same _ _, rfl⟩
/-- The law. -/
theorem law_Compile (L : List (Nd × Value)) (R : List Ru) (vN vR : Value) (h : AH) (r0 : RdG h vN vR L R) (hz0 : ∀ x ∈ L, x.1.text.size ≤ maxLen ∧ x.1.kids.length ≤ maxLen) (hn0 : L.length ≤ maxLen) (hr0 : R.length ≤ maxLen) (big : Big h) : CE Tryz.prog 6 [.agg #[vN, vR]] h fun v _ => v = .bool true := by
  have u00 := r0.nodes.one
  have u01 := r0.rules.one
  have pb : Pre h (h.alloc (.cells [vN, vR] .solo h.n)) := (Pre.refl _).alloc _
  have hS := szProgram_c L R vN vR 1048576 _ (r0.pre pb) hz0 hn0 hr0 (by omega)
  have zS := cmpC_sz L R
  have b0 := cmpC_bgn L R
  refine CE.ofN Tryz.func6 Tryz.ntmps6 Tryz.results6 rfl (by kernel_rfl) ?_
  simp (maxSteps := 1000000) -implicitDefEqProofs only [push_cast, seval, u00, u01]
  repeat (with_reducible refine And.intro ?_ ?_; · (first | omega | decide))
  with_reducible refine CD.to hS ?_
  simp (maxSteps := 1000000) -implicitDefEqProofs only [push_cast, seval]
  with_reducible refine bcase_d (fun hb => ?_) (fun hb => ?_)
  · simp (maxSteps := 1000000) -implicitDefEqProofs only [push_cast, seval]
  have hw : progW L R ≤ 1048576 := by
    by_cases e : (1048576 : Int) - progW L R < 0
    · exact absurd (by rw [if_pos e]; decide) hb
    · omega
  have hz := SzG.ofW hw
  clear hb hw hS
  generalize hC : cmpC L R = C at *
  generalize hb : cmpOk L R = ok at *
  have oA0 : (h.alloc (.cells [vN, vR] .solo h.n)).ob h.n = .cells [vN, vR] .solo h.n := alloc_same _
  have nA0 : (h.alloc (.cells [vN, vR] .solo h.n)).n = h.n + 1 := rfl
  simp (maxSteps := 1000000) -implicitDefEqProofs only [push_cast, seval, u00, u01]
  generalize (h.alloc (.cells [vN, vR] .solo h.n)) = h0 at *
  with_reducible refine CC.mono (toProgram_c L R vN vR _ (r0.pre pb) hz) (fun v h1 hv => ?_)
  with_reducible refine Exists.elim hv (fun a1 hw => ?_)
  with_reducible refine Exists.elim hw (fun b1 hw => ?_)
  with_reducible refine Exists.elim hw (fun D1 hw => ?_)
  have e1 := hw.1
  have m1 := hw.2.1
  have r1 := hw.2.2.1
  have p1 := hw.2.2.2.1
  have s1 := hw.2.2.2.2
  clear hv hw
  subst e1
  have z1 := hz.of m1
  have u10 := r1.nodes.one
  have u11 := r1.rules.one
  have n1 := p1.n
  have l1 : h.n < h1.n := by omega
  have oA1 : h1.ob h.n = _ := (p1.ob _ (by omega)).trans oA0
  simp (maxSteps := 1000000) -implicitDefEqProofs only [push_cast, seval, oA1, rd_of oA1, rd1_of oA1, l1, u10, u11]
  with_reducible refine CC.mono (Compile_s (h := h1) (L := D1) (vN := a1) (vR := b1) (R := R) r1 z1) (fun v h2 hv => ?_)
  have hv := CmpV.of m1 hv
  unfold CmpV at hv
  rw [hC, hb] at hv
  with_reducible refine Exists.elim hv (fun wA hw => ?_)
  with_reducible refine Exists.elim hw (fun wB hw => ?_)
  have e1 := hw.1
  have wAo := hw.2.1.1
  have wAl := hw.2.1.2
  have p2 := hw.2.2
  clear hv hw
  subst e1
  have n2 := p2.n
  have ywA := wAo.one.1
  have ywB := wAo.one.2
  have oA2 : h2.ob h.n = _ := (p2.ob _ (by omega)).trans oA1
  have l2 : h.n < h2.n := by omega
  simp (maxSteps := 1000000) -implicitDefEqProofs only [push_cast, seval, oA2, rd_of oA2, rd1_of oA2, l2, ywA, ywB, u00, u01]
  have nb := newbox h2 [Value.slice none 0 0, Value.slice none 0 0, Value.int .i64 0, Value.int .i64 0, Value.int .i64 0] [wA, wB, .int .i64 0, .int .i64 C.line, .int .i64 C.fin]
  have p3 := nb.1
  have o3 := nb.2.1
  have n3 := nb.2.2
  clear nb
  generalize ((h2.alloc (.cells [Value.slice none 0 0, Value.slice none 0 0, Value.int .i64 0, Value.int .i64 0, Value.int .i64 0] .solo h2.n)).set h2.n (.cells [wA, wB, .int .i64 0, .int .i64 C.line, .int .i64 C.fin] .solo h2.n)) = h3 at *
  have l3 : h.n < h3.n := by omega
  have q3 : Pre h h3 := ((pb.trans p1).trans p2).trans p3
  have oA3 : h3.ob h.n = _ := (p3.ob _ (by omega)).trans oA2
  with_reducible refine CC.mono (toProgram_c L R vN vR _ (r0.pre q3) hz) (fun v h4 hv => ?_)
  with_reducible refine Exists.elim hv (fun a4 hw => ?_)
  with_reducible refine Exists.elim hw (fun b4 hw => ?_)
  with_reducible refine Exists.elim hw (fun D4 hw => ?_)
  have e1 := hw.1
  have m4 := hw.2.1
  have r4 := hw.2.2.1
  have p4 := hw.2.2.2.1
  have s4 := hw.2.2.2.2
  clear hv hw
  subst e1
  have z4 := hz.of m4
  have u40 := r4.nodes.one
  have u41 := r4.rules.one
  have n4 := p4.n
  simp (maxSteps := 1000000) -implicitDefEqProofs only [push_cast, seval, u40, u41]
  have nb := newbox h4 [.slice none 0 0, .slice none 0 0] [a4, b4]
  have p5 := nb.1
  have o5 := nb.2.1
  have n5 := nb.2.2
  clear nb
  generalize ((h4.alloc (.cells [.slice none 0 0, .slice none 0 0] .solo h4.n)).set h4.n (.cells [a4, b4] .solo h4.n)) = h5 at *
  have l5 : h4.n < h5.n := by omega
  simp (maxSteps := 1000000) -implicitDefEqProofs only [push_cast, seval, o5, rd_of o5, rd1_of o5, l5, u40, u41]
  with_reducible refine CC.mono (Compile_i (h := h5) (L := D4) (vN := a4) (vR := b4) (R := R) (r4.pre p5) z4) (fun v h6 hv => ?_)
  have hv := CmpV.of m4 hv
  unfold CmpV at hv
  rw [hC, hb] at hv
  with_reducible refine Exists.elim hv (fun gA hw => ?_)
  with_reducible refine Exists.elim hw (fun gB hw => ?_)
  have e1 := hw.1
  have gAo := hw.2.1.1
  have gAl := hw.2.1.2
  have p6 := hw.2.2
  clear hv hw
  subst e1
  have n6 := p6.n
  have ygA := gAo.one.1
  have ygB := gAo.one.2
  have o56 : h6.ob h4.n = _ := (p6.ob _ (by omega)).trans o5
  simp (maxSteps := 1000000) -implicitDefEqProofs only [push_cast, seval, ygA, ygB]
  have nb := newbox h6 [Value.slice none 0 0, Value.slice none 0 0, Value.int .i64 0, Value.int .i64 0, Value.int .i64 0] [gA, gB, .int .i64 0, .int .i64 C.line, .int .i64 C.fin]
  have p7 := nb.1
  have o7 := nb.2.1
  have n7 := nb.2.2
  clear nb
  generalize ((h6.alloc (.cells [Value.slice none 0 0, Value.slice none 0 0, Value.int .i64 0, Value.int .i64 0, Value.int .i64 0] .solo h6.n)).set h6.n (.cells [gA, gB, .int .i64 0, .int .i64 C.line, .int .i64 C.fin] .solo h6.n)) = h7 at *
  have P37 : Pre h3 h7 := ((p4.trans p5).trans p6).trans p7
  have q7 : Pre h h7 := q3.trans P37
  have oW7 : h7.ob h2.n = _ := (P37.ob _ (by omega)).trans o3
  have lW7 : h2.n < h7.n := by omega
  have lG7 : h6.n < h7.n := by omega
  have oX7 : h7.ob h4.n = _ := (p7.ob _ (by omega)).trans o56
  have lX7 : h4.n < h7.n := by omega
  have oA7 : h7.ob h.n = _ := (P37.ob _ (by omega)).trans oA3
  have lA7 : h.n < h7.n := by omega
  have w7 := wAo.pre (p3.trans P37)
  have g7 := gAo.pre p7
  simp (maxSteps := 1000000) -implicitDefEqProofs only [push_cast, seval, o7, rd_of o7, rd1_of o7, oW7, rd_of oW7, rd1_of oW7, lW7, lG7, ywA, ywB, ygA, ygB]
  with_reducible refine CD.to (eqCode_own _ _ _ _ _ _ _ _ g7 w7 b0 zS.1 zS.2) ?_
  have oo : (ok == ok) = true := beq_self_eq_true ok
  simp (maxSteps := 1000000) -implicitDefEqProofs only [push_cast, seval, oo]
  simp (maxSteps := 1000000) -implicitDefEqProofs only [push_cast, seval, oX7, rd_of oX7, rd1_of oX7, oA7, rd_of oA7, rd1_of oA7, lX7, lA7, u40, u41]
  refine WC.draw' (by kernel_rfl) (by kernel_rfl) (.q 0 (.q 1 (.a 2 false (.a 3 false (.q 4 (.done)))))) (by kernel_rfl) ?_
  simp (maxSteps := 1000000) -implicitDefEqProofs only [push_cast, seval, oX7, rd_of oX7, rd1_of oX7, oA7, rd_of oA7, rd1_of oA7, lX7, lA7, u00, u01, u40, u41]
  with_reducible refine CC.mono (toProgram_c L R vN vR _ (r0.pre q7) hz) (fun v h8 hv => ?_)
  with_reducible refine Exists.elim hv (fun a8 hw => ?_)
  with_reducible refine Exists.elim hw (fun b8 hw => ?_)
  with_reducible refine Exists.elim hw (fun D8 hw => ?_)
  have e1 := hw.1
  have m8 := hw.2.1
  have r8 := hw.2.2.1
  have p8 := hw.2.2.2.1
  have s8 := hw.2.2.2.2
  clear hv hw
  subst e1
  have z8 := hz.of m8
  have u80 := r8.nodes.one
  have u81 := r8.rules.one
  have n8 := p8.n
  have oX8 : h8.ob h4.n = _ := (p8.ob _ lX7).trans oX7
  have oA8 : h8.ob h.n = _ := (p8.ob _ lA7).trans oA7
  have lX8 : h4.n < h8.n := by omega
  have lA8 : h.n < h8.n := by omega
  have P38 := P37.trans p8
  have P48 : Pre h4 h8 := ((p5.trans p6).trans p7).trans p8
  simp (maxSteps := 1000000) -implicitDefEqProofs only [push_cast, seval, oX8, rd_of oX8, rd1_of oX8, oA8, rd_of oA8, rd1_of oA8, oX7, oA7, lX8, lA8, u40, u41, u80, u81]
  with_reducible refine CD.to (eqProgram_c D4 D8 R a4 b4 a8 b8 h8 (r4.pre P48) r8 (m4.trans m8.symm) z4) ?_
  simp (maxSteps := 1000000) -implicitDefEqProofs only [push_cast, seval, oX8, rd_of oX8, rd1_of oX8, oA8, rd_of oA8, rd1_of oA8, oX7, oA7, lX8, lA8, u40, u41]
  have hM := markProgram_s a4 b4 D4 R h3.n h8 (s4.pre P48) z4.n z4.r z4.kids
  with_reducible refine CC.mono hM (fun v h9 hv => ?_)
  with_reducible refine Exists.elim hv.1 (fun k9 e1 => ?_)
  have n9 := hv.2.1
  have f9 := hv.2.2
  clear hv hM
  subst e1
  have g9 : ∀ j, j < h3.n ∨ (h4.n ≤ j ∧ j < h8.n) → h9.ob j = h8.ob j := fun j hj => f9 j (by omega) (fun e => by have := s4.range e; omega)
  have pw9 : Pre h3 h9 := ⟨by omega, fun j hj => (g9 j (.inl hj)).trans (P38.ob j hj)⟩
  have q9 : Pre h h9 := q3.trans pw9
  have rgW := fun i e => wAo.range (i := i) e
  have rgG := fun i e => gAo.range (i := i) e
  have w8 := w7.pre p8
  have g8 := g7.pre p8
  have wo9 := w8.keep n9 (fun i e => g9 i (.inl (by have := (rgW i e).2; omega)))
  have go9 := g8.keep n9 (fun i e => g9 i (.inr (by have := rgG i e; omega)))
  have lA9 : Lo (h5.n + 1) h9 gA := gAl.1.keep (fun i e => (g9 i (.inr (by have := rgG i (.inl e); omega))).trans ((p7.trans p8).ob i (rgG i (.inl e)).2))
  have lB9 : Lo (h5.n + 1) h9 gB := gAl.2.keep (fun i e => (g9 i (.inr (by have := rgG i (.inr e); omega))).trans ((p7.trans p8).ob i (rgG i (.inr e)).2))
  have oW9 : h9.ob h2.n = _ := (g9 _ (.inl (by omega))).trans ((p8.ob _ lW7).trans oW7)
  have oG9 : h9.ob h6.n = _ := (g9 _ (.inr (by omega))).trans ((p8.ob _ lG7).trans o7)
  have oA9 : h9.ob h.n = _ := (g9 _ (.inl (by omega))).trans oA8
  have lW9 : h2.n < h9.n := by omega
  have lG9 : h6.n < h9.n := by omega
  have la9 : h.n < h9.n := by omega
  simp (maxSteps := 1000000) -implicitDefEqProofs only [push_cast, seval]
  with_reducible refine bcase_d (fun hb9 => ?_) (fun hb9 => ?_)
  · exfalso; omega
  simp (maxSteps := 1000000) -implicitDefEqProofs only [push_cast, seval, oG9, rd_of oG9, rd1_of oG9, oW9, rd_of oW9, rd1_of oW9, lG9, lW9, ywA, ywB, ygA, ygB]
  with_reducible refine CD.to (eqCode_own _ _ _ _ _ _ _ _ go9 wo9 b0 zS.1 zS.2) ?_
  simp (maxSteps := 1000000) -implicitDefEqProofs only [push_cast, seval, oo]
  simp (maxSteps := 1000000) -implicitDefEqProofs only [push_cast, seval, oG9, rd_of oG9, rd1_of oG9, lG9, ygA, ygB]
  with_reducible refine nameN C.texts.length (fun nv hnv => ?_)
  with_reducible refine nameN C.list.length (fun nc hnc => ?_)
  have zv : nv < 274877906944 := by rw [hnv]; exact zS.1
  have zc : nc < 274877906944 := by rw [hnc]; exact zS.2
  have hM := markCode_L h5 h9 gA gB C C.line C.fin 1 nv nc go9 lA9 lB9 (by omega) hnv.symm hnc.symm (by omega) (by omega) zv zc
  rw [show ((1 : Nat) : Int) = 1 from rfl] at hM
  with_reducible refine CC.mono hM (fun v h10 hv => ?_)
  have e1 := hv.1
  have gM := hv.2.1
  have n10 := hv.2.2.1
  have f10 := hv.2.2.2.1
  have lo10 := hv.2.2.2.2
  clear hv hM
  with_reducible refine nameN (1 + nv * 1 + nc * 2) (fun K hK => ?_)
  rw [← hK] at e1
  subst e1
  have hH := fun (h : AH) (o : MkC h gA gB nv nc 1) => heldCode_c h gA gB C.line C.fin 1 nv nc o (by omega) (by omega) zv zc
  rw [show ((1 : Nat) : Int) = 1 from rfl, ← hK] at hH
  have q10 : Pre h h10 := ⟨by have := q9.n; omega, fun j hj => (lo10 j (by omega)).trans (q9.ob j hj)⟩
  have oG10 : h10.ob h6.n = _ := (f10 h6.n lG9 (fun e => by have := rgG _ e; omega) (live_solo oG9)).trans oG9
  have oW10 : h10.ob h2.n = _ := (lo10 h2.n (by omega)).trans oW9
  have oA10 : h10.ob h.n = _ := (lo10 h.n (by omega)).trans oA9
  have lW10 : h2.n < h10.n := by omega
  have lG10 : h6.n < h10.n := by omega
  have la10 : h.n < h10.n := by omega
  have wo10 := wo9.keep n10 (fun i e => lo10 i (by have := (rgW i e).2; omega))
  simp (maxSteps := 1000000) -implicitDefEqProofs only [push_cast, seval, oG10, rd_of oG10, rd1_of oG10, lG10, ygA, ygB]
  with_reducible refine CD.to (hH h10 gM) ?_
  simp (maxSteps := 1000000) -implicitDefEqProofs only [push_cast, seval]
  with_reducible refine bcase_d (fun hb10 => ?_) (fun hb10 => ?_)
  · exfalso; omega
  simp (maxSteps := 1000000) -implicitDefEqProofs only [push_cast, seval, oA10, rd_of oA10, rd1_of oA10, la10, u00, u01]
  with_reducible refine CC.mono (toProgram_c L R vN vR _ (r0.pre q10) hz) (fun v h11 hv => ?_)
  with_reducible refine Exists.elim hv (fun a11 hw => ?_)
  with_reducible refine Exists.elim hw (fun b11 hw => ?_)
  with_reducible refine Exists.elim hw (fun D11 hw => ?_)
  have e1 := hw.1
  have m11 := hw.2.1
  have r11 := hw.2.2.1
  have p11 := hw.2.2.2.1
  have s11 := hw.2.2.2.2
  clear hv hw
  subst e1
  have z11 := hz.of m11
  have u110 := r11.nodes.one
  have u111 := r11.rules.one
  have n11 := p11.n
  simp (maxSteps := 1000000) -implicitDefEqProofs only [push_cast, seval, u110, u111]
  with_reducible refine CC.mono (Compile_i (h := h11) (L := D11) (vN := a11) (vR := b11) (R := R) r11 z11) (fun v h12 hv => ?_)
  have hv := CmpV.of m11 hv
  unfold CmpV at hv
  rw [hC, hb] at hv
  with_reducible refine Exists.elim hv (fun xA hw => ?_)
  with_reducible refine Exists.elim hw (fun xB hw => ?_)
  have e1 := hw.1
  have xAo := hw.2.1.1
  have xAl := hw.2.1.2
  have p12 := hw.2.2
  clear hv hw
  subst e1
  have n12 := p12.n
  have yxA := xAo.one.1
  have yxB := xAo.one.2
  simp (maxSteps := 1000000) -implicitDefEqProofs only [push_cast, seval, yxA, yxB]
  have nb := newbox h12 [Value.slice none 0 0, Value.slice none 0 0, Value.int .i64 0, Value.int .i64 0, Value.int .i64 0] [xA, xB, .int .i64 0, .int .i64 C.line, .int .i64 C.fin]
  have p13 := nb.1
  have o13 := nb.2.1
  have n13 := nb.2.2
  clear nb
  generalize ((h12.alloc (.cells [Value.slice none 0 0, Value.slice none 0 0, Value.int .i64 0, Value.int .i64 0, Value.int .i64 0] .solo h12.n)).set h12.n (.cells [xA, xB, .int .i64 0, .int .i64 C.line, .int .i64 C.fin] .solo h12.n)) = h13 at *
  have P13 := (p11.trans p12).trans p13
  have oG13 : h13.ob h6.n = _ := (P13.ob _ lG10).trans oG10
  have oW13 : h13.ob h2.n = _ := (P13.ob _ lW10).trans oW10
  have lW13 : h2.n < h13.n := by omega
  have lG13 : h6.n < h13.n := by omega
  have lX13 : h12.n < h13.n := by omega
  have wo13 := wo10.pre P13
  have xo13 := xAo.pre p13
  have gM13 : MkC h13 gA gB nv nc 1 := gM.keep P13.n (fun i e => P13.ob i (by
    obtain ⟨n0, n1, a, b⟩ := gM
    rcases e with e | e
    · exact (a.range e).2
    · exact (b.range e).2))
  simp (maxSteps := 1000000) -implicitDefEqProofs only [push_cast, seval, o13, rd_of o13, rd1_of o13, oW13, rd_of oW13, rd1_of oW13, lX13, lW13, ywA, ywB, yxA, yxB]
  with_reducible refine CD.to (eqCode_own _ _ _ _ _ _ _ _ xo13 wo13 b0 zS.1 zS.2) ?_
  simp (maxSteps := 1000000) -implicitDefEqProofs only [push_cast, seval, oo]
  simp (maxSteps := 1000000) -implicitDefEqProofs only [push_cast, seval, oG13, rd_of oG13, rd1_of oG13, lG13, ygA, ygB]
  with_reducible refine CD.to (hH h13 gM13) ?_
  simp (maxSteps := 1000000) -implicitDefEqProofs only [push_cast, seval]
  with_reducible refine bcase_d (fun hb13 => ?_) (fun hb13 => ?_)
  · exfalso; omega
  simp (maxSteps := 1000000) -implicitDefEqProofs only [push_cast, seval]
end Go.Proofs.YtdlpdfclljnmhaaGreat
