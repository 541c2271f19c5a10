/- Parts of the proof of the row: the ground, contracts of the functions that it reaches (C5, C6, C7, C11, C8, C4, C9, C12). Conditions: those that each theorem names. -/
import Derived.Test.YtcggnolnakgkeaaB4
namespace Go.Proofs.Ytcggnolnakgkeaa
open Go Go.Sim Go.Proofs
set_option linter.unusedSimpArgs false
set_option linter.unusedVariables false
set_option maxRecDepth 100000
set_option maxHeartbeats 1000000
theorem acut_sl3 {P : Program} (t : TypeId) (id off n k : Nat) (lo hi mx : Value) (K : Value → Prop) : acut P t (.slice (some ⟨id, off, none⟩) n k) (some lo) (some hi) (some mx) K = onS (si P t) fun p => k = p.2.size ∧
    onS (bnd (some lo) 0) fun l => onS (bnd (some hi) n) fun u => onS (bnd (some mx) n) fun m => 0 ≤ l ∧ l ≤ u ∧ u ≤ (n : Int) ∧ u ≤ m ∧ m ≤ (n : Int) ∧ K (.slice (some ⟨id, off + l.toNat * p.2.size, none⟩) (u.toNat - l.toNat) k) := by
  unfold acut onS
  cases si P t with
  | none => rfl
  | some p =>
    obtain ⟨e, i⟩ := p
    simp only [Option.isSome_some, true_implies, forall_const, true_and]
    cases bnd (some lo) 0 <;> cases bnd (some hi) n <;> cases bnd (some mx) n <;> simp [and_assoc]
theorem take_10 {α : Type} (a0 a1 a2 a3 a4 a5 a6 a7 a8 a9 : α) (r : List α) : List.take 10 (a0 :: a1 :: a2 :: a3 :: a4 :: a5 :: a6 :: a7 :: a8 :: a9 :: r) = [a0, a1, a2, a3, a4, a5, a6, a7, a8, a9] := rfl
theorem drop_11 {α : Type} (a0 a1 a2 a3 a4 a5 a6 a7 a8 a9 b : α) (r : List α) : List.drop (10 + 1) (a0 :: a1 :: a2 :: a3 :: a4 :: a5 :: a6 :: a7 :: a8 :: a9 :: b :: r) = r := rfl
theorem Chunk_c (A : Option Addr) (len : Nat) (n : Int) (h : AH) (hn : 1 ≤ n) :
    CC Try.prog 20 [.slice A len 1, .int .i64 n] h (fun v h' => v = .func (.func 26) #[] #[.pointer (some ⟨h.n, 0, none⟩), .pointer (some ⟨h.n + 1, 0, none⟩)] ∧ h' = (h.alloc (.cells [.slice A len 1] .solo h.n)).alloc (.cells [.int .i64 n] .solo (h.n + 1))) := by
  refine CC.ofN Try.func20 Try.ntmps20 Try.results20 rfl (by decide) (by kernel_rfl) ?_
  simp (maxSteps := 1000000) -implicitDefEqProofs only [push_cast, seval]
  with_reducible refine bcase_d (fun hb => ?_) (fun hb => ?_)
  · exfalso; omega
  · simp (maxSteps := 1000000) -implicitDefEqProofs only [push_cast, seval]
    simp [aev]
theorem YX.mono {P : Program} {FB : Nat → Prop} {w0 : World} {μ0 : Nat → Option Sim.Loc} {l : Nat} {args : List Value} {h : AH} {R R' : Value → AH → Prop} (y : YX P FB w0 μ0 l args h R) (hr : ∀ v h', R v h' → R' v h') : YX P FB w0 μ0 l args h R' :=
  fun μ w cargs R2 hx s la hk => y μ w cargs R2 hx s la (fun v h' μ' cv w' r => hk v h' μ' cv w' (hr v h' r))
/-- The part that is handed on. -/
def argC (A : Option Addr) (N len k : Nat) : Value := match A with | some ⟨id, off, none⟩ => .slice (some ⟨id, off + k * N, none⟩) (min N (len - k * N)) 1 | _ => undef
theorem Chunk_it (A : Option Addr) (len N m : Nat) (b1 b2 : Nat) (J : Nat → AH → Prop) (hN : 0 < N) (hn : N ≤ 9223372036854775807) (hl : len ≤ 1048576) (hlt : ∀ k, k < m ↔ k * N < len) (hA : 0 < len → ∃ id off, A = some ⟨id, off, none⟩)
    (hJ : ∀ k h, J k h → h.ob b1 = .cells [.slice A len 1] .solo b1 ∧ h.ob b2 = .cells [.int .i64 (N : Nat)] .solo b2 ∧ b1 < h.n ∧ b2 < h.n) :
    Iter Try.prog 26 #[] #[.pointer (some ⟨b1, 0, none⟩), .pointer (some ⟨b2, 0, none⟩)] (argC A N len) m J := by
  intro FB w0 μ0 lb h j0 hy
  refine CX.ofN Try.func26 Try.ntmps26 Try.results26 rfl (by kernel_rfl) ?_
  simp (maxSteps := 1000000) -implicitDefEqProofs only [push_cast, seval]
  refine WX.reg (by kernel_rfl) ?_
  simp (maxSteps := 1000000) -implicitDefEqProofs only [push_cast, seval]
  refine WX.loopA (by kernel_rfl) [4] [5, 6, 7, 8, 9, 10, 11, 12, 13, 14, 15, 16, 17, 18, 19, 20, 21, 22, 23, 24, 25, 26, 27, 28, 29, 30] (fun a : Nat × Nat => [.int .i64 (a.2 : Nat)]) (fun a h' => (a.1 ≤ m ∧ a.2 = a.1 * N) ∧ J a.1 h') (fun a => m - a.1) (0, 0) (by kernel_rfl) ⟨⟨Nat.zero_le _, by simp⟩, j0⟩ ?_
  intro a g h1 hJ1
  have hk := hJ1.1.1
  have ha := hJ1.1.2
  have hj := hJ1.2
  clear hJ1
  have hb := hJ _ _ hj
  have o1 := hb.1
  have o2 := hb.2.1
  have l1 := hb.2.2.1
  have l2 := hb.2.2.2
  clear hb
  simp (maxSteps := 1000000) -implicitDefEqProofs only [push_cast, seval]
  refine WX.reg (by kernel_rfl) ?_
  simp (maxSteps := 1000000) -implicitDefEqProofs only [push_cast, seval, o1, rd_of o1, rd1_of o1, o2, rd_of o2, rd1_of o2, l1, l2]
  with_reducible refine bcase_d (fun hb => ?_) (fun hb => ?_)
  · have hkm : a.1 < m := (hlt _).2 (by omega)
    have hpos : 0 < len := by omega
    have hyk := hy a.1 hkm h1 hj
    with_reducible refine Exists.elim (hA hpos) (fun id eA => ?_)
    with_reducible refine Exists.elim eA (fun off eA => ?_)
    subst eA
    simp (maxSteps := 1000000) -implicitDefEqProofs only [push_cast, seval]
    refine WC.x (WC.draw' (by kernel_rfl) (by kernel_rfl) (.q 0 (.q 1 (.q 2 (.q 3 (.q 4 (.a 5 false (.q 6 (.done)))))))) (by kernel_rfl) ?_)
    simp (maxSteps := 1000000) -implicitDefEqProofs only [push_cast, seval, o1, rd_of o1, rd1_of o1, o2, rd_of o2, rd1_of o2, l1, l2]
    refine And.intro (by omega) (And.intro (by omega) (And.intro (by omega) ?_))
    with_reducible refine nameN (min N (len - a.2)) (fun E hE => ?_)
    have w3 : min ((N : Nat) : Int) ((len - a.2 : Nat) : Int) = (E : Nat) := by omega
    have w4 : IntKind.i64.wrap ((a.2 : Int) + (E : Int)) = ((a.2 + E : Nat) : Int) := by rw [w64 (by omega) (by omega)]; omega
    refine WX.yieldK (lb := lb) 10 (by kernel_rfl) (by kernel_rfl) (by decide) rfl rfl rfl ?_
    rw [take_10, drop_11]
    simp (maxSteps := 1000000) -implicitDefEqProofs only [push_cast, seval, o1, rd_of o1, rd1_of o1, o2, rd_of o2, rd1_of o2, l1, l2, acut_sl3, w3, w4]
    refine And.intro (by omega) (And.intro (by omega) (And.intro (by omega) (And.intro (by omega) (And.intro (by omega) ?_))))
    have eV : Value.slice (some ⟨id, off + a.2 * 1, none⟩) (((a.2 : Int) + (E : Int)).toNat - a.2) 1 = argC (some ⟨id, off, none⟩) N len a.1 := by
      unfold argC
      rw [← ha, Nat.mul_one, ← hE, show ((a.2 : Int) + (E : Int)).toNat - a.2 = E by omega]
    rw [eV]
    refine YX.mono hyk (fun v h2 hv => ?_)
    have e1 := hv.1
    have hj2 := hv.2
    clear hv hyk
    subst e1
    have hb2 := hJ _ _ hj2
    have o3 := hb2.1
    have o4 := hb2.2.1
    have l3 := hb2.2.2.1
    have l4 := hb2.2.2.2
    clear hb2
    have hs : (a.1 + 1) * N = a.1 * N + N := Nat.succ_mul _ _
    have hov : a.2 + N ≤ 9223372036854775807 := by
      by_cases e : a.1 = 0
      · rw [ha, e]; omega
      · have : 1 * N ≤ a.1 * N := Nat.mul_le_mul_right N (by omega)
        omega
    have w5 : IntKind.i64.wrap ((a.2 : Int) + (N : Int)) = ((a.2 + N : Nat) : Int) := by rw [w64 (by omega) (by omega)]; omega
    simp (maxSteps := 1000000) -implicitDefEqProofs only [push_cast, seval]
    refine WX.reg (by kernel_rfl) ?_
    simp (maxSteps := 1000000) -implicitDefEqProofs only [push_cast, seval, o4, rd_of o4, rd1_of o4, l4, w5]
    exact ⟨(a.1 + 1, a.2 + N), by kernel_rfl, ⟨⟨by show a.1 + 1 ≤ m; omega, by show a.2 + N = (a.1 + 1) * N; omega⟩, hj2⟩, by show m - (a.1 + 1) < m - a.1; omega⟩
  · have hkm : ¬ a.1 < m := fun e => by have := (hlt _).1 e; omega
    have e : a.1 = m := by omega
    rw [e] at hj
    simp (maxSteps := 1000000) -implicitDefEqProofs only [push_cast, seval]
    exact hj
end Go.Proofs.Ytcggnolnakgkeaa
namespace Go.Proofs.Ytcggnolnakgkeaa
open Go Go.Sim Go.Proofs
set_option linter.unusedSimpArgs false
set_option linter.unusedVariables false
set_option maxRecDepth 100000
set_option maxHeartbeats 1000000
/-- Between two rounds: the box of the parts, the iterator's two boxes. -/
structure Rnd (h : AH) (A : Option Addr) (l : List ByteArray) (N k : Nat) (v : Value) (L : List (List ByteArray × Value)) (h' : AH) : Prop where
  box : h'.ob (h.n + 1) = .cells [v] .solo (h.n + 1)
  sl : h'.ob (h.n + 2) = .cells [.slice A l.length 1] .solo (h.n + 2)
  num : h'.ob (h.n + 3) = .cells [.int .i64 (N : Nat)] .solo (h.n + 3)
  n : h.n + 4 ≤ h'.n
  parts : Parts h.n h' v L
  eq : L.map Prod.fst = cks N l k
  pre : Pre h h'
  far : ∀ i, atBlock v i → i = h.n ∨ h.n + 4 ≤ i
  farL : ∀ x ∈ L, ∀ i, atBlock x.2 i → h.n + 4 ≤ i
theorem part_arg {h : AH} {A : Option Addr} {l : List ByteArray} (r : Lns h A l) {N k : Nat} (hk : k * N < l.length) : RdV h (argC A N l.length k) 1 encTx (ck N l k) := by
  obtain ⟨id, off, rfl, hr, hid⟩ := r (by omega)
  have e : (l.drop (k * N)).take N = (l.drop (k * N)).take (min N (l.length - k * N)) := by
    rcases Nat.le_total N (l.length - k * N) with e | e
    · rw [Nat.min_eq_left e]
    · rw [Nat.min_eq_right e, List.take_of_length_le (by rw [List.length_drop]; exact e), List.take_of_length_le (by rw [List.length_drop]; exact Nat.le_refl _)]
  unfold argC ck
  rw [e]
  exact part_rdv hr hid (by omega)
theorem CutLines_i (n : Int) (l : List ByteArray) (A : Option Addr) (h : AH) (r : Lns h A l) (hl : l.length ≤ 1048576) (hn : n ≤ 9223372036854775807) :
    CC Try.prog 7 [.slice A l.length 1, .int .i64 n] h (fun v h' => ∃ L, Parts h.n h' v L ∧ L.map Prod.fst = cutL n l ∧ Pre h h') := by
  have hN := partN_pos n l.length
  have hq1 : n < 1 → max (l.length : Int) 1 = (partN n l.length : Nat) := fun e => by unfold partN; rw [if_pos e]; omega
  have hq2 : ¬ n < 1 → n = (partN n l.length : Nat) := fun e => by unfold partN; rw [if_neg e]; omega
  have hq3 : partN n l.length ≤ 9223372036854775807 := by unfold partN; split <;> omega
  have hcl : cutL n l = cks (partN n l.length) l (nck (partN n l.length) l.length) := rfl
  generalize partN n l.length = N at *
  have hlt := fun k => lt_nck (N := N) (len := l.length) (k := k) hN
  generalize nck N l.length = m at *
  refine CE.call (by kernel_rfl) ?_
  refine CE.ofFN Try.func7 Try.ntmps7 rfl ?_
  simp (maxSteps := 1000000) -implicitDefEqProofs only [push_cast, seval]
  refine WF.step (by kernel_rfl) ?_
  simp (maxSteps := 1000000) -implicitDefEqProofs only [push_cast, seval]
  refine WF.step (by kernel_rfl) ?_
  simp (maxSteps := 1000000) -implicitDefEqProofs only [push_cast, seval]
  refine WF.step (by kernel_rfl) ?_
  simp (maxSteps := 1000000) -implicitDefEqProofs only [push_cast, seval]
  with_reducible refine bcase_d (fun hb => ?_) (fun hb => ?_)
  · have hq := hq1 hb
    simp (maxSteps := 1000000) -implicitDefEqProofs only [push_cast, seval, hq]
    refine WF.rangeN (by kernel_rfl) (by kernel_rfl) (by kernel_rfl) Try.results7 ?_
    simp (maxSteps := 1000000) -implicitDefEqProofs only [push_cast, seval]
    with_reducible refine CC.mono (Chunk_c A l.length (N : Int) _ (by omega)) (fun v h1 hv => ?_)
    have e1 := hv.1
    have e2 := hv.2
    clear hv
    subst e1
    have g0 : Rnd h A l N 0 (.slice (some ⟨h.n, 0, none⟩) 0 1) [] h1 := by
      subst e2
      refine ⟨by simp (maxSteps := 1000000) -implicitDefEqProofs only [push_cast, seval]; try rfl, by simp (maxSteps := 1000000) -implicitDefEqProofs only [push_cast, seval]; try rfl, by simp (maxSteps := 1000000) -implicitDefEqProofs only [push_cast, seval]; try rfl, by simp only [alloc_n, set_n]; omega, ?_, by simp [cks_zero], ?_, fun i e => .inl (by have e' : h.n = i := e; omega), fun x hx => (by cases hx)⟩
      · exact Parts.nil (.inr ⟨h.n, 0, 0, rfl, Nat.le_refl _, ⟨by simp only [alloc_n, set_n]; omega, rfl, [], .solo, h.n, by simp (maxSteps := 1000000) -implicitDefEqProofs only [push_cast, seval], .inl rfl, rfl, rfl⟩⟩)
      · exact ((((Pre.refl h).alloc _).alloc _).set (by omega) _ |>.alloc _).alloc _
    clear e2
    simp (maxSteps := 1000000) -implicitDefEqProofs only [push_cast, seval]
    refine ⟨26, #[], #[.pointer (some ⟨h.n + 2, 0, none⟩), .pointer (some ⟨h.n + 3, 0, none⟩)], argC A N l.length, m, fun k h' => ∃ v L, Rnd h A l N k v L h', ?_⟩
    refine { fv := rfl, cb := by kernel_rfl, j0 := ⟨_, [], g0⟩, it := Chunk_it A l.length N m (h.n + 2) (h.n + 3) _ hN hq3 hl hlt (fun h0 => ?_) (fun k h' hj => ?_), round := fun lb k h2 hkm hj => ?_, behind := fun h2 hj => ?_ }
    · obtain ⟨id, off, e, _⟩ := Lns.at r h0
      exact ⟨id, off, e⟩
    · obtain ⟨v, L, q⟩ := hj
      have := q.n
      exact ⟨q.sl, q.num, by omega, by omega⟩
    · with_reducible refine Exists.elim hj (fun v hj => ?_)
      with_reducible refine Exists.elim hj (fun L q => ?_)
      clear hj
      have hkl := (hlt k).1 hkm
      have hrv := part_arg (Lns.pre r q.pre) hkl
      have o1 := q.box
      have hn2 := q.n
      have l1 : h.n + 1 < h2.n := by omega
      have hcl2 : (ck N l k).length ≤ l.length := by rw [ck_len]; omega
      have hLl : L.length = k := by have := congrArg List.length q.eq; rw [List.length_map, cks_len] at this; exact this
      have hkN : k ≤ k * N := Nat.le_mul_of_pos_right _ hN
      generalize hV : argC A N l.length k = V at *
      simp (maxSteps := 1000000) -implicitDefEqProofs only [push_cast, seval]
      refine WR.reg (by kernel_rfl) (by kernel_rfl) ?_
      simp (maxSteps := 1000000) -implicitDefEqProofs only [push_cast, seval]
      refine WR.blkR ?_
      refine WR.draw' (by kernel_rfl) (by kernel_rfl) (by kernel_rfl) (.q 0 (.q 1 (.a 2 false (.a 3 false (.a 4 false (.a 5 true (.done))))))) (by kernel_rfl) ?_
      simp (maxSteps := 1000000) -implicitDefEqProofs only [push_cast, seval, o1, rd_of o1, rd1_of o1, l1]
      with_reducible refine CC.mono (copyTexts_c V (ck N l k) h2 hrv (by omega)) (fun u h3 hv => ?_)
      have e3 := hv.1
      have w3 := hv.2.1
      have p3 := hv.2.2
      clear hv
      subst e3
      have n3 := p3.n
      have o3 : h3.ob (h.n + 1) = .cells [v] .solo (h.n + 1) := (p3.ob _ l1).trans o1
      have l3 : h.n + 1 < h3.n := by omega
      simp (maxSteps := 1000000) -implicitDefEqProofs only [push_cast, seval, o1, rd_of o1, rd1_of o1, o3, rd_of o3, rd1_of o3, l1, l3]
      refine Gr.app1 (h0 := h) si27 (by decide) (by decide) (notInt_sl und27) (q.parts.pre p3).out (q.pre.trans p3) rfl (by rw [List.length_map, hLl]; omega) (by omega) (fun h4 g4 w4 p4 n4 f4 => ?_)
      have hfar : ∀ i, i = h.n + 1 ∨ i = h.n + 2 ∨ i = h.n + 3 → ¬ atBlock v i := fun i hi e => by have := q.far i e; omega
      have o4 : h4.ob (h.n + 1) = .cells [v] .solo (h.n + 1) := (f4 _ (by omega) (hfar _ (.inl rfl))).trans o3
      have l4 : h.n + 1 < h4.n := by omega
      simp (maxSteps := 1000000) -implicitDefEqProofs only [push_cast, seval, o1, rd_of o1, rd1_of o1, o3, rd_of o3, rd1_of o3, o4, rd_of o4, rd1_of o4, l1, l3, l4]
      have sn := q.parts.snoc p3 (by omega) (by omega) w3 g4 (by omega) (by omega) f4
      have q4 : Pre h (h4.set (h.n + 1) (.cells [.slice (some ⟨h3.n + 1, 0, none⟩) ((List.map Prod.snd L).length / 1 + 1) 1] .solo (h.n + 1))) := p4.set (by omega) _
      have far4 : ∀ i, (atBlock (.slice (some ⟨h3.n + 1, 0, none⟩) ((List.map Prod.snd L).length / 1 + 1) 1) i ∨ ∃ x ∈ L ++ [(ck N l k, .slice (some ⟨h2.n + 1, 0, none⟩) (ck N l k).length 1)], atBlock x.2 i) → h.n + 4 ≤ i := by
        rintro i (e | ⟨x, hx, e⟩)
        · have e' : h3.n + 1 = i := e
          omega
        · rcases List.mem_append.1 hx with hx | hx
          · exact q.farL x hx i e
          · obtain rfl : x = (ck N l k, .slice (some ⟨h2.n + 1, 0, none⟩) (ck N l k).length 1) := by simpa using hx
            have e' : h2.n + 1 = i := e
            omega
      refine ⟨_, L ++ [(ck N l k, _)], set_same _ _, (set_ne _ (by omega)).trans ((f4 _ (by omega) (hfar _ (by omega))).trans ((p3.ob _ (by omega)).trans q.sl)), (set_ne _ (by omega)).trans ((f4 _ (by omega) (hfar _ (by omega))).trans ((p3.ob _ (by omega)).trans q.num)), by show h.n + 4 ≤ h4.n; omega,
        sn.keep (Nat.le_refl _) (fun i hi => set_ne _ (by have := far4 i hi; omega)), by rw [List.map_append, q.eq, cks_succ]; rfl, q4, fun i e => .inr (far4 i (.inl e)), fun x hx i e => far4 i (.inr ⟨x, hx, e⟩)⟩
    · with_reducible refine Exists.elim hj (fun v hj => ?_)
      with_reducible refine Exists.elim hj (fun L q => ?_)
      have o1 := q.box
      have hn2 := q.n
      have l1 : h.n + 1 < h2.n := by omega
      simp (maxSteps := 1000000) -implicitDefEqProofs only [push_cast, seval, o1, rd_of o1, rd1_of o1, l1]
      exact ⟨L, q.parts, by rw [q.eq, hcl], q.pre⟩
  · have hq := hq2 hb
    simp (maxSteps := 1000000) -implicitDefEqProofs only [push_cast, seval, hq]
    refine WF.rangeN (by kernel_rfl) (by kernel_rfl) (by kernel_rfl) Try.results7 ?_
    simp (maxSteps := 1000000) -implicitDefEqProofs only [push_cast, seval]
    with_reducible refine CC.mono (Chunk_c A l.length (N : Int) _ (by omega)) (fun v h1 hv => ?_)
    have e1 := hv.1
    have e2 := hv.2
    clear hv
    subst e1
    have g0 : Rnd h A l N 0 (.slice (some ⟨h.n, 0, none⟩) 0 1) [] h1 := by
      subst e2
      refine ⟨by simp (maxSteps := 1000000) -implicitDefEqProofs only [push_cast, seval]; try rfl, by simp (maxSteps := 1000000) -implicitDefEqProofs only [push_cast, seval]; try rfl, by simp (maxSteps := 1000000) -implicitDefEqProofs only [push_cast, seval]; try rfl, by simp only [alloc_n, set_n]; omega, ?_, by simp [cks_zero], ?_, fun i e => .inl (by have e' : h.n = i := e; omega), fun x hx => (by cases hx)⟩
      · exact Parts.nil (.inr ⟨h.n, 0, 0, rfl, Nat.le_refl _, ⟨by simp only [alloc_n, set_n]; omega, rfl, [], .solo, h.n, by simp (maxSteps := 1000000) -implicitDefEqProofs only [push_cast, seval], .inl rfl, rfl, rfl⟩⟩)
      · exact ((((Pre.refl h).alloc _).alloc _).set (by omega) _ |>.alloc _).alloc _
    clear e2
    simp (maxSteps := 1000000) -implicitDefEqProofs only [push_cast, seval]
    refine ⟨26, #[], #[.pointer (some ⟨h.n + 2, 0, none⟩), .pointer (some ⟨h.n + 3, 0, none⟩)], argC A N l.length, m, fun k h' => ∃ v L, Rnd h A l N k v L h', ?_⟩
    refine { fv := rfl, cb := by kernel_rfl, j0 := ⟨_, [], g0⟩, it := Chunk_it A l.length N m (h.n + 2) (h.n + 3) _ hN hq3 hl hlt (fun h0 => ?_) (fun k h' hj => ?_), round := fun lb k h2 hkm hj => ?_, behind := fun h2 hj => ?_ }
    · obtain ⟨id, off, e, _⟩ := Lns.at r h0
      exact ⟨id, off, e⟩
    · obtain ⟨v, L, q⟩ := hj
      have := q.n
      exact ⟨q.sl, q.num, by omega, by omega⟩
    · with_reducible refine Exists.elim hj (fun v hj => ?_)
      with_reducible refine Exists.elim hj (fun L q => ?_)
      clear hj
      have hkl := (hlt k).1 hkm
      have hrv := part_arg (Lns.pre r q.pre) hkl
      have o1 := q.box
      have hn2 := q.n
      have l1 : h.n + 1 < h2.n := by omega
      have hcl2 : (ck N l k).length ≤ l.length := by rw [ck_len]; omega
      have hLl : L.length = k := by have := congrArg List.length q.eq; rw [List.length_map, cks_len] at this; exact this
      have hkN : k ≤ k * N := Nat.le_mul_of_pos_right _ hN
      generalize hV : argC A N l.length k = V at *
      simp (maxSteps := 1000000) -implicitDefEqProofs only [push_cast, seval]
      refine WR.reg (by kernel_rfl) (by kernel_rfl) ?_
      simp (maxSteps := 1000000) -implicitDefEqProofs only [push_cast, seval]
      refine WR.blkR ?_
      refine WR.draw' (by kernel_rfl) (by kernel_rfl) (by kernel_rfl) (.q 0 (.q 1 (.a 2 false (.a 3 false (.a 4 false (.a 5 true (.done))))))) (by kernel_rfl) ?_
      simp (maxSteps := 1000000) -implicitDefEqProofs only [push_cast, seval, o1, rd_of o1, rd1_of o1, l1]
      with_reducible refine CC.mono (copyTexts_c V (ck N l k) h2 hrv (by omega)) (fun u h3 hv => ?_)
      have e3 := hv.1
      have w3 := hv.2.1
      have p3 := hv.2.2
      clear hv
      subst e3
      have n3 := p3.n
      have o3 : h3.ob (h.n + 1) = .cells [v] .solo (h.n + 1) := (p3.ob _ l1).trans o1
      have l3 : h.n + 1 < h3.n := by omega
      simp (maxSteps := 1000000) -implicitDefEqProofs only [push_cast, seval, o1, rd_of o1, rd1_of o1, o3, rd_of o3, rd1_of o3, l1, l3]
      refine Gr.app1 (h0 := h) si27 (by decide) (by decide) (notInt_sl und27) (q.parts.pre p3).out (q.pre.trans p3) rfl (by rw [List.length_map, hLl]; omega) (by omega) (fun h4 g4 w4 p4 n4 f4 => ?_)
      have hfar : ∀ i, i = h.n + 1 ∨ i = h.n + 2 ∨ i = h.n + 3 → ¬ atBlock v i := fun i hi e => by have := q.far i e; omega
      have o4 : h4.ob (h.n + 1) = .cells [v] .solo (h.n + 1) := (f4 _ (by omega) (hfar _ (.inl rfl))).trans o3
      have l4 : h.n + 1 < h4.n := by omega
      simp (maxSteps := 1000000) -implicitDefEqProofs only [push_cast, seval, o1, rd_of o1, rd1_of o1, o3, rd_of o3, rd1_of o3, o4, rd_of o4, rd1_of o4, l1, l3, l4]
      have sn := q.parts.snoc p3 (by omega) (by omega) w3 g4 (by omega) (by omega) f4
      have q4 : Pre h (h4.set (h.n + 1) (.cells [.slice (some ⟨h3.n + 1, 0, none⟩) ((List.map Prod.snd L).length / 1 + 1) 1] .solo (h.n + 1))) := p4.set (by omega) _
      have far4 : ∀ i, (atBlock (.slice (some ⟨h3.n + 1, 0, none⟩) ((List.map Prod.snd L).length / 1 + 1) 1) i ∨ ∃ x ∈ L ++ [(ck N l k, .slice (some ⟨h2.n + 1, 0, none⟩) (ck N l k).length 1)], atBlock x.2 i) → h.n + 4 ≤ i := by
        rintro i (e | ⟨x, hx, e⟩)
        · have e' : h3.n + 1 = i := e
          omega
        · rcases List.mem_append.1 hx with hx | hx
          · exact q.farL x hx i e
          · obtain rfl : x = (ck N l k, .slice (some ⟨h2.n + 1, 0, none⟩) (ck N l k).length 1) := by simpa using hx
            have e' : h2.n + 1 = i := e
            omega
      refine ⟨_, L ++ [(ck N l k, _)], set_same _ _, (set_ne _ (by omega)).trans ((f4 _ (by omega) (hfar _ (by omega))).trans ((p3.ob _ (by omega)).trans q.sl)), (set_ne _ (by omega)).trans ((f4 _ (by omega) (hfar _ (by omega))).trans ((p3.ob _ (by omega)).trans q.num)), by show h.n + 4 ≤ h4.n; omega,
        sn.keep (Nat.le_refl _) (fun i hi => set_ne _ (by have := far4 i hi; omega)), by rw [List.map_append, q.eq, cks_succ]; rfl, q4, fun i e => .inr (far4 i (.inl e)), fun x hx i e => far4 i (.inr ⟨x, hx, e⟩)⟩
    · with_reducible refine Exists.elim hj (fun v hj => ?_)
      with_reducible refine Exists.elim hj (fun L q => ?_)
      have o1 := q.box
      have hn2 := q.n
      have l1 : h.n + 1 < h2.n := by omega
      simp (maxSteps := 1000000) -implicitDefEqProofs only [push_cast, seval, o1, rd_of o1, rd1_of o1, l1]
      exact ⟨L, q.parts, by rw [q.eq, hcl], q.pre⟩
end Go.Proofs.Ytcggnolnakgkeaa
namespace Go.Proofs.Ytcggnolnakgkeaa
open Go Go.Sim Go.Proofs
set_option linter.unusedSimpArgs false
set_option linter.unusedVariables false
set_option maxRecDepth 100000
set_option maxHeartbeats 1000000
abbrev Part := List ByteArray × Value
def encP (x : Part) : List Value := [x.2]
theorem flat_p (L : List Part) : (L.map encP).flatten = L.map Prod.snd := by
  induction L with
  | nil => rfl
  | cons x r ih => rw [List.map_cons, List.flatten_cons, ih]; rfl
/-- Parts that are read. -/
structure RdPs (h : AH) (v : Value) (L : List Part) : Prop where
  out : RdV h v 1 encP L
  inn : ∀ x ∈ L, RdV h x.2 1 encTx x.1 ∧ x.1.length ≤ 1048576
theorem Parts.rd {n0 : Nat} {h : AH} {v : Value} {L : List Part} (p : Parts n0 h v L) (hz : ∀ x ∈ L, x.1.length ≤ 1048576) : RdPs h v L := by
  refine ⟨Gr.rdv (n0 := n0) (by rw [flat_p]; exact p.out) (by omega) (fun _ => rfl), fun x hx => ⟨?_, hz x hx⟩⟩
  obtain ⟨id, off, e, b, o⟩ := p.inn x hx
  rw [e]
  exact Gr.rdv (n0 := n0) (.inr ⟨id, off, _, rfl, b, by rw [flat_tx]; exact o⟩) (by omega) (fun _ => rfl)
theorem eqS_v (l m : List ByteArray) (v w : Value) (h : AH) (hA : RdV h v 1 encTx l) (hB : RdV h w 1 encTx m) (hl : l.length ≤ 1048576) (hm : m.length ≤ 1048576) : CD Try.prog 13 [v, w] h (.bool (decide (l = m))) h := by
  obtain ⟨A, ca, rfl, rA⟩ := hA.rde (fun _ => rfl)
  obtain ⟨B, cb, rfl, rB⟩ := hB.rde (fun _ => rfl)
  exact eqStringS_c l m A B ca cb h rA rB (by omega) (by omega)
theorem eqStringSS_c (L M : List Part) (v w : Value) (h : AH) (hA : RdPs h v L) (hB : RdPs h w M) (hl : L.length ≤ 1048576) (hm : M.length ≤ 1048576) :
    CD Try.prog 12 [v, w] h (.bool (decide (L.map Prod.fst = M.map Prod.fst))) h := by
  obtain ⟨A, ca, rfl, rA⟩ := hA.out.rde (fun _ => rfl)
  obtain ⟨B, cb, rfl, rB⟩ := hB.out.rde (fun _ => rfl)
  refine CD.withBig (fun big => ?_)
  refine CD.quiet ?_ (low_bool _ _)
  have lm : ∀ (i : Nat) (h1 : i < L.length) , (L.map Prod.fst)[i]'(by simpa using h1) = L[i].1 := fun i h1 => by simp
  have mm : ∀ (i : Nat) (h1 : i < M.length) , (M.map Prod.fst)[i]'(by simpa using h1) = M[i].1 := fun i h1 => by simp
  have ll : (L.map Prod.fst).length = L.length := by simp
  have ml : (M.map Prod.fst).length = M.length := by simp
  refine CC.ofN Try.func12 Try.ntmps12 Try.results12 rfl (by decide) (by kernel_rfl) ?_
  simp (maxSteps := 1000000) -implicitDefEqProofs only [push_cast, seval]
  with_reducible refine bcase_d (fun hb => ?_) (fun hb => ?_)
  rotate_left
  · simp (maxSteps := 1000000) -implicitDefEqProofs only [push_cast, seval]
    repeat' (first | with_reducible (first | exact Keep.refl _ _ | assumption | exact byte_lt _ _ | apply Keep.alloc | (refine Keep.set ?_ ?_; rotate_left; · omega) | apply Pre.alloc | apply Pre.set | exact Pre.refl _ | exact le_alloc _ | (refine Pre.keep ?_; assumption) | (refine Pre.n ?_; assumption)) | ((with_reducible (first | refine bcase_d (fun hb => ?_) (fun hb => ?_) | refine bcase_mk (fun hb => ?_) (fun hb => ?_))) <;> try simp (maxSteps := 1000000) -implicitDefEqProofs only [push_cast, seval]) | with_reducible refine And.intro ?_ ?_ | omega | (simp only [alloc_n, set_n, kill_n]; omega) | (exfalso; omega))
    have : L.map Prod.fst ≠ M.map Prod.fst := fun e => hb (by rw [← ll, ← ml, e])
    simp only [this, decide_false]
  have hlm : L.length = M.length := by omega
  simp (maxSteps := 1000000) -implicitDefEqProofs only [push_cast, seval]
  refine WC.loopA (by kernel_rfl) [5] [4, 11, 12, 13, 14, 15, 16, 17, 18, 19, 20, 21, 22, 23, 24, 25, 26] (fun a : Nat => [.int .i64 (a : Nat)]) (fun a h' => a ≤ L.length ∧ (L.map Prod.fst).take a = (M.map Prod.fst).take a ∧ Pre h h') (fun a => L.length - a) 0 (by kernel_rfl) ⟨Nat.zero_le _, by simp, Pre.refl _⟩ ?_
  intro a g h1 hJ
  have hi := hJ.1
  have he := hJ.2.1
  have hp := hJ.2.2
  clear hJ
  simp (maxSteps := 1000000) -implicitDefEqProofs only [push_cast, seval]
  with_reducible refine bcase_d (fun hb => ?_) (fun hb => ?_)
  · have hi' : a < L.length := by omega
    have hj' : a < M.length := by omega
    have iA := hA.inn _ (List.getElem_mem hi')
    have iB := hB.inn _ (List.getElem_mem hj')
    with_reducible refine rA.use big hp hi' (fun id off eA hlt hr => ?_)
    with_reducible refine rB.use big hp hj' (fun id2 off2 eB hlt2 hr2 => ?_)
    subst eA
    subst eB
    simp only [encP, Nat.mul_one] at hr hr2
    have r0 := rd_1 hr
    have r02 := rd_1 hr2
    simp (maxSteps := 1000000) -implicitDefEqProofs only [push_cast, seval, hr, r0, hlt, hr2, r02, hlt2, Nat.mul_one]
    refine WC.draw' (by kernel_rfl) (by kernel_rfl) (.q 0 (.q 1 (.q 2 (.q 3 (.q 4 (.q 5 (.q 6 (.q 7 (.a 8 false (.q 9 (.done))))))))))) (by kernel_rfl) ?_
    simp (maxSteps := 1000000) -implicitDefEqProofs only [push_cast, seval, hr, r0, hlt, hr2, r02, hlt2, Nat.mul_one]
    repeat (with_reducible refine And.intro ?_ ?_; · (first | omega | decide))
    with_reducible refine CD.to (eqS_v L[a].1 M[a].1 L[a].2 M[a].2 h1 (iA.1.pre hp) (iB.1.pre hp) iA.2 iB.2) ?_
    simp (maxSteps := 1000000) -implicitDefEqProofs only [push_cast, seval, hr, r0, hlt, hr2, r02, hlt2, Nat.mul_one]
    with_reducible refine bcase_d (fun hb2 => ?_) (fun hb2 => ?_)
    · simp (maxSteps := 1000000) -implicitDefEqProofs only [push_cast, seval]
      rw [wrapSucc (by omega)]
      exact ⟨a + 1, by kernel_rfl, ⟨by show a + 1 ≤ L.length; omega, take_next he (by omega) (by omega) (by rw [lm a hi', mm a hj']; exact hb2), hp⟩, by show L.length - (a + 1) < L.length - a; omega⟩
    · simp (maxSteps := 1000000) -implicitDefEqProofs only [push_cast, seval]
      have : L.map Prod.fst ≠ M.map Prod.fst := fun e => hb2 (by rw [← lm a hi', ← mm a hj']; simp only [e])
      exact ⟨by simp only [this, decide_false], hp.keep⟩
  · have hn : a = L.length := by omega
    subst hn
    simp (maxSteps := 1000000) -implicitDefEqProofs only [push_cast, seval]
    repeat' (first | with_reducible (first | exact Keep.refl _ _ | assumption | exact byte_lt _ _ | apply Keep.alloc | (refine Keep.set ?_ ?_; rotate_left; · omega) | apply Pre.alloc | apply Pre.set | exact Pre.refl _ | exact le_alloc _ | (refine Pre.keep ?_; assumption) | (refine Pre.n ?_; assumption)) | ((with_reducible (first | refine bcase_d (fun hb => ?_) (fun hb => ?_) | refine bcase_mk (fun hb => ?_) (fun hb => ?_))) <;> try simp (maxSteps := 1000000) -implicitDefEqProofs only [push_cast, seval]) | with_reducible refine And.intro ?_ ?_ | omega | (simp only [alloc_n, set_n, kill_n]; omega) | (exfalso; omega))
    have := take_full (l := L.map Prod.fst) (m := M.map Prod.fst) (by rw [ll]; exact he) (by omega)
    simp only [this, decide_true]
end Go.Proofs.Ytcggnolnakgkeaa
namespace Go.Proofs.Ytcggnolnakgkeaa
open Go Go.Sim Go.Proofs
set_option linter.unusedSimpArgs false
set_option linter.unusedVariables false
set_option maxRecDepth 100000
set_option maxHeartbeats 1000000
theorem sameTexts_c (l m : List ByteArray) (A B : Option Addr) (ca cb : Nat) (h : AH) (hA : RdE h A 1 encTx l) (hB : RdE h B 1 encTx m) (hl : l.length < 274877906944) (hm : m.length < 274877906944) :
    CD Try.prog 8 [.slice A l.length ca, .slice B m.length cb] h (.bool (decide (l = m))) h := by
  refine CD.withBig (fun big => ?_)
  refine CD.quiet ?_ (low_bool _ _)
  refine CC.ofN Try.func8 Try.ntmps8 Try.results8 rfl (by decide) (by kernel_rfl) ?_
  simp (maxSteps := 1000000) -implicitDefEqProofs only [push_cast, seval]
  with_reducible refine bcase_d (fun hb => ?_) (fun hb => ?_)
  rotate_left
  · simp (maxSteps := 1000000) -implicitDefEqProofs only [push_cast, seval]
    repeat' (first | with_reducible (first | exact Keep.refl _ _ | assumption | exact byte_lt _ _ | apply Keep.alloc | (refine Keep.set ?_ ?_; rotate_left; · omega) | apply Pre.alloc | apply Pre.set | exact Pre.refl _ | exact le_alloc _ | (refine Pre.keep ?_; assumption) | (refine Pre.n ?_; assumption)) | ((with_reducible (first | refine bcase_d (fun hb => ?_) (fun hb => ?_) | refine bcase_mk (fun hb => ?_) (fun hb => ?_))) <;> try simp (maxSteps := 1000000) -implicitDefEqProofs only [push_cast, seval]) | with_reducible refine And.intro ?_ ?_ | omega | (simp only [alloc_n, set_n, kill_n]; omega) | (exfalso; omega))
    have : l ≠ m := fun e => hb (by rw [e])
    simp [this]
  have hlm : l.length = m.length := by omega
  simp (maxSteps := 1000000) -implicitDefEqProofs only [push_cast, seval]
  refine WC.loopA (by kernel_rfl) [5] [4, 11, 12, 13, 14, 15, 16, 17, 18, 19, 20, 21, 22, 23, 24, 25] (fun a : Nat => [.int .i64 (a : Nat)]) (fun a h' => a ≤ l.length ∧ l.take a = m.take a ∧ Pre h h') (fun a => l.length - a) 0 (by kernel_rfl) ⟨Nat.zero_le _, by simp, Pre.refl _⟩ ?_
  intro a g h1 hJ
  have hi := hJ.1
  have he := hJ.2.1
  have hp := hJ.2.2
  clear hJ
  simp (maxSteps := 1000000) -implicitDefEqProofs only [push_cast, seval]
  with_reducible refine bcase_d (fun hb => ?_) (fun hb => ?_)
  · have hi' : a < l.length := by omega
    have hj' : a < m.length := by omega
    with_reducible refine hA.use big hp hi' (fun id off eA hlt hr => ?_)
    with_reducible refine hB.use big hp hj' (fun id2 off2 eB hlt2 hr2 => ?_)
    subst eA
    subst eB
    simp only [encTx, Nat.mul_one] at hr hr2
    have r0 := rd_1 hr
    have r02 := rd_1 hr2
    simp (maxSteps := 1000000) -implicitDefEqProofs only [push_cast, seval, hr, r0, hlt, hr2, r02, hlt2, Nat.mul_one]
    refine WC.draw' (by kernel_rfl) (by kernel_rfl) (.q 0 (.q 1 (.q 2 (.q 3 (.q 4 (.q 5 (.q 6 (.q 7 (.q 8 (.done)))))))))) (by kernel_rfl) ?_
    simp (maxSteps := 1000000) -implicitDefEqProofs only [push_cast, seval, hr, r0, hlt, hr2, r02, hlt2, Nat.mul_one]
    repeat (with_reducible refine And.intro ?_ ?_; · (first | omega | decide))
    with_reducible refine bcase_d (fun hb2 => ?_) (fun hb2 => ?_)
    · simp (maxSteps := 1000000) -implicitDefEqProofs only [push_cast, seval]
      rw [wrapSucc (by omega)]
      exact ⟨a + 1, by kernel_rfl, ⟨by show a + 1 ≤ l.length; omega, take_next he hi' hj' hb2, hp⟩, by show l.length - (a + 1) < l.length - a; omega⟩
    · simp (maxSteps := 1000000) -implicitDefEqProofs only [push_cast, seval]
      have : l ≠ m := fun e => by subst e; exact hb2 rfl
      exact ⟨by simp [this], hp.keep⟩
  · have hn : a = l.length := by omega
    subst hn
    simp (maxSteps := 1000000) -implicitDefEqProofs only [push_cast, seval]
    repeat' (first | with_reducible (first | exact Keep.refl _ _ | assumption | exact byte_lt _ _ | apply Keep.alloc | (refine Keep.set ?_ ?_; rotate_left; · omega) | apply Pre.alloc | apply Pre.set | exact Pre.refl _ | exact le_alloc _ | (refine Pre.keep ?_; assumption) | (refine Pre.n ?_; assumption)) | ((with_reducible (first | refine bcase_d (fun hb => ?_) (fun hb => ?_) | refine bcase_mk (fun hb => ?_) (fun hb => ?_))) <;> try simp (maxSteps := 1000000) -implicitDefEqProofs only [push_cast, seval]) | with_reducible refine And.intro ?_ ?_ | omega | (simp only [alloc_n, set_n, kill_n]; omega) | (exfalso; omega))
    have := take_full he hlm
    simp [this]
end Go.Proofs.Ytcggnolnakgkeaa
namespace Go.Proofs.Ytcggnolnakgkeaa
open Go Go.Sim Go.Proofs
set_option linter.unusedSimpArgs false
set_option linter.unusedVariables false
set_option maxRecDepth 100000
set_option maxHeartbeats 1000000
abbrev CPart := List Value × Value
/-- Slices of cells that are one's own: their slice, and each in a slice of its own. -/
structure PC (n0 : Nat) (h : AH) (v : Value) (L : List CPart) : Prop where
  out : Gr n0 h v 1 (L.map Prod.snd)
  inn : ∀ x ∈ L, ∃ id off, x.2 = .slice (some ⟨id, off, none⟩) x.1.length 1 ∧ n0 ≤ id ∧ Sim.Own h id off x.1.length 1 x.1
  apart : L.Pairwise fun x y => ∀ i, atBlock x.2 i → ¬ atBlock y.2 i
  ne : ∀ x ∈ L, ∀ i, atBlock x.2 i → ¬ atBlock v i
def PB (v : Value) (L : List CPart) (i : Nat) : Prop := atBlock v i ∨ ∃ x ∈ L, atBlock x.2 i
def cellsP (x : Part) : CPart := (x.1.map txV, x.2)
theorem Parts.pc {n0 : Nat} {h : AH} {v : Value} {L : List Part} (p : Parts n0 h v L) : PC n0 h v (L.map cellsP) := by
  refine ⟨by rw [List.map_map]; exact p.out, fun x hx => ?_, ?_, fun x hx => ?_⟩
  · obtain ⟨y, hy, rfl⟩ := List.mem_map.1 hx
    obtain ⟨id, off, e, b, o⟩ := p.inn y hy
    exact ⟨id, off, by simpa [cellsP] using e, b, by simpa [cellsP] using o⟩
  · exact List.pairwise_map.2 p.apart
  · obtain ⟨y, hy, rfl⟩ := List.mem_map.1 hx
    exact p.ne y hy
theorem PC.lt {n0 : Nat} {h : AH} {v : Value} {L : List CPart} (p : PC n0 h v L) {i : Nat} (e : PB v L i) : n0 ≤ i ∧ i < h.n := by
  rcases e with e | ⟨x, hx, e⟩
  · exact Gr.lt p.out e
  · obtain ⟨id, off, e1, b, o⟩ := p.inn x hx
    rw [e1] at e
    have e' : id = i := e
    subst e'
    exact ⟨b, o.lt⟩
theorem PC.live {n0 : Nat} {h : AH} {v : Value} {L : List CPart} (p : PC n0 h v L) {i : Nat} (e : PB v L i) : Sim.live h i := by
  rcases e with e | ⟨x, hx, e⟩
  · exact Gr.live p.out e
  · obtain ⟨id, off, e1, b, o⟩ := p.inn x hx
    rw [e1] at e
    have e' : id = i := e
    subst e'
    exact .inl o.line
theorem PC.keep {n0 : Nat} {h h' : AH} {v : Value} {L : List CPart} (p : PC n0 h v L) (hn : h.n ≤ h'.n) (e : ∀ i, PB v L i → h'.ob i = h.ob i) : PC n0 h' v L :=
  ⟨p.out.keep hn (fun i hi => e i (.inl hi)), fun x hx => by
    obtain ⟨id, off, e1, b, o⟩ := p.inn x hx
    exact ⟨id, off, e1, b, o.same (e id (.inr ⟨x, hx, by rw [e1]; rfl⟩)) hn⟩, p.apart, p.ne⟩
theorem PC.pre {n0 : Nat} {h h' : AH} {v : Value} {L : List CPart} (p : PC n0 h v L) (q : Pre h h') : PC n0 h' v L := p.keep q.n (fun i hi => q.ob i (p.lt hi).2)
theorem PC.upd {n0 : Nat} {h h' : AH} {v : Value} {A B : List CPart} {x : CPart} {cs : List Value} (p : PC n0 h v (A ++ x :: B)) (hn : h'.n = h.n) (hl : cs.length = x.1.length)
    (ho : ∀ id off, x.2 = .slice (some ⟨id, off, none⟩) x.1.length 1 → Sim.Own h' id off cs.length 1 cs) (hk : ∀ i, ¬ atBlock x.2 i → PB v (A ++ x :: B) i → h'.ob i = h.ob i) : PC n0 h' v (A ++ (cs, x.2) :: B) := by
  have hx : x ∈ A ++ x :: B := by simp
  have ap := p.apart
  rw [List.pairwise_append, List.pairwise_cons] at ap
  obtain ⟨apA, ⟨apx, apB⟩, apAB⟩ := ap
  refine ⟨?_, fun y hy => ?_, ?_, fun y hy => ?_⟩
  · have := p.out.keep (h' := h') (by omega) (fun i hi => hk i (fun e => p.ne x hx i e hi) (.inl hi))
    simpa using this
  · rcases List.mem_append.1 hy with hy | hy
    · have hy' : y ∈ A ++ x :: B := List.mem_append_left _ hy
      obtain ⟨id, off, e1, b, o⟩ := p.inn y hy'
      have hb : atBlock y.2 id := by rw [e1]; rfl
      exact ⟨id, off, e1, b, o.same (hk id (fun e => apAB y hy x (by simp) id hb e) (.inr ⟨y, hy', hb⟩)) (by omega)⟩
    · rcases List.mem_cons.1 hy with rfl | hy
      · obtain ⟨id, off, e1, b, o⟩ := p.inn x hx
        exact ⟨id, off, by rw [e1, hl], b, ho id off e1⟩
      · have hy' : y ∈ A ++ x :: B := by simp [hy]
        obtain ⟨id, off, e1, b, o⟩ := p.inn y hy'
        have hb : atBlock y.2 id := by rw [e1]; rfl
        exact ⟨id, off, e1, b, o.same (hk id (fun e => apx y hy id e hb) (.inr ⟨y, hy', hb⟩)) (by omega)⟩
  · rw [List.pairwise_append, List.pairwise_cons]
    refine ⟨apA, ⟨apx, apB⟩, fun a ha b hb => ?_⟩
    rcases List.mem_cons.1 hb with rfl | hb
    · exact apAB a ha x (by simp)
    · exact apAB a ha b (by simp [hb])
  · rcases List.mem_append.1 hy with hy | hy
    · exact p.ne y (List.mem_append_left _ hy)
    · rcases List.mem_cons.1 hy with rfl | hy
      · exact p.ne x hx
      · exact p.ne y (by simp [hy])
def lens (L : List CPart) : Nat := (L.map fun x => x.1.length).sum
theorem lens_snoc (A : List CPart) (x : CPart) : lens (A ++ [x]) = lens A + x.1.length := by simp [lens]
theorem lens_app (A B : List CPart) : lens (A ++ B) = lens A + lens B := by simp [lens]
def msL (k : Nat) : List CPart → List CPart
  | [] => []
  | x :: r => (marks fS k x.1.length, x.2) :: msL (k + x.1.length) r
theorem msL_app : ∀ (k : Nat) (A B : List CPart), msL k (A ++ B) = msL k A ++ msL (k + lens A) B
  | k, [], B => by simp [msL, lens]
  | k, x :: r, B => by
    rw [List.cons_append, msL, msL, List.cons_append, msL_app]
    congr 3
    simp [lens]; omega
theorem msL_snd : ∀ (k : Nat) (A : List CPart), (msL k A).map Prod.snd = A.map Prod.snd
  | _, [] => rfl
  | k, x :: r => by rw [msL, List.map_cons, List.map_cons, msL_snd]
theorem msL_len (k : Nat) (A : List CPart) : (msL k A).length = A.length := by have := congrArg List.length (msL_snd k A); simpa using this
theorem PB.of {v : Value} {L M : List CPart} (e : L.map Prod.snd = M.map Prod.snd) {i : Nat} (p : PB v L i) : PB v M i := by
  rcases p with p | ⟨x, hx, p⟩
  · exact .inl p
  · have : x.2 ∈ M.map Prod.snd := by rw [← e]; exact List.mem_map_of_mem hx
    obtain ⟨y, hy, e2⟩ := List.mem_map.1 this
    exact .inr ⟨y, hy, by rw [e2]; exact p⟩
theorem flat_c (L : List CPart) : (L.map fun x : CPart => [x.2]).flatten = L.map Prod.snd := by
  induction L with
  | nil => rfl
  | cons x r ih => rw [List.map_cons, List.flatten_cons, ih]; rfl
theorem markOne (n0 : Nat) (v : Value) (A B : List CPart) (x : CPart) (k : Nat) (h : AH) (p : PC n0 h v (A ++ x :: B)) (h0 : 0 < k) (hk : k + x.1.length * 1 < 4000000000000) (hn : x.1.length < 274877906944) :
    CC Try.prog 14 [x.2, .int .i64 (k : Nat)] h (fun r h' => r = .int .i64 ((k + x.1.length : Nat) : Int) ∧ PC n0 h' v (A ++ (marks fS k x.1.length, x.2) :: B) ∧ h'.n = h.n ∧ ∀ j, ¬ atBlock x.2 j → live h j → h'.ob j = h.ob j) := by
  refine CC.withFit (fun ft => ?_)
  obtain ⟨id, off, e, b, o⟩ := p.inn x (by simp)
  rw [e]
  refine (markStringS_o id off x.1.length x.1 k h o h0 hk hn).mono (fun r h' ⟨e1, o1, w1⟩ => ?_)
  have wv := w1.toV (m := x.1.length) (c := 1) ft o
  rw [← e] at wv
  refine ⟨by rw [e1, Nat.mul_one], ?_, w1.n, fun j hj hl => wv.ob j (by rw [e]; exact hj) hl⟩
  rw [← e]
  refine p.upd w1.n (marks_length _ _ _) (fun id' off' e' => ?_) (fun i hi hp => wv.ob i hi (p.live hp))
  rw [e] at e'
  simp only [Value.slice.injEq, Option.some.injEq, Addr.mk.injEq] at e'
  obtain ⟨⟨rfl, rfl, _⟩, _⟩ := e'
  rw [marks_length]
  rw [Nat.mul_one] at o1
  exact o1
theorem markStringSS_c (n0 : Nat) (v : Value) (L : List CPart) (k : Nat) (h : AH) (p : PC n0 h v L) (h0 : 0 < k) (hk : k + lens L < 270000000000) (hn : L.length ≤ 1048576) :
    CC Try.prog 15 [v, .int .i64 (k : Nat)] h (fun r h' => r = .int .i64 ((k + lens L : Nat) : Int) ∧ PC n0 h' v (msL k L) ∧ h'.n = h.n ∧ ∀ j, ¬ PB v L j → live h j → h'.ob j = h.ob j) := by
  have hr := Gr.rdv (k := 1) (enc := fun x : CPart => [x.2]) (l := L) (n0 := n0) (h := h) (v := v) (by rw [flat_c]; exact p.out) (by omega) (fun _ => rfl)
  obtain ⟨A, ca, rfl, _⟩ := hr.rde (fun _ => rfl)
  refine CC.ofN Try.func15 Try.ntmps15 Try.results15 rfl (by decide) (by kernel_rfl) ?_
  simp (maxSteps := 1000000) -implicitDefEqProofs only [push_cast, seval]
  refine WC.loopA (by kernel_rfl) [1, 5] [6, 7, 8, 9, 10, 11, 12, 13, 14, 15, 16, 17] (fun a : Nat × Nat => [.int .i64 (a.2 : Nat), .int .i64 (a.1 : Nat)]) (fun a h' => (a.1 ≤ L.length ∧ a.2 = k + lens (L.take a.1)) ∧ PC n0 h' (.slice A L.length ca) (msL k (L.take a.1) ++ L.drop a.1) ∧ h'.n = h.n ∧ ∀ j, ¬ PB (.slice A L.length ca) L j → live h j → h'.ob j = h.ob j) (fun a => L.length - a.1) (0, k) (by kernel_rfl) ⟨⟨Nat.zero_le _, by simp [lens]⟩, by simpa [msL] using p, rfl, fun _ _ _ => rfl⟩ ?_
  intro a g h1 hJ
  have hi := hJ.1.1
  have hK := hJ.1.2
  have q := hJ.2.1
  have n1 := hJ.2.2.1
  have f1 := hJ.2.2.2
  clear hJ
  simp (maxSteps := 1000000) -implicitDefEqProofs only [push_cast, seval]
  with_reducible refine bcase_d (fun hb => ?_) (fun hb => ?_)
  · have hi' : a.1 < L.length := by omega
    have hd := List.drop_eq_getElem_cons hi'
    have ht : L.take (a.1 + 1) = L.take a.1 ++ [L[a.1]] := by rw [List.take_add_one, List.getElem?_eq_getElem hi']; rfl
    have hsum : lens (L.take (a.1 + 1)) ≤ lens L := by have := lens_app (L.take (a.1 + 1)) (L.drop (a.1 + 1)); rw [List.take_append_drop] at this; omega
    have hsn : lens (L.take (a.1 + 1)) = lens (L.take a.1) + L[a.1].1.length := by rw [ht, lens_snoc]
    have hsnd : (msL k (L.take a.1) ++ L.drop a.1).map Prod.snd = L.map Prod.snd := by rw [List.map_append, msL_snd, ← List.map_append, List.take_append_drop]
    have hr1 := Gr.rdv (k := 1) (enc := fun x : CPart => [x.2]) (l := L) (n0 := n0) (h := h1) (v := .slice A L.length ca) (by rw [flat_c, ← hsnd]; exact q.out) (by omega) (fun _ => rfl)
    have hel := hr1.el (fun _ => rfl) hi'
    with_reducible refine Exists.elim hel (fun id hel => ?_)
    with_reducible refine Exists.elim hel (fun off hel => ?_)
    with_reducible refine Exists.elim hel (fun c2 hel => ?_)
    have eA := hel.1
    have l1 := hel.2.1
    have hrd := hel.2.2
    clear hel
    have eA2 : A = some ⟨id, off, none⟩ := by injection eA
    subst eA2
    rw [Nat.mul_one] at hrd
    have r0 := rd_1 hrd
    rw [hd] at q
    simp (maxSteps := 1000000) -implicitDefEqProofs only [push_cast, seval, hrd, r0, l1, Nat.mul_one]
    repeat (with_reducible refine And.intro ?_ ?_; · (first | omega | decide))
    with_reducible refine CC.mono (markOne n0 _ (msL k (L.take a.1)) (L.drop (a.1 + 1)) L[a.1] a.2 h1 q (by omega) (by omega) (by omega)) (fun r h2 hv => ?_)
    have e1 := hv.1
    have q2 := hv.2.1
    have n2 := hv.2.2.1
    have f2 := hv.2.2.2
    clear hv
    subst e1
    simp (maxSteps := 1000000) -implicitDefEqProofs only [push_cast, seval]
    rw [wrapSucc (by omega)]
    refine ⟨(a.1 + 1, a.2 + L[a.1].1.length), by kernel_rfl, ⟨⟨by show a.1 + 1 ≤ L.length; omega, by show a.2 + L[a.1].1.length = k + lens (L.take (a.1 + 1)); omega⟩, ?_, by omega, fun j hj hl => ?_⟩, by show L.length - (a.1 + 1) < L.length - a.1; omega⟩
    · show PC n0 h2 _ (msL k (L.take (a.1 + 1)) ++ L.drop (a.1 + 1))
      rw [ht, msL_app, List.append_assoc, ← hK]
      exact q2
    · have e2 := f1 j hj hl
      rw [← e2]
      exact f2 j (fun e => hj (.inr ⟨L[a.1], List.getElem_mem hi', e⟩)) (live.of hl e2)
  · have e : a.1 = L.length := by omega
    rw [e, List.take_length] at hK
    rw [e, List.take_length, List.drop_length, List.append_nil] at q
    simp (maxSteps := 1000000) -implicitDefEqProofs only [push_cast, seval]
    exact ⟨by rw [hK]; push_cast; rfl, q, n1, f1⟩
theorem heldStringSS_c (n0 : Nat) (v : Value) (L : List CPart) (k : Nat) (h : AH) (p : PC n0 h v (msL k L)) (h0 : 0 < k) (hk : k + lens L < 270000000000) (hn : L.length ≤ 1048576) :
    CD Try.prog 16 [v, .int .i64 (k : Nat)] h (.int .i64 ((k + lens L : Nat) : Int)) h := by
  refine CD.quiet ?_ (low_int _ _ _)
  have hr := Gr.rdv (k := 1) (enc := fun x : CPart => [x.2]) (l := L) (n0 := n0) (h := h) (v := v) (by rw [flat_c, ← msL_snd k]; exact p.out) (by omega) (fun _ => rfl)
  obtain ⟨A, ca, rfl, _⟩ := hr.rde (fun _ => rfl)
  refine CC.ofN Try.func16 Try.ntmps16 Try.results16 rfl (by decide) (by kernel_rfl) ?_
  simp (maxSteps := 1000000) -implicitDefEqProofs only [push_cast, seval]
  refine WC.loopA (by kernel_rfl) [1, 5] [4, 6, 7, 8, 9, 10, 11, 12, 13, 14, 15, 16, 17, 18, 19] (fun a : Nat × Nat => [.int .i64 (a.2 : Nat), .int .i64 (a.1 : Nat)]) (fun a h' => (a.1 ≤ L.length ∧ a.2 = k + lens (L.take a.1)) ∧ Pre h h') (fun a => L.length - a.1) (0, k) (by kernel_rfl) ⟨⟨Nat.zero_le _, by simp [lens]⟩, Pre.refl _⟩ ?_
  intro a g h1 hJ
  have hi := hJ.1.1
  have hK := hJ.1.2
  have hp := hJ.2
  clear hJ
  have q := p.pre hp
  simp (maxSteps := 1000000) -implicitDefEqProofs only [push_cast, seval]
  with_reducible refine bcase_d (fun hb => ?_) (fun hb => ?_)
  · have hi' : a.1 < L.length := by omega
    have hd := List.drop_eq_getElem_cons hi'
    have ht : L.take (a.1 + 1) = L.take a.1 ++ [L[a.1]] := by rw [List.take_add_one, List.getElem?_eq_getElem hi']; rfl
    have hsum : lens (L.take (a.1 + 1)) ≤ lens L := by have := lens_app (L.take (a.1 + 1)) (L.drop (a.1 + 1)); rw [List.take_append_drop] at this; omega
    have hsn : lens (L.take (a.1 + 1)) = lens (L.take a.1) + L[a.1].1.length := by rw [ht, lens_snoc]
    have hr1 := hr.pre hp
    have hel := hr1.el (fun _ => rfl) hi'
    with_reducible refine Exists.elim hel (fun id hel => ?_)
    with_reducible refine Exists.elim hel (fun off hel => ?_)
    with_reducible refine Exists.elim hel (fun c2 hel => ?_)
    have eA := hel.1
    have l1 := hel.2.1
    have hrd := hel.2.2
    clear hel
    have eA2 : A = some ⟨id, off, none⟩ := by injection eA
    subst eA2
    rw [Nat.mul_one] at hrd
    have r0 := rd_1 hrd
    have hsp : msL k L = msL k (L.take a.1) ++ (marks fS a.2 L[a.1].1.length, L[a.1].2) :: msL (a.2 + L[a.1].1.length) (L.drop (a.1 + 1)) := by
      rw [hK, ← msL, ← hd, ← msL_app, List.take_append_drop]
    have hmem : (marks fS a.2 L[a.1].1.length, L[a.1].2) ∈ msL k L := by rw [hsp]; simp
    have hin := q.inn _ hmem
    simp only [marks_length] at hin
    with_reducible refine Exists.elim hin (fun i2 hin => ?_)
    with_reducible refine Exists.elim hin (fun off2 hin => ?_)
    have e2 := hin.1
    have o2 := hin.2.2
    clear hin
    simp (maxSteps := 1000000) -implicitDefEqProofs only [push_cast, seval, hrd, r0, l1, Nat.mul_one]
    repeat (with_reducible refine And.intro ?_ ?_; · (first | omega | decide))
    rw [e2]
    with_reducible refine CD.to (heldStringS_o i2 off2 L[a.1].1.length 1 a.2 h1 (by rw [Nat.mul_one]; exact o2) (by omega) (by omega) (by omega)) ?_
    simp (maxSteps := 1000000) -implicitDefEqProofs only [push_cast, seval]
    with_reducible refine bcase_d (fun hb2 => ?_) (fun hb2 => ?_)
    · exfalso; omega
    simp (maxSteps := 1000000) -implicitDefEqProofs only [push_cast, seval]
    rw [wrapSucc (by omega)]
    exact ⟨(a.1 + 1, a.2 + L[a.1].1.length * 1), by kernel_rfl, ⟨⟨by show a.1 + 1 ≤ L.length; omega, by show a.2 + L[a.1].1.length * 1 = k + lens (L.take (a.1 + 1)); omega⟩, hp⟩, by show L.length - (a.1 + 1) < L.length - a.1; omega⟩
  · have e : a.1 = L.length := by omega
    rw [e, List.take_length] at hK
    simp (maxSteps := 1000000) -implicitDefEqProofs only [push_cast, seval]
    exact ⟨by rw [hK]; push_cast; rfl, hp.keep⟩
end Go.Proofs.Ytcggnolnakgkeaa
namespace Go.Proofs.Ytcggnolnakgkeaa
open Go Go.Sim Go.Proofs
set_option linter.unusedSimpArgs false
set_option linter.unusedVariables false
set_option maxRecDepth 100000
set_option maxHeartbeats 1000000
theorem CutLines_s (n : Int) (l : List ByteArray) (A : Option Addr) (h : AH) (r : Lns h A l) (hl : l.length ≤ 1048576) (hn : n ≤ 9223372036854775807) :
    CC Try.prog 10 [.slice A l.length 1, .int .i64 n] h (fun v h' => ∃ L, Parts h.n h' v L ∧ L.map Prod.fst = cutL n l ∧ Pre h h') := by
  have hN := partN_pos n l.length
  have hq1 : n < 1 → 0 < l.length → (l.length : Int) = (partN n l.length : Nat) := fun e e2 => by unfold partN; rw [if_pos e]; omega
  have hq2 : ¬ n < 1 → n = (partN n l.length : Nat) := fun e => by unfold partN; rw [if_neg e]; omega
  have hcl : cutL n l = cks (partN n l.length) l (nck (partN n l.length) l.length) := rfl
  generalize partN n l.length = N at *
  have hlt := fun k => lt_nck (N := N) (len := l.length) (k := k) hN
  generalize nck N l.length = m at *
  refine CC.ofN Try.func10 Try.ntmps10 Try.results10 rfl (by decide) (by kernel_rfl) ?_
  simp (maxSteps := 1000000) -implicitDefEqProofs only [push_cast, seval]
  with_reducible refine bcase_d (fun hb => ?_) (fun hb => ?_)
  · have hq : 0 < l.length → ((l.length : Int)) = ((N : Nat) : Int) := hq1 hb
    simp (maxSteps := 1000000) -implicitDefEqProofs only [push_cast, seval]
    refine WC.loopA (by kernel_rfl) [5, 6] [7, 13, 14, 15, 16, 17, 18, 19, 20, 21, 22, 23, 24, 25, 26, 27, 28, 29, 30, 31, 32, 33, 34, 35, 36, 37] (fun a : Nat × Value × Nat => [a.2.1, .int .i64 (a.2.2 : Nat)]) (fun a h' => (a.1 ≤ m ∧ a.2.2 = min (a.1 * N) l.length) ∧ (∃ L, Parts h.n h' a.2.1 L ∧ L.map Prod.fst = cks N l a.1) ∧ Pre h h') (fun a => l.length - a.2.2) (0, _, 0) (by kernel_rfl) ⟨⟨Nat.zero_le _, by simp⟩, ⟨[], Parts.nil (Gr.new (Nat.le_refl _) [] 0 1 rfl), by simp [cks_zero]⟩, (Pre.refl _).alloc _⟩ ?_
    intro a g h1 hJ
    have hk := hJ.1.1
    have ha := hJ.1.2
    have hp := hJ.2.1
    have hh := hJ.2.2
    clear hJ
    with_reducible refine Exists.elim hp (fun L hL => ?_)
    have hL1 := hL.1
    have hL2 := hL.2
    clear hp hL
    simp (maxSteps := 1000000) -implicitDefEqProofs only [push_cast, seval]
    with_reducible refine bcase_d (fun hb2 => ?_) (fun hb2 => ?_)
    · have hpos : 0 < l.length := by omega
      have hNq := hq hpos
      have hs : (a.1 + 1) * N = a.1 * N + N := Nat.succ_mul _ _
      have hkm : a.1 < m := (hlt _).2 (by omega)
      generalize hKN : a.1 * N = KN at *
      have hat : a.2.2 = KN := by omega
      have w1 : IntKind.i64.wrap ((l.length : Int) - (a.2.2 : Int)) = (l.length : Int) - (a.2.2 : Int) := by rw [w64 (by omega) (by omega)]
      with_reducible refine Exists.elim (Lns.at r hpos) (fun id hr => ?_)
      with_reducible refine Exists.elim hr (fun off hr => ?_)
      have eA := hr.1
      have hrd := hr.2.1
      have hid := hr.2.2
      clear hr
      subst eA
      have hid1 : id < h1.n := Nat.lt_of_lt_of_le hid hh.n
      have hrd1 := (hh.rd hid _ _).trans hrd
      simp (maxSteps := 1000000) -implicitDefEqProofs only [push_cast, seval, w1]
      with_reducible refine bcase_d (fun hb3 => ?_) (fun hb3 => ?_)
      · try rw [w1] at hb3
        with_reducible refine nameN (a.2.2 + N) (fun E hE => ?_)
        have w2 : IntKind.i64.wrap ((a.2.2 : Int) + ((l.length : Int))) = (E : Nat) := by rw [w64 (by omega) (by omega)]; omega
        have hE1 : (E) = min ((a.1 + 1) * N) l.length := by omega
        have hE2 : a.2.2 < (E) := by omega
        have hE3 : (E) ≤ l.length := by omega
        have hck : ck N l a.1 = (l.drop a.2.2).take ((E) - a.2.2) := by
          unfold ck
          rw [hKN, ← hat]
          apply List.ext_getElem?
          intro i
          rw [List.getElem?_take, List.getElem?_take]
          by_cases e1 : i < N
          · by_cases e2 : i < (E) - a.2.2
            · rw [if_pos e1, if_pos e2]
            · rw [if_pos e1, if_neg e2, List.getElem?_drop, List.getElem?_eq_none (by omega)]
          · rw [if_neg e1, if_neg (by omega)]
        have hcl2 : (ck N l a.1).length = (E) - a.2.2 := by rw [hck, List.length_take, List.length_drop]; omega
        simp (maxSteps := 1000000) -implicitDefEqProofs only [push_cast, seval, w1, w2]
        have hpr : RdV h1 (.slice (some ⟨id, off + a.2.2 * 1, none⟩) ((E) - a.2.2) 1) 1 encTx (ck N l a.1) := by rw [Nat.mul_one, hck]; exact part_rdv hrd1 hid1 (by omega)
        refine And.intro (by omega) (And.intro (by omega) (And.intro (by omega) ?_))
        have hLl : L.length = a.1 := by have := congrArg List.length hL2; rw [List.length_map, cks_len] at this; exact this
        have hal : a.1 ≤ a.1 * N := Nat.le_mul_of_pos_right _ hN
        refine app_copy si24 (by decide) (by decide) (notInt_sl und24) (by (try simp (maxSteps := 1000000) -implicitDefEqProofs only [push_cast, seval, rdOb]); try rfl) (by simp only [alloc_n]; omega) (hpr.pre ((Pre.refl _).alloc _)) (fun _ => rfl) (by omega) (fun h2 a2 n2 f2 => ?_)
        rw [flat_tx] at a2
        simp only [alloc_n] at a2 n2 f2
        have hp2 : Pre h1 h2 := ⟨by omega, fun i hi => (f2 i (by omega) (by omega)).trans (alloc_lt _ hi)⟩
        simp (maxSteps := 1000000) -implicitDefEqProofs only [push_cast, seval]
        refine Gr.app1 (h0 := h) si27 (by decide) (by decide) (notInt_sl und27) (hL1.pre hp2).out (hh.trans hp2) rfl (by rw [List.length_map, hLl]; omega) (by omega) (fun h3 g3 o3 p3 n3 f3 => ?_)
        simp (maxSteps := 1000000) -implicitDefEqProofs only [push_cast, seval]
        refine ⟨(a.1 + 1, _, (E)), by kernel_rfl, ⟨⟨by show a.1 + 1 ≤ m; omega, hE1⟩, ⟨L ++ [(ck N l a.1, _)], hL1.snoc hp2 (by omega) (by have := hh.n; omega) a2 g3 (by omega) (by omega) f3, by rw [List.map_append, hL2, cks_succ]; rfl⟩, p3⟩, by show l.length - (E) < l.length - a.2.2; omega⟩
      · try rw [w1] at hb3
        have w2 : True := trivial
        have hE1 : (l.length) = min ((a.1 + 1) * N) l.length := by omega
        have hE2 : a.2.2 < (l.length) := by omega
        have hE3 : (l.length) ≤ l.length := by omega
        have hck : ck N l a.1 = (l.drop a.2.2).take ((l.length) - a.2.2) := by
          unfold ck
          rw [hKN, ← hat]
          apply List.ext_getElem?
          intro i
          rw [List.getElem?_take, List.getElem?_take]
          by_cases e1 : i < N
          · by_cases e2 : i < (l.length) - a.2.2
            · rw [if_pos e1, if_pos e2]
            · rw [if_pos e1, if_neg e2, List.getElem?_drop, List.getElem?_eq_none (by omega)]
          · rw [if_neg e1, if_neg (by omega)]
        have hcl2 : (ck N l a.1).length = (l.length) - a.2.2 := by rw [hck, List.length_take, List.length_drop]; omega
        simp (maxSteps := 1000000) -implicitDefEqProofs only [push_cast, seval, w1, w2]
        have hpr : RdV h1 (.slice (some ⟨id, off + a.2.2 * 1, none⟩) ((l.length) - a.2.2) 1) 1 encTx (ck N l a.1) := by rw [Nat.mul_one, hck]; exact part_rdv hrd1 hid1 (by omega)
        refine And.intro (by omega) (And.intro (by omega) (And.intro (by omega) ?_))
        have hLl : L.length = a.1 := by have := congrArg List.length hL2; rw [List.length_map, cks_len] at this; exact this
        have hal : a.1 ≤ a.1 * N := Nat.le_mul_of_pos_right _ hN
        refine app_copy si24 (by decide) (by decide) (notInt_sl und24) (by (try simp (maxSteps := 1000000) -implicitDefEqProofs only [push_cast, seval, rdOb]); try rfl) (by simp only [alloc_n]; omega) (hpr.pre ((Pre.refl _).alloc _)) (fun _ => rfl) (by omega) (fun h2 a2 n2 f2 => ?_)
        rw [flat_tx] at a2
        simp only [alloc_n] at a2 n2 f2
        have hp2 : Pre h1 h2 := ⟨by omega, fun i hi => (f2 i (by omega) (by omega)).trans (alloc_lt _ hi)⟩
        simp (maxSteps := 1000000) -implicitDefEqProofs only [push_cast, seval]
        refine Gr.app1 (h0 := h) si27 (by decide) (by decide) (notInt_sl und27) (hL1.pre hp2).out (hh.trans hp2) rfl (by rw [List.length_map, hLl]; omega) (by omega) (fun h3 g3 o3 p3 n3 f3 => ?_)
        simp (maxSteps := 1000000) -implicitDefEqProofs only [push_cast, seval]
        refine ⟨(a.1 + 1, _, (l.length)), by kernel_rfl, ⟨⟨by show a.1 + 1 ≤ m; omega, hE1⟩, ⟨L ++ [(ck N l a.1, _)], hL1.snoc hp2 (by omega) (by have := hh.n; omega) a2 g3 (by omega) (by omega) f3, by rw [List.map_append, hL2, cks_succ]; rfl⟩, p3⟩, by show l.length - (l.length) < l.length - a.2.2; omega⟩
    · have hn1 : ¬ a.1 < m := fun e => by have := (hlt _).1 e; omega
      have em : a.1 = m := by omega
      rw [em, ← hcl] at hL2
      simp (maxSteps := 1000000) -implicitDefEqProofs only [push_cast, seval]
      exact ⟨L, hL1, hL2, hh⟩
  · have hq : 0 < l.length → (n) = ((N : Nat) : Int) := (fun _ => hq2 hb)
    simp (maxSteps := 1000000) -implicitDefEqProofs only [push_cast, seval]
    refine WC.loopA (by kernel_rfl) [5, 6] [7, 13, 14, 15, 16, 17, 18, 19, 20, 21, 22, 23, 24, 25, 26, 27, 28, 29, 30, 31, 32, 33, 34, 35, 36, 37] (fun a : Nat × Value × Nat => [a.2.1, .int .i64 (a.2.2 : Nat)]) (fun a h' => (a.1 ≤ m ∧ a.2.2 = min (a.1 * N) l.length) ∧ (∃ L, Parts h.n h' a.2.1 L ∧ L.map Prod.fst = cks N l a.1) ∧ Pre h h') (fun a => l.length - a.2.2) (0, _, 0) (by kernel_rfl) ⟨⟨Nat.zero_le _, by simp⟩, ⟨[], Parts.nil (Gr.new (Nat.le_refl _) [] 0 1 rfl), by simp [cks_zero]⟩, (Pre.refl _).alloc _⟩ ?_
    intro a g h1 hJ
    have hk := hJ.1.1
    have ha := hJ.1.2
    have hp := hJ.2.1
    have hh := hJ.2.2
    clear hJ
    with_reducible refine Exists.elim hp (fun L hL => ?_)
    have hL1 := hL.1
    have hL2 := hL.2
    clear hp hL
    simp (maxSteps := 1000000) -implicitDefEqProofs only [push_cast, seval]
    with_reducible refine bcase_d (fun hb2 => ?_) (fun hb2 => ?_)
    · have hpos : 0 < l.length := by omega
      have hNq := hq hpos
      have hs : (a.1 + 1) * N = a.1 * N + N := Nat.succ_mul _ _
      have hkm : a.1 < m := (hlt _).2 (by omega)
      generalize hKN : a.1 * N = KN at *
      have hat : a.2.2 = KN := by omega
      have w1 : IntKind.i64.wrap ((l.length : Int) - (a.2.2 : Int)) = (l.length : Int) - (a.2.2 : Int) := by rw [w64 (by omega) (by omega)]
      with_reducible refine Exists.elim (Lns.at r hpos) (fun id hr => ?_)
      with_reducible refine Exists.elim hr (fun off hr => ?_)
      have eA := hr.1
      have hrd := hr.2.1
      have hid := hr.2.2
      clear hr
      subst eA
      have hid1 : id < h1.n := Nat.lt_of_lt_of_le hid hh.n
      have hrd1 := (hh.rd hid _ _).trans hrd
      simp (maxSteps := 1000000) -implicitDefEqProofs only [push_cast, seval, w1]
      with_reducible refine bcase_d (fun hb3 => ?_) (fun hb3 => ?_)
      · try rw [w1] at hb3
        with_reducible refine nameN (a.2.2 + N) (fun E hE => ?_)
        have w2 : IntKind.i64.wrap ((a.2.2 : Int) + (n)) = (E : Nat) := by rw [w64 (by omega) (by omega)]; omega
        have hE1 : (E) = min ((a.1 + 1) * N) l.length := by omega
        have hE2 : a.2.2 < (E) := by omega
        have hE3 : (E) ≤ l.length := by omega
        have hck : ck N l a.1 = (l.drop a.2.2).take ((E) - a.2.2) := by
          unfold ck
          rw [hKN, ← hat]
          apply List.ext_getElem?
          intro i
          rw [List.getElem?_take, List.getElem?_take]
          by_cases e1 : i < N
          · by_cases e2 : i < (E) - a.2.2
            · rw [if_pos e1, if_pos e2]
            · rw [if_pos e1, if_neg e2, List.getElem?_drop, List.getElem?_eq_none (by omega)]
          · rw [if_neg e1, if_neg (by omega)]
        have hcl2 : (ck N l a.1).length = (E) - a.2.2 := by rw [hck, List.length_take, List.length_drop]; omega
        simp (maxSteps := 1000000) -implicitDefEqProofs only [push_cast, seval, w1, w2]
        have hpr : RdV h1 (.slice (some ⟨id, off + a.2.2 * 1, none⟩) ((E) - a.2.2) 1) 1 encTx (ck N l a.1) := by rw [Nat.mul_one, hck]; exact part_rdv hrd1 hid1 (by omega)
        refine And.intro (by omega) (And.intro (by omega) (And.intro (by omega) ?_))
        have hLl : L.length = a.1 := by have := congrArg List.length hL2; rw [List.length_map, cks_len] at this; exact this
        have hal : a.1 ≤ a.1 * N := Nat.le_mul_of_pos_right _ hN
        refine app_copy si24 (by decide) (by decide) (notInt_sl und24) (by (try simp (maxSteps := 1000000) -implicitDefEqProofs only [push_cast, seval, rdOb]); try rfl) (by simp only [alloc_n]; omega) (hpr.pre ((Pre.refl _).alloc _)) (fun _ => rfl) (by omega) (fun h2 a2 n2 f2 => ?_)
        rw [flat_tx] at a2
        simp only [alloc_n] at a2 n2 f2
        have hp2 : Pre h1 h2 := ⟨by omega, fun i hi => (f2 i (by omega) (by omega)).trans (alloc_lt _ hi)⟩
        simp (maxSteps := 1000000) -implicitDefEqProofs only [push_cast, seval]
        refine Gr.app1 (h0 := h) si27 (by decide) (by decide) (notInt_sl und27) (hL1.pre hp2).out (hh.trans hp2) rfl (by rw [List.length_map, hLl]; omega) (by omega) (fun h3 g3 o3 p3 n3 f3 => ?_)
        simp (maxSteps := 1000000) -implicitDefEqProofs only [push_cast, seval]
        refine ⟨(a.1 + 1, _, (E)), by kernel_rfl, ⟨⟨by show a.1 + 1 ≤ m; omega, hE1⟩, ⟨L ++ [(ck N l a.1, _)], hL1.snoc hp2 (by omega) (by have := hh.n; omega) a2 g3 (by omega) (by omega) f3, by rw [List.map_append, hL2, cks_succ]; rfl⟩, p3⟩, by show l.length - (E) < l.length - a.2.2; omega⟩
      · try rw [w1] at hb3
        have w2 : True := trivial
        have hE1 : (l.length) = min ((a.1 + 1) * N) l.length := by omega
        have hE2 : a.2.2 < (l.length) := by omega
        have hE3 : (l.length) ≤ l.length := by omega
        have hck : ck N l a.1 = (l.drop a.2.2).take ((l.length) - a.2.2) := by
          unfold ck
          rw [hKN, ← hat]
          apply List.ext_getElem?
          intro i
          rw [List.getElem?_take, List.getElem?_take]
          by_cases e1 : i < N
          · by_cases e2 : i < (l.length) - a.2.2
            · rw [if_pos e1, if_pos e2]
            · rw [if_pos e1, if_neg e2, List.getElem?_drop, List.getElem?_eq_none (by omega)]
          · rw [if_neg e1, if_neg (by omega)]
        have hcl2 : (ck N l a.1).length = (l.length) - a.2.2 := by rw [hck, List.length_take, List.length_drop]; omega
        simp (maxSteps := 1000000) -implicitDefEqProofs only [push_cast, seval, w1, w2]
        have hpr : RdV h1 (.slice (some ⟨id, off + a.2.2 * 1, none⟩) ((l.length) - a.2.2) 1) 1 encTx (ck N l a.1) := by rw [Nat.mul_one, hck]; exact part_rdv hrd1 hid1 (by omega)
        refine And.intro (by omega) (And.intro (by omega) (And.intro (by omega) ?_))
        have hLl : L.length = a.1 := by have := congrArg List.length hL2; rw [List.length_map, cks_len] at this; exact this
        have hal : a.1 ≤ a.1 * N := Nat.le_mul_of_pos_right _ hN
        refine app_copy si24 (by decide) (by decide) (notInt_sl und24) (by (try simp (maxSteps := 1000000) -implicitDefEqProofs only [push_cast, seval, rdOb]); try rfl) (by simp only [alloc_n]; omega) (hpr.pre ((Pre.refl _).alloc _)) (fun _ => rfl) (by omega) (fun h2 a2 n2 f2 => ?_)
        rw [flat_tx] at a2
        simp only [alloc_n] at a2 n2 f2
        have hp2 : Pre h1 h2 := ⟨by omega, fun i hi => (f2 i (by omega) (by omega)).trans (alloc_lt _ hi)⟩
        simp (maxSteps := 1000000) -implicitDefEqProofs only [push_cast, seval]
        refine Gr.app1 (h0 := h) si27 (by decide) (by decide) (notInt_sl und27) (hL1.pre hp2).out (hh.trans hp2) rfl (by rw [List.length_map, hLl]; omega) (by omega) (fun h3 g3 o3 p3 n3 f3 => ?_)
        simp (maxSteps := 1000000) -implicitDefEqProofs only [push_cast, seval]
        refine ⟨(a.1 + 1, _, (l.length)), by kernel_rfl, ⟨⟨by show a.1 + 1 ≤ m; omega, hE1⟩, ⟨L ++ [(ck N l a.1, _)], hL1.snoc hp2 (by omega) (by have := hh.n; omega) a2 g3 (by omega) (by omega) f3, by rw [List.map_append, hL2, cks_succ]; rfl⟩, p3⟩, by show l.length - (l.length) < l.length - a.2.2; omega⟩
    · have hn1 : ¬ a.1 < m := fun e => by have := (hlt _).1 e; omega
      have em : a.1 = m := by omega
      rw [em, ← hcl] at hL2
      simp (maxSteps := 1000000) -implicitDefEqProofs only [push_cast, seval]
      exact ⟨L, hL1, hL2, hh⟩
end Go.Proofs.Ytcggnolnakgkeaa
namespace Go.Proofs.Ytcggnolnakgkeaa
open Go Go.Sim Go.Proofs
set_option linter.unusedSimpArgs false
set_option linter.unusedVariables false
set_option maxRecDepth 100000
set_option maxHeartbeats 1000000
theorem Filled.eq {l : List ByteArray} {cs : List Value} (w : Filled 1 encTx l cs l.length) : cs = l.map txV := by
  have hl : cs.length = l.length := by rw [w.1, Nat.mul_one]
  apply List.ext_getElem (by simp [hl])
  intro j h1 h2
  have hj : j < l.length := by omega
  have := congrArg (·[0]?) (w.2 j hj hj)
  simp only [List.getElem?_take, List.getElem?_drop, Nat.mul_one, encTx] at this
  rw [if_pos (by omega), Nat.add_zero, List.getElem?_eq_getElem h1] at this
  simpa [txV] using this
theorem toStringS_x (l : List ByteArray) (A : Option Addr) (ca : Nat) (h : AH) (hR : RdE h A 1 encTx l) (hn : l.length ≤ 1048576) :
    CC Try.prog 11 [.slice A l.length ca] h (fun v h' => v = .slice (some ⟨h.n, 0, none⟩) l.length 1 ∧ h' = h.alloc (.cells (l.map txV) .solo h.n)) :=
  (toStringS_c l A ca h hR (by omega)).mono fun v h' ⟨cs, e1, e2, f⟩ => ⟨e1, by rw [e2, f.eq]⟩
theorem lns_new (l : List ByteArray) (h : AH) : Lns (h.alloc (.cells (l.map txV) .solo h.n)) (some ⟨h.n, 0, none⟩) l := fun _ => ⟨h.n, 0, rfl, by rw [rd_alloc_same, rdO_cells, if_pos (by simp), List.drop_zero, List.take_of_length_le (by simp)], lt_alloc _⟩
theorem rdv_new (l : List ByteArray) (h : AH) : RdV (h.alloc (.cells (l.map txV) .solo h.n)) (.slice (some ⟨h.n, 0, none⟩) l.length 1) 1 encTx l :=
  .inr ⟨h.n, 0, 1, rfl, by rw [rd_alloc_same, rdO_cells, Nat.mul_one, if_pos (by simp), List.drop_zero, List.take_of_length_le (by simp), flat_tx], lt_alloc _⟩
/-- The mark of a copy that is one's own: nothing else is written. -/
theorem markS_solo (l : List ByteArray) (id k : Nat) (h : AH) (e : h.ob id = .cells (l.map txV) .solo id) (hid : id < h.n) (h0 : 0 < k) (hk : k + l.length < 4000000000000) (hn : l.length ≤ 1048576) :
    CC Try.prog 14 [.slice (some ⟨id, 0, none⟩) l.length 1, .int .i64 (k : Nat)] h (fun r h' => r = .int .i64 ((k + l.length : Nat) : Int) ∧ h'.n = h.n ∧ ∀ j, j ≠ id → h'.ob j = h.ob j) := by
  refine CC.withFit (fun ft => ?_)
  have o : Sim.Own h id 0 l.length 1 (l.map txV) := ⟨hid, by simp, _, .solo, id, e, .inl rfl, by simp, rfl⟩
  refine (markStringS_o id 0 l.length _ k h o h0 (by omega) (by omega)).mono (fun r h' ⟨e1, o1, w1⟩ => ⟨by rw [e1, Nat.mul_one], w1.n, fun j hj => w1.ob j hj (fun ln hln hown => ?_)⟩)
  obtain ⟨all, st, e2, _⟩ := hln.ob
  rw [e] at e2
  injection e2 with _ _ e3
  subst e3
  exact hj ((ft.solo id _ id e).2 j hown)
theorem mem_le_sum : ∀ {l : List Nat} {x : Nat}, x ∈ l → x ≤ l.sum
  | y :: r, x, h => by
    rw [List.sum_cons]
    rcases List.mem_cons.1 h with rfl | h
    · omega
    · have := mem_le_sum h; omega
theorem cut_small {l : List ByteArray} {n : Int} (hl : l.length ≤ 1048576) {L : List Part} (e : L.map Prod.fst = cutL n l) : L.length ≤ 1048576 ∧ (∀ x ∈ L, x.1.length ≤ 1048576) ∧ lens (L.map cellsP) ≤ 1048576 := by
  have h1 := cutL_len n l
  have h2 := cutL_sum n l
  rw [← e] at h1 h2
  rw [List.length_map] at h1
  have h3 : lens (L.map cellsP) = l.length := by
    rw [← h2]
    unfold lens
    rw [List.map_map, List.map_map]
    congr 1
    exact List.map_congr_left (fun x _ => by simp [cellsP])
  refine ⟨by omega, fun x hx => ?_, by omega⟩
  have : x.1.length ≤ ((L.map Prod.fst).map List.length).sum := mem_le_sum (by rw [List.map_map]; exact List.mem_map.2 ⟨x, hx, rfl⟩)
  omega
theorem law_CutLines (l : List ByteArray) (A : Option Addr) (ca : Nat) (n : Int) (h : AH) (hR : RdE h A 1 encTx l) (hz : ∀ x ∈ l, x.size ≤ maxLen) (hl0 : l.length ≤ maxLen) (hn : n ≤ 9223372036854775807) (big : Big h) (hlv : ∀ j, (h.ob j).own = none) :
    CE Try.prog 4 [.slice A l.length ca, .int .i64 n] h fun v _ => v = .bool true := by
  have hm := maxLen_eq
  refine CE.ofN Try.func4 Try.ntmps4 Try.results4 rfl (by kernel_rfl) ?_
  simp (maxSteps := 1000000) -implicitDefEqProofs only [push_cast, seval]
  with_reducible refine CD.to (szStringS_c l A ca 1048576 h hR hz hl0 (by omega)) ?_
  simp (maxSteps := 1000000) -implicitDefEqProofs only [push_cast, seval]
  with_reducible refine bcase_d (fun hb => ?_) (fun hb => ?_)
  · simp (maxSteps := 1000000) -implicitDefEqProofs only [push_cast, seval]
  have hl : l.length ≤ 1048576 := by
    by_cases e : (1048576 : Int) - l.length - txtW l l.length < 0
    · exact absurd (by rw [if_pos e]; decide) hb
    · omega
  clear hb
  simp (maxSteps := 1000000) -implicitDefEqProofs only [push_cast, seval]
  with_reducible refine CC.mono (toStringS_x l A ca h hR hl) (fun v h1 hv => ?_)
  have e1 := hv.1
  have e2 := hv.2
  clear hv
  subst e1
  have n1 : h1.n = h.n + 1 := by rw [e2]; rfl
  have p1 : Pre h h1 := by rw [e2]; exact (Pre.refl h).alloc _
  have r1 : Lns h1 (some ⟨h.n, 0, none⟩) l := by rw [e2]; exact lns_new l h
  clear e2
  simp (maxSteps := 1000000) -implicitDefEqProofs only [push_cast, seval]
  with_reducible refine CC.mono (CutLines_s n l _ h1 r1 hl hn) (fun w h2 hv => ?_)
  with_reducible refine Exists.elim hv (fun Lw hv => ?_)
  have pw := hv.1
  have ew := hv.2.1
  have p2 := hv.2.2
  clear hv
  have sw := cut_small hl ew
  have q2 := p1.trans p2
  simp (maxSteps := 1000000) -implicitDefEqProofs only [push_cast, seval]
  with_reducible refine CC.mono (toStringS_x l A ca h2 (hR.pre big q2) hl) (fun v h3 hv => ?_)
  have e1 := hv.1
  have e2 := hv.2
  clear hv
  subst e1
  have n3 : h3.n = h2.n + 1 := by rw [e2]; rfl
  have p3 : Pre h2 h3 := by rw [e2]; exact (Pre.refl h2).alloc _
  have r3 : Lns h3 (some ⟨h2.n, 0, none⟩) l := by rw [e2]; exact lns_new l h2
  have o3 : h3.ob h2.n = .cells (l.map txV) .solo h2.n := by rw [e2]; exact alloc_same _
  have v3 : RdV h3 (.slice (some ⟨h2.n, 0, none⟩) l.length 1) 1 encTx l := by rw [e2]; exact rdv_new l h2
  clear e2
  simp (maxSteps := 1000000) -implicitDefEqProofs only [push_cast, seval]
  with_reducible refine CC.mono (CutLines_i n l _ h3 r3 hl hn) (fun g h4 hv => ?_)
  with_reducible refine Exists.elim hv (fun Lg hv => ?_)
  have pg := hv.1
  have eg := hv.2.1
  have p4 := hv.2.2
  clear hv
  have sg := cut_small hl eg
  have q4 := q2.trans (p3.trans p4)
  have pw4 := pw.pre (p3.trans p4)
  simp (maxSteps := 1000000) -implicitDefEqProofs only [push_cast, seval]
  with_reducible refine CD.to (eqStringSS_c Lg Lw g w h4 (pg.rd sg.2.1) (pw4.rd sw.2.1) sg.1 sw.1) ?_
  have egw : decide (Lg.map Prod.fst = Lw.map Prod.fst) = true := by rw [eg, ew]; simp
  simp (maxSteps := 1000000) -implicitDefEqProofs only [push_cast, seval, egw]
  with_reducible refine CC.mono (toStringS_x l A ca h4 (hR.pre big q4) hl) (fun v h5 hv => ?_)
  have e1 := hv.1
  have e2 := hv.2
  clear hv
  subst e1
  have p5 : Pre h4 h5 := by rw [e2]; exact (Pre.refl h4).alloc _
  have v5 : RdV h5 (.slice (some ⟨h4.n, 0, none⟩) l.length 1) 1 encTx l := by rw [e2]; exact rdv_new l h4
  have n5 : h5.n = h4.n + 1 := by rw [e2]; rfl
  clear e2
  simp (maxSteps := 1000000) -implicitDefEqProofs only [push_cast, seval]
  with_reducible refine CD.to (eqS_v l l _ _ h5 (v3.pre (p4.trans p5)) v5 hl hl) ?_
  simp (maxSteps := 1000000) -implicitDefEqProofs only [push_cast, seval]
  have o5 : h5.ob h2.n = .cells (l.map txV) .solo h2.n := ((p4.trans p5).ob _ (by omega)).trans o3
  have n4 := p4.n
  have n2 := p2.n
  with_reducible refine CC.mono (markS_solo l h2.n 1 h5 o5 (by omega) (by omega) (by omega) hl) (fun v h6 hv => ?_)
  have e1 := hv.1
  have n6 := hv.2.1
  have f6 := hv.2.2
  clear hv
  with_reducible refine nameN (1 + l.length) (fun K6 hK6 => ?_)
  rw [← hK6] at e1
  subst e1
  have pg6 : Parts h3.n h6 g Lg := (pg.pre p5).keep (by omega) (fun i hi => f6 i (by have := (pg.lt hi).1; omega))
  have pw6 : Parts h1.n h6 w Lw := (pw4.pre p5).keep (by omega) (fun i hi => f6 i (by have := (pw.lt hi).2; omega))
  have q6 : Pre h h6 := ⟨by have := q4.n; omega, fun i hi => (f6 i (by have := q2.n; omega)).trans (((q4.trans p5).ob i hi))⟩
  simp (maxSteps := 1000000) -implicitDefEqProofs only [push_cast, seval]
  with_reducible refine bcase_d (fun hb => ?_) (fun hb => ?_)
  · exfalso; omega
  simp (maxSteps := 1000000) -implicitDefEqProofs only [push_cast, seval]
  with_reducible refine CD.to (eqStringSS_c Lg Lw g w h6 (pg6.rd sg.2.1) (pw6.rd sw.2.1) sg.1 sw.1) ?_
  simp (maxSteps := 1000000) -implicitDefEqProofs only [push_cast, seval, egw]
  have llg : (Lg.map cellsP).length ≤ 1048576 := by rw [List.length_map]; exact sg.1
  with_reducible refine CC.mono (markStringSS_c h3.n g (Lg.map cellsP) 1 h6 pg6.pc (by omega) (by have := sg.2.2; omega) llg) (fun v h7 hv => ?_)
  have e1 := hv.1
  have k7 := hv.2.1
  have n7 := hv.2.2.1
  have f7 := hv.2.2.2
  clear hv
  have sg3 := sg.2.2
  with_reducible refine nameN (1 + lens (Lg.map cellsP)) (fun K7 hK7 => ?_)
  rw [← hK7] at e1
  subst e1
  have rg : ∀ i, PB g (Lg.map cellsP) i → h3.n ≤ i := fun i hi => (pg6.pc.lt hi).1
  have q7 : Pre h h7 := ⟨by have := q6.n; omega, fun i hi => by
    have e := q6.ob i hi
    rw [← e]
    exact f7 i (fun hp => by have := rg i hp; have := q2.n; omega) (.inr (by rw [e]; exact hlv i))⟩
  have pw7 : Parts h1.n h7 w Lw := pw6.keep (by omega) (fun i hi => f7 i (fun hp => by have := rg i hp; have := (pw.lt hi).2; omega) (by
    rcases hi with hi | ⟨x, hx, hi⟩
    · exact pw6.pc.live (.inl hi)
    · exact pw6.pc.live (.inr ⟨cellsP x, List.mem_map_of_mem hx, hi⟩)))
  have hh7 := heldStringSS_c h3.n g (Lg.map cellsP) 1 h7 k7 (by omega) (by omega) llg
  rw [← hK7] at hh7
  simp (maxSteps := 1000000) -implicitDefEqProofs only [push_cast, seval]
  with_reducible refine CD.to hh7 ?_
  simp (maxSteps := 1000000) -implicitDefEqProofs only [push_cast, seval]
  with_reducible refine bcase_d (fun hb => ?_) (fun hb => ?_)
  · exfalso; omega
  simp (maxSteps := 1000000) -implicitDefEqProofs only [push_cast, seval]
  with_reducible refine CC.mono (toStringS_x l A ca h7 (hR.pre big q7) hl) (fun v h8 hv => ?_)
  have e1 := hv.1
  have e2 := hv.2
  clear hv
  subst e1
  have p8 : Pre h7 h8 := by rw [e2]; exact (Pre.refl h7).alloc _
  have r8 : Lns h8 (some ⟨h7.n, 0, none⟩) l := by rw [e2]; exact lns_new l h7
  clear e2
  simp (maxSteps := 1000000) -implicitDefEqProofs only [push_cast, seval]
  with_reducible refine CC.mono (CutLines_i n l _ h8 r8 hl hn) (fun y h9 hv => ?_)
  with_reducible refine Exists.elim hv (fun Ly hv => ?_)
  have py := hv.1
  have ey := hv.2.1
  have p9 := hv.2.2
  clear hv
  have sy := cut_small hl ey
  have pw9 := pw7.pre (p8.trans p9)
  have eyw : decide (Ly.map Prod.fst = Lw.map Prod.fst) = true := by rw [ey, ew]; simp
  simp (maxSteps := 1000000) -implicitDefEqProofs only [push_cast, seval]
  with_reducible refine CD.to (eqStringSS_c Ly Lw y w h9 (py.rd sy.2.1) (pw9.rd sw.2.1) sy.1 sw.1) ?_
  simp (maxSteps := 1000000) -implicitDefEqProofs only [push_cast, seval, eyw]
  have hh9 := heldStringSS_c h3.n g (Lg.map cellsP) 1 h9 (k7.pre (p8.trans p9)) (by omega) (by omega) llg
  rw [← hK7] at hh9
  with_reducible refine CD.to hh9 ?_
  simp (maxSteps := 1000000) -implicitDefEqProofs only [push_cast, seval]
  with_reducible refine bcase_d (fun hb => ?_) (fun hb => ?_)
  · exfalso; omega
  simp (maxSteps := 1000000) -implicitDefEqProofs only [push_cast, seval]
end Go.Proofs.Ytcggnolnakgkeaa
namespace Go.Proofs.Ytcggnolnakgkeaa
open Go Go.Sim Go.Proofs
set_option linter.unusedSimpArgs false
set_option linter.unusedVariables false
set_option maxRecDepth 100000
set_option maxHeartbeats 1000000
theorem sameTexts_v (l m : List ByteArray) (v w : Value) (h : AH) (hA : RdV h v 1 encTx l) (hB : RdV h w 1 encTx m) (hl : l.length ≤ 1048576) (hm : m.length ≤ 1048576) : CD Try.prog 8 [v, w] h (.bool (decide (l = m))) h := by
  obtain ⟨A, ca, rfl, rA⟩ := hA.rde (fun _ => rfl)
  obtain ⟨B, cb, rfl, rB⟩ := hB.rde (fun _ => rfl)
  exact sameTexts_c l m A B ca cb h rA rB (by omega) (by omega)
theorem OLn.rdv {n0 : Nat} {h : AH} {v : Value} {ls : List ByteArray} (o : OLn n0 h v ls) : RdV h v 1 encTx ls := Gr.rdv (n0 := n0) (by rw [flat_tx]; exact o.gr) (by omega) (fun _ => rfl)
theorem cutL_part {n : Int} {ls : List ByteArray} {L : List Part} (e : L.map Prod.fst = cutL n ls) {i : Nat} (hi : i < L.length) :
    1 ≤ L[i].1.length ∧ (0 < n → (L[i].1.length : Int) ≤ n ∧ (i + 1 < L.length → (L[i].1.length : Int) = n)) := by
  have hN := partN_pos n ls.length
  have hcl : cutL n ls = cks (partN n ls.length) ls (nck (partN n ls.length) ls.length) := rfl
  have hq : 0 < n → n = (partN n ls.length : Nat) := fun h => by unfold partN; rw [if_neg (by omega)]; omega
  generalize partN n ls.length = N at *
  have hm : L.length = nck N ls.length := by have := congrArg List.length e; rw [List.length_map, hcl, cks_len] at this; exact this
  have hlt := fun k => lt_nck (N := N) (len := ls.length) (k := k) hN
  have he : L[i].1 = ck N ls i := by
    have h1 : (L.map Prod.fst)[i]? = some L[i].1 := by simp [hi]
    rw [e, hcl, List.getElem?_eq_getElem (by rw [cks_len]; omega), cks_get] at h1
    exact (Option.some.inj h1).symm
  have hlen : L[i].1.length = min N (ls.length - i * N) := by rw [he, ck_len]
  have h1 := (hlt i).1 (by omega)
  refine ⟨by omega, fun hn => ?_⟩
  have hnN := hq hn
  refine ⟨by omega, fun h2 => ?_⟩
  have h3 := (hlt (i + 1)).1 (by omega)
  have h4 : (i + 1) * N = i * N + N := Nat.succ_mul _ _
  omega
theorem cutL_few {n : Int} {ls : List ByteArray} {L : List Part} (e : L.map Prod.fst = cutL n ls) (hn : ¬ 0 < n) : L.length ≤ 1 := by
  have hN := partN_pos n ls.length
  have hm : L.length = nck (partN n ls.length) ls.length := by have := congrArg List.length e; rw [List.length_map] at this; rw [this]; exact cks_len _ _ _
  have h1 := lt_nck (N := partN n ls.length) (len := ls.length) (k := 1) hN
  have h2 : ls.length ≤ partN n ls.length := by unfold partN; rw [if_pos (by omega)]; omega
  rw [Nat.one_mul] at h1
  by_cases h : 1 < L.length
  · have := h1.1 (by omega)
    omega
  · omega
theorem law_FnCutLines (A : Option Addr) (c : Nat) (l : List Nat) (h : AH) (hR : RdE h A 1 byV l) (hl : ∀ n ∈ l, n < 256) (hn : l.length ≤ maxLen) : CE Try.prog 3 [.slice A l.length c] h fun v _ => v = .bool true := by
  refine CE.withBig (fun big => ?_)
  have hm := maxLen_eq
  refine CE.ofN Try.func3 Try.ntmps3 Try.results3 rfl (by kernel_rfl) ?_
  simp (maxSteps := 1000000) -implicitDefEqProofs only [push_cast, seval]
  repeat' (first | with_reducible (first | exact Keep.refl _ _ | assumption | exact byte_lt _ _ | apply Keep.alloc | (refine Keep.set ?_ ?_; rotate_left; · omega) | apply Pre.alloc | apply Pre.set | exact Pre.refl _ | exact le_alloc _ | (refine Pre.keep ?_; assumption) | (refine Pre.n ?_; assumption)) | ((with_reducible (first | refine CD.to (big_c _ _ _ _) ?_ | refine CQ.pure (fun _ => big_c _ _ _ _) ?_ | refine bcase_d (fun hb => ?_) (fun hb => ?_) | refine bcase_mk (fun hb => ?_) (fun hb => ?_))) <;> try simp (maxSteps := 1000000) -implicitDefEqProofs only [push_cast, seval]) | with_reducible refine And.intro ?_ ?_ | omega | (simp only [alloc_n, set_n, kill_n]; omega) | (exfalso; omega))
  have hn' : l.length ≤ 1048576 := by omega
  with_reducible refine CC.mono (DrawCutLines_c A c l h hR big hl hn') (fun v h1 hv => ?_)
  with_reducible refine Exists.elim hv (fun v0 hv => ?_)
  with_reducible refine Exists.elim hv (fun n hv => ?_)
  with_reducible refine Exists.elim hv (fun ls hv => ?_)
  have e1 := hv.1
  have hnn := hv.2.1
  have o1 := hv.2.2.1
  clear hv
  subst e1
  have r1 := o1.rdv
  with_reducible refine Exists.elim o1.own (fun id ho => ?_)
  with_reducible refine Exists.elim ho (fun off ho => ?_)
  have ev := ho.1
  clear ho
  subst ev
  have hls : ls.length ≤ 8 := o1.len
  simp (maxSteps := 1000000) -implicitDefEqProofs only [push_cast, seval]
  with_reducible refine CC.mono (CutLines_i n ls _ h1 (Lns.of r1) (by omega) hnn) (fun g h2 hv => ?_)
  with_reducible refine Exists.elim hv (fun L hv => ?_)
  have pg := hv.1
  have eg := hv.2.1
  have p2 := hv.2.2
  clear hv
  have sL := cut_small (by omega) eg
  have hLl := cutL_len n ls
  rw [← eg, List.length_map] at hLl
  have rg := (pg.rd sL.2.1).out
  have fl : ((L.map Prod.fst).flatten) = ls := by rw [eg, cutL_flat]
  have hel : 0 < L.length → ∃ id off, g = .slice (some ⟨id, off, none⟩) L.length 1 ∧ id < h2.n := fun hpos => by
    obtain ⟨id, off, e, o, _, hlt⟩ := pg.out.open (k := 1) (m := L.length) (by simp) hpos (by omega)
    exact ⟨id, off, e, hlt⟩
  have hg0 : L.length = 0 → ∃ A c, g = .slice A 0 c := fun e0 => by
    obtain ⟨A, c, e, _⟩ := rg.rde (fun _ => rfl)
    exact ⟨A, c, by rw [e, e0]⟩
  with_reducible refine Exists.elim (rg.rde (fun _ => rfl)) (fun A2 hA2 => ?_)
  with_reducible refine Exists.elim hA2 (fun c2 hA2 => ?_)
  have eg2 := hA2.1
  have rA2 := hA2.2
  clear hA2
  subst eg2
  have big2 : Big h2 → True := fun _ => trivial
  simp (maxSteps := 1000000) -implicitDefEqProofs only [push_cast, seval]
  refine WC.loopA (by kernel_rfl) [6, 7] [2, 19, 20, 21, 22, 23, 24, 25, 26, 27, 28, 29, 30, 31, 32, 33, 34, 35, 36, 37, 38, 39, 40, 41, 42, 43, 44, 45, 46, 47, 48, 49, 50, 51, 52, 53, 54, 55, 56, 57, 58, 59, 60, 61, 62, 63, 64, 65, 66, 67, 68, 69] (fun a : Nat × Value => [a.2, .int .i64 (a.1 : Nat)]) (fun a h' => a.1 ≤ L.length ∧ Gr h2.n h' a.2 1 (((L.take a.1).map Prod.fst).flatten.map txV) ∧ Pre h2 h') (fun a => L.length - a.1) (0, .slice (some ⟨h2.n, 0, none⟩) 0 1) (by kernel_rfl) ⟨Nat.zero_le _, Gr.new (Nat.le_refl _) [] 0 1 rfl, (Pre.refl _).alloc _⟩ ?_
  intro a gg h3 hJ
  have hi := hJ.1
  have ga := hJ.2.1
  have p3 := hJ.2.2
  clear hJ
  simp (maxSteps := 1000000) -implicitDefEqProofs only [push_cast, seval]
  with_reducible refine bcase_d (fun hb => ?_) (fun hb => ?_)
  · have hi' : a.1 < L.length := by omega
    have hel2 := (rg.pre p3).el (fun _ => rfl) hi'
    with_reducible refine Exists.elim hel2 (fun id2 hel2 => ?_)
    with_reducible refine Exists.elim hel2 (fun off2 hel2 => ?_)
    with_reducible refine Exists.elim hel2 (fun c3 hel2 => ?_)
    have eA := hel2.1
    have l3 := hel2.2.1
    have hrd := hel2.2.2
    clear hel2
    have eA2 : A2 = some ⟨id2, off2, none⟩ := by injection eA
    subst eA2
    have hpart := cutL_part eg hi'
    have hin := (pg.pre p3).inn _ (List.getElem_mem hi')
    have rin := ((pg.pre p3).rd sL.2.1).inn _ (List.getElem_mem hi')
    with_reducible refine Exists.elim hin (fun i4 hin => ?_)
    with_reducible refine Exists.elim hin (fun off4 hin => ?_)
    have e4 := hin.1
    clear hin
    simp only [encP, Nat.mul_one] at hrd
    have r0 := rd_1 hrd
    have wI : IntKind.i64.wrap ((a.1 : Int) + 1) = ((a.1 + 1 : Nat) : Int) := wrapSucc (by omega)
    have ht : L.take (a.1 + 1) = L.take a.1 ++ [L[a.1]] := by rw [List.take_add_one, List.getElem?_eq_getElem hi']; rfl
    have hfs : ((L.take (a.1 + 1)).map Prod.fst).flatten = ((L.take a.1).map Prod.fst).flatten ++ L[a.1].1 := by rw [ht, List.map_append, List.flatten_append]; simp
    have hfl : ((L.take (a.1 + 1)).map Prod.fst).flatten.length ≤ ls.length := by
      have h1 : (L.map Prod.fst).flatten = ((L.take (a.1 + 1)).map Prod.fst).flatten ++ ((L.drop (a.1 + 1)).map Prod.fst).flatten := by rw [← List.flatten_append, ← List.map_append, List.take_append_drop]
      have h2 := congrArg List.length h1
      rw [fl, List.length_append] at h2
      omega
    have hfl2 : ((L.take a.1).map Prod.fst).flatten.length + L[a.1].1.length ≤ ls.length := by
      have h2 := congrArg List.length hfs
      rw [List.length_append] at h2
      omega
    generalize hx2 : L[a.1].2 = X2 at *
    subst e4
    have hp1 := hpart.1
    have hp2 : 0 < n → (L[a.1].1.length : Int) ≤ n := fun h => (hpart.2 h).1
    have hp3 : 0 < n → a.1 + 1 < L.length → (L[a.1].1.length : Int) = n := fun h => (hpart.2 h).2
    simp (maxSteps := 1000000) -implicitDefEqProofs only [push_cast, seval, hrd, r0, l3, wI, Nat.mul_one]
    repeat' (first | with_reducible (first | exact Keep.refl _ _ | assumption | exact byte_lt _ _ | apply Keep.alloc | (refine Keep.set ?_ ?_; rotate_left; · omega) | apply Pre.alloc | apply Pre.set | exact Pre.refl _ | exact le_alloc _ | (refine Pre.keep ?_; assumption) | (refine Pre.n ?_; assumption)) | ((with_reducible (first | refine bcase_d (fun hb => ?_) (fun hb => ?_) | refine bcase_mk (fun hb => ?_) (fun hb => ?_))) <;> try simp (maxSteps := 1000000) -implicitDefEqProofs only [push_cast, seval, hrd, r0, l3, wI, Nat.mul_one]) | with_reducible refine And.intro ?_ ?_ | omega | (simp only [alloc_n, set_n, kill_n]; omega) | (exfalso; omega))
    all_goals refine Gr.app (n0 := 0) (h0 := h2) si24 (by decide) (by decide) (notInt_sl und24) ga p3 rin.1.asrc (by rw [flat_tx]; simp) (by rw [List.length_map, Nat.div_one]; omega) (by omega) (fun h4 g4 o4 p4 n4 f4 => ?_)
    all_goals rw [flat_tx, ← List.map_append, ← hfs] at g4
    all_goals simp (maxSteps := 1000000) -implicitDefEqProofs only [push_cast, seval, wI]
    all_goals exact ⟨(a.1 + 1, _), by kernel_rfl, ⟨by show a.1 + 1 ≤ L.length; omega, g4, p4⟩, by show L.length - (a.1 + 1) < L.length - a.1; omega⟩
  · have e : a.1 = L.length := by omega
    rw [e, List.take_length, fl] at ga
    have ra : RdV h3 a.2 1 encTx ls := Gr.rdv (n0 := h2.n) (by rw [flat_tx]; exact ga) (by omega) (fun _ => rfl)
    have rl : RdV h3 (.slice (some ⟨id, off, none⟩) ls.length 1) 1 encTx ls := r1.pre (p2.trans p3)
    have hf := fun hn => cutL_few (n := n) eg hn
    simp (maxSteps := 1000000) -implicitDefEqProofs only [push_cast, seval]
    with_reducible refine CD.to (sameTexts_v ls ls _ _ h3 ra rl (by omega) (by omega)) ?_
    simp (maxSteps := 1000000) -implicitDefEqProofs only [push_cast, seval]
    have n3 := p3.n
    have pa : Lns (h3.alloc (.cells [.string ⟨#[97]⟩, .string ⟨#[98]⟩, .string ⟨#[99]⟩] .solo h3.n)) (some ⟨h3.n, 0, none⟩) [⟨#[97]⟩, ⟨#[98]⟩, ⟨#[99]⟩] := lns_new [⟨#[97]⟩, ⟨#[98]⟩, ⟨#[99]⟩] h3
    have hC := CutLines_i 2 [⟨#[97]⟩, ⟨#[98]⟩, ⟨#[99]⟩] _ _ pa (by decide) (by decide)
    have hn2 : (cutL 2 [(⟨#[97]⟩ : ByteArray), ⟨#[98]⟩, ⟨#[99]⟩]).length = 2 := by decide
    with_reducible refine bcase_d (fun hb2 => ?_) (fun hb2 => ?_)
    · simp (maxSteps := 1000000) -implicitDefEqProofs only [push_cast, seval]
      with_reducible refine CC.mono hC (fun y h5 hv => ?_)
      with_reducible refine Exists.elim hv (fun L5 hv => ?_)
      have py := hv.1
      have ey := hv.2.1
      clear hv
      have l5 : L5.length = 2 := by have h1 := congrArg List.length ey; rw [List.length_map, hn2] at h1; exact h1
      have r5 := (py.rd (cut_small (by decide) ey).2.1).out
      with_reducible refine Exists.elim (r5.rde (fun _ => rfl)) (fun A5 hA5 => ?_)
      with_reducible refine Exists.elim hA5 (fun c5 hA5 => ?_)
      have e5 := hA5.1
      clear hA5
      subst e5
      rw [l5]
      simp (maxSteps := 1000000) -implicitDefEqProofs only [push_cast, seval]
    · have hf2 := hf hb2
      simp (maxSteps := 1000000) -implicitDefEqProofs only [push_cast, seval]
      with_reducible refine bcase_d (fun hb3 => ?_) (fun hb3 => ?_)
      rotate_left
      · exfalso; omega
      simp (maxSteps := 1000000) -implicitDefEqProofs only [push_cast, seval]
      with_reducible refine CC.mono hC (fun y h5 hv => ?_)
      with_reducible refine Exists.elim hv (fun L5 hv => ?_)
      have py := hv.1
      have ey := hv.2.1
      clear hv
      have l5 : L5.length = 2 := by have h1 := congrArg List.length ey; rw [List.length_map, hn2] at h1; exact h1
      have r5 := (py.rd (cut_small (by decide) ey).2.1).out
      with_reducible refine Exists.elim (r5.rde (fun _ => rfl)) (fun A5 hA5 => ?_)
      with_reducible refine Exists.elim hA5 (fun c5 hA5 => ?_)
      have e5 := hA5.1
      clear hA5
      subst e5
      rw [l5]
      simp (maxSteps := 1000000) -implicitDefEqProofs only [push_cast, seval]
end Go.Proofs.Ytcggnolnakgkeaa
