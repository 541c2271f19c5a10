/- Parts of the proof of the row: the ground, contracts of the functions that it reaches (L81, L82, L83, L84, L85, L86, L87, L88, L89). Conditions: those that each theorem names. -/
import Derived.Test.YtciajhpeikemoaaB5
namespace Go.Proofs.Ytciajhpeikemoaa
open Go Go.Sim Go.Proofs
set_option linter.unusedSimpArgs false
set_option linter.unusedVariables false
set_option maxRecDepth 100000
set_option maxHeartbeats 1000000
theorem ReadVar_i (s : ByteArray) (a : Int) (hs : s.size ≤ maxLen - 16) (h : AH) : CD Try.prog 124 [.string s, .int .i64 a] h (.tuple #[.int .i64 (oN (rv s a)), .int .i64 (oX (rv s a)), .bool (rv s a).isSome]) h := by
  rw [maxLen_eq] at hs
  refine CD.quiet ?_ (low_tuple (by simp [low_int, low_bool]))
  refine CC.ofN Try.func124 Try.ntmps124 Try.results124 rfl (by decide) (by kernel_rfl) ?_
  simp (maxSteps := 1000000) -implicitDefEqProofs only [push_cast, seval]
  repeat' (first | with_reducible (first | exact Keep.refl _ _ | assumption | exact byte_lt _ _ | apply Keep.alloc | (refine Keep.set ?_ ?_; rotate_left; · omega) | apply Pre.alloc | apply Pre.set | exact Pre.refl _ | exact le_alloc _ | (refine Pre.keep ?_; assumption) | (refine Pre.n ?_; assumption)) | ((with_reducible (first | refine CD.to (within_c _ _ _ _) ?_ | refine CQ.pure (fun _ => within_c _ _ _ _) ?_ | refine bcase_d (fun hb => ?_) (fun hb => ?_) | refine bcase_mk (fun hb => ?_) (fun hb => ?_))) <;> try simp (maxSteps := 1000000) -implicitDefEqProofs only [push_cast, seval]) | with_reducible refine And.intro ?_ ?_ | omega | (simp only [alloc_n, set_n, kill_n]; omega) | (exfalso; omega))
  rotate_left
  · simp [rv, hb, oN, oX]
  · have hn : 0 ≤ a ∧ a ≤ s.size := by simpa [inB] using hb
    obtain ⟨a, rfl⟩ := Int.eq_ofNat_of_zero_le hn.1
    have hr : rv s (a : Int) = rvGo s a 5 0 0 := by simp [rv, hb]
    rw [hr]
    have hn2 : a ≤ s.size := by omega
    refine WC.loopA (by kernel_rfl) [7, 8] [4, 5, 6, 9, 15, 16, 17, 18, 19, 20, 21, 22, 23, 24, 25, 26, 27, 28, 29, 30, 31, 32, 33, 34, 35, 36, 37, 38, 39, 40, 41, 42, 43, 44, 45, 46, 47, 48, 49, 50, 51, 52, 53, 54, 55, 56] (fun p : Nat × Nat => [.int .i64 (p.2 : Nat), .int .i64 (p.1 : Nat)]) (fun p h' => (p.1 ≤ 5 ∧ p.2 < 128 ^ p.1 ∧ rvGo s a (5 - p.1) p.1 p.2 = rvGo s a 5 0 0) ∧ h' = h) (fun p => 5 - p.1) (0, 0) (by kernel_rfl) ⟨⟨by omega, by simp, rfl⟩, rfl⟩ ?_
    intro p g h1 hJ
    have hi := hJ.1.1
    have hlt := hJ.1.2.1
    have hgo := hJ.1.2.2
    have hh := hJ.2
    clear hJ
    subst hh
    with_reducible refine nameN (a + p.1) (fun N hN => ?_)
    have w1 : IntKind.i64.wrap ((a : Int) + (p.1 : Nat)) = (N : Int) := by rw [w64 (by omega) (by omega)]; omega
    simp (maxSteps := 1000000) -implicitDefEqProofs only [push_cast, seval, w1]
    with_reducible refine bcase_d (fun hb1 => ?_) (fun hb1 => ?_)
    rotate_left
    · have h5 : p.1 = 5 := by omega
      rw [h5] at hgo
      simp (maxSteps := 1000000) -implicitDefEqProofs only [push_cast, seval]
      have : rvGo s a 5 0 0 = none := by rw [← hgo]; rfl
      rw [this]
      exact ⟨rfl, Keep.refl _ _⟩
    simp (maxSteps := 1000000) -implicitDefEqProofs only [push_cast, seval, w1]
    with_reducible refine bcase_d (fun hb2 => ?_) (fun hb2 => ?_)
    rotate_left
    · simp (maxSteps := 1000000) -implicitDefEqProofs only [push_cast, seval]
      have : rvGo s a 5 0 0 = none := by rw [← hgo, rvGo_out _ _ _ _ _ (by omega)]
      rw [this]
      exact ⟨rfl, Keep.refl _ _⟩
    have h5 : p.1 < 5 := by omega
    have hp5 := pow128 h5
    have hsz : a + p.1 < s.size := by omega
    with_reducible refine nameN (bN s N) (fun c hc => ?_)
    with_reducible refine nameN (c % 128) (fun d hd => ?_)
    with_reducible refine nameN (7 * p.1) (fun j7 hj7 => ?_)
    with_reducible refine nameN (d * 128 ^ p.1) (fun x hx => ?_)
    with_reducible refine nameN (p.2 + x) (fun v hv => ?_)
    have hcl : c < 256 := hc ▸ bN_lt s N
    have hxl : x ≤ 127 * 128 ^ p.1 := hx ▸ hd ▸ dig_lt h5
    have eb : ((byteAt s N).toNat : Int) = (c : Int) := by rw [hc]; rfl
    have w2 : IntKind.i64.wrap (c : Int) = (c : Int) := wrapNat (by omega)
    have w3 : (c : Int).tmod 128 = (d : Int) := by rw [Int.tmod_eq_emod_of_nonneg (by omega)]; omega
    have w4 : IntKind.i64.wrap (7 * (p.1 : Int)) = (j7 : Int) := by rw [w64 (by omega) (by omega)]; omega
    have w5 : IntKind.i64.wrap ((d : Int) * 2 ^ min j7 IntKind.i64.bits) = (x : Int) := by
      have e : min j7 IntKind.i64.bits = 7 * p.1 := by rw [hj7]; exact Nat.min_eq_left (by show 7 * p.1 ≤ 64; omega)
      rw [e, show (2 : Int) ^ (7 * p.1) = ((128 ^ p.1 : Nat) : Int) by rw [Int.pow_mul]; norm_cast, ← Int.natCast_mul, ← hx]
      exact wrapNat (by omega)
    have w6 : IntKind.i64.wrap ((p.2 : Int) + (x : Int)) = (v : Int) := by
      rw [← Int.natCast_add, ← hv]; exact wrapNat (by omega)
    have w7 : IntKind.i64.wrap ((N : Int) + 1) = ((N + 1 : Nat) : Int) := wrapSucc (by omega)
    have hgo2 : rvGo s a (5 - p.1) p.1 p.2 = rvGo s a (4 - p.1 + 1) p.1 p.2 := by congr 1; omega
    rw [hgo2, rvGo_succ _ _ _ _ _ hsz, ← hN, ← hc, ← hd, ← hx, ← hv] at hgo
    have w8 := wrapSucc (n := p.1) (by omega)
    simp (maxSteps := 1000000) -implicitDefEqProofs only [push_cast, seval, w1, eb, w2, w3, w4, w5, w6]
    repeat' (first | with_reducible (first | exact Keep.refl _ _ | assumption | exact byte_lt _ _ | apply Keep.alloc | (refine Keep.set ?_ ?_; rotate_left; · omega) | apply Pre.alloc | apply Pre.set | exact Pre.refl _ | exact le_alloc _ | (refine Pre.keep ?_; assumption) | (refine Pre.n ?_; assumption)) | ((with_reducible (first | refine bcase_d (fun hb => ?_) (fun hb => ?_) | refine bcase_mk (fun hb => ?_) (fun hb => ?_))) <;> try simp (maxSteps := 1000000) -implicitDefEqProofs only [push_cast, seval, w1, eb, w2, w3, w4, w5, w6]) | with_reducible refine And.intro ?_ ?_ | omega | (simp only [alloc_n, set_n, kill_n]; omega) | (exfalso; omega))
    · rw [if_pos (by omega)] at hgo
      refine ⟨(p.1 + 1, v), by rw [w8], ?_, ?_⟩
      · refine ⟨by show p.1 + 1 ≤ 5; omega, by show v < 128 ^ (p.1 + 1); rw [Nat.pow_succ]; omega, ?_⟩
        rw [← hgo]; congr 1; show 5 - (p.1 + 1) = 4 - p.1; omega
      · show 5 - (p.1 + 1) < 5 - p.1
        omega
    all_goals
      rw [if_neg (by omega)] at hgo
      first
        | (rw [if_pos (by omega)] at hgo; rw [← hgo]; rfl)
        | (rw [if_neg (by omega)] at hgo; rw [← hgo, w7]; rfl)
theorem ReadVar_s (s : ByteArray) (a : Int) (hs : s.size ≤ maxLen - 16) (h : AH) : CD Try.prog 119 [.string s, .int .i64 a] h (.tuple #[.int .i64 (oN (rv s a)), .int .i64 (oX (rv s a)), .bool (rv s a).isSome]) h := by
  rw [maxLen_eq] at hs
  refine CD.quiet ?_ (low_tuple (by simp [low_int, low_bool]))
  refine CC.ofN Try.func119 Try.ntmps119 Try.results119 rfl (by decide) (by kernel_rfl) ?_
  simp (maxSteps := 1000000) -implicitDefEqProofs only [push_cast, seval]
  repeat' (first | with_reducible (first | exact Keep.refl _ _ | assumption | exact byte_lt _ _ | apply Keep.alloc | (refine Keep.set ?_ ?_; rotate_left; · omega) | apply Pre.alloc | apply Pre.set | exact Pre.refl _ | exact le_alloc _ | (refine Pre.keep ?_; assumption) | (refine Pre.n ?_; assumption)) | ((with_reducible (first | refine CD.to (l01In_c _ _ _ _) ?_ | refine CQ.pure (fun _ => l01In_c _ _ _ _) ?_ | refine bcase_d (fun hb => ?_) (fun hb => ?_) | refine bcase_mk (fun hb => ?_) (fun hb => ?_))) <;> try simp (maxSteps := 1000000) -implicitDefEqProofs only [push_cast, seval]) | with_reducible refine And.intro ?_ ?_ | omega | (simp only [alloc_n, set_n, kill_n]; omega) | (exfalso; omega))
  rotate_left
  · simp [rv, hb, oN, oX]
  · have hn : 0 ≤ a ∧ a ≤ s.size := by simpa [inB] using hb
    obtain ⟨a, rfl⟩ := Int.eq_ofNat_of_zero_le hn.1
    have hr : rv s (a : Int) = rvGo s a 5 0 0 := by simp [rv, hb]
    rw [hr]
    have hn2 : a ≤ s.size := by omega
    refine WC.loopA (by kernel_rfl) [7, 8, 9] [4, 5, 6, 16, 17, 18, 19, 20, 21, 22, 23, 24, 25, 26, 27, 28, 29, 30, 31, 32, 33, 34, 35, 36, 37, 38, 39, 40, 41, 42, 43, 44, 45, 46, 47, 48, 49, 50, 51, 52, 53, 54, 55, 56, 57] (fun z : Nat × Nat × Nat × Nat => [.int .i64 (z.2.1 : Nat), .int .i64 (z.2.2.1 : Nat), .int .i64 (z.2.2.2 : Nat)]) (fun z h' => ((z.2.1 = sumv (bl s a z.1) ∧ z.2.2.1 = 128 ^ z.1 ∧ z.2.2.2 = a + z.1) ∧ z.1 ≤ 5 ∧ a + z.1 ≤ s.size ∧ (∀ b ∈ bl s a z.1, 127 < b ∧ b < 256) ∧ z.2.1 < z.2.2.1 ∧ rvGo s a (5 - z.1) z.1 z.2.1 = rvGo s a 5 0 0) ∧ h' = h) (fun z => 5 - z.1) (0, 0, 1, a) (by kernel_rfl) ⟨⟨⟨rfl, rfl, rfl⟩, by omega, by show a + 0 ≤ s.size; omega, by simp [bl], by show 0 < 1; decide, rfl⟩, rfl⟩ ?_
    intro z g h1 hJ
    have hq := hJ.1.1.1
    have hsc := hJ.1.1.2.1
    have hN := hJ.1.1.2.2
    have hi := hJ.1.2.1
    have hsz0 := hJ.1.2.2.1
    have hall := hJ.1.2.2.2.1
    have hlt := hJ.1.2.2.2.2.1
    have hgo := hJ.1.2.2.2.2.2
    have hh := hJ.2
    clear hJ
    subst hh
    with_reducible refine nameN z.1 (fun i hi0 => ?_)
    with_reducible refine nameN z.2.1 (fun q hq0 => ?_)
    with_reducible refine nameN z.2.2.1 (fun sc hsc0 => ?_)
    with_reducible refine nameN z.2.2.2 (fun N hN0 => ?_)
    rw [← hi0, ← hq0] at hgo
    rw [← hq0, ← hsc0] at hlt
    rw [← hi0] at hall hsz0 hi
    rw [← hi0, ← hq0] at hq
    rw [← hi0, ← hsc0] at hsc
    rw [← hi0, ← hN0] at hN
    rw [← hq0, ← hsc0, ← hN0]
    simp (maxSteps := 1000000) -implicitDefEqProofs only [push_cast, seval]
    with_reducible refine bcase_d (fun hb1 => ?_) (fun hb1 => ?_)
    rotate_left
    · simp (maxSteps := 1000000) -implicitDefEqProofs only [push_cast, seval]
      have : rvGo s a 5 0 0 = none := by rw [← hgo, rvGo_out _ _ _ _ _ (by omega)]
      rw [this]
      exact ⟨rfl, Keep.refl _ _⟩
    have w1 : IntKind.i64.wrap ((a : Int) + 5) = (a : Int) + 5 := by rw [w64 (by omega) (by omega)]
    simp (maxSteps := 1000000) -implicitDefEqProofs only [push_cast, seval, w1]
    with_reducible refine bcase_d (fun hb2 => ?_) (fun hb2 => ?_)
    rotate_left
    · have h5 : i = 5 := by omega
      rw [h5] at hgo
      simp (maxSteps := 1000000) -implicitDefEqProofs only [push_cast, seval]
      have : rvGo s a 5 0 0 = none := by rw [← hgo]; rfl
      rw [this]
      exact ⟨rfl, Keep.refl _ _⟩
    have h5 : i < 5 := by omega
    have hp5 := pow128 h5
    have hsz : a + i < s.size := by omega
    with_reducible refine nameN (bN s N) (fun c hc => ?_)
    with_reducible refine nameN (c % 128) (fun d hd => ?_)
    with_reducible refine nameN (d * sc) (fun x hx => ?_)
    with_reducible refine nameN (q + x) (fun v hv => ?_)
    with_reducible refine nameN (sc * 128) (fun sc' hsc' => ?_)
    have hcl : c < 256 := hc ▸ bN_lt s N
    have hxl : x ≤ 127 * 128 ^ i := by rw [hx, hsc, hd]; exact dig_lt h5
    have eb : ((byteAt s N).toNat : Int) = (c : Int) := by rw [hc]; rfl
    have w2 : IntKind.i64.wrap (c : Int) = (c : Int) := wrapNat (by omega)
    have w3 : (c : Int).tmod 128 = (d : Int) := by rw [Int.tmod_eq_emod_of_nonneg (by omega)]; omega
    have w5 : IntKind.i64.wrap ((d : Int) * (sc : Int)) = (x : Int) := by rw [← Int.natCast_mul, ← hx]; exact wrapNat (by omega)
    have w6 : IntKind.i64.wrap ((q : Int) + (x : Int)) = (v : Int) := by
      rw [← Int.natCast_add, ← hv]; exact wrapNat (by omega)
    have w9 : IntKind.i64.wrap ((sc : Int) * 128) = (sc' : Int) := by rw [w64 (by omega) (by omega)]; omega
    have w7 : IntKind.i64.wrap ((N : Int) + 1) = ((N + 1 : Nat) : Int) := wrapSucc (by omega)
    have hv2 : v = sumv (bl s a (i + 1)) := by rw [bl_succ, sumv_snoc, bl_len, ← hN, ← hc, ← hd, ← hsc, ← hx, ← hq, hv]
    have hgo2 : rvGo s a (5 - i) i q = rvGo s a (4 - i + 1) i q := by congr 1; omega
    rw [hgo2, rvGo_succ _ _ _ _ _ hsz, ← hN, ← hc, ← hd, ← hsc, ← hx, ← hv] at hgo
    have h1000 : v ≤ 34359738367 := by omega
    simp (maxSteps := 1000000) -implicitDefEqProofs only [push_cast, seval, eb, w2, w3, w5, w6, w9]
    repeat' (first | with_reducible (first | exact Keep.refl _ _ | assumption | exact byte_lt _ _ | apply Keep.alloc | (refine Keep.set ?_ ?_; rotate_left; · omega) | apply Pre.alloc | apply Pre.set | exact Pre.refl _ | exact le_alloc _ | (refine Pre.keep ?_; assumption) | (refine Pre.n ?_; assumption)) | ((with_reducible (first | refine bcase_d (fun hb => ?_) (fun hb => ?_) | refine bcase_mk (fun hb => ?_) (fun hb => ?_))) <;> try simp (maxSteps := 1000000) -implicitDefEqProofs only [push_cast, seval, eb, w2, w3, w5, w6, w9]) | with_reducible refine And.intro ?_ ?_ | omega | (simp only [alloc_n, set_n, kill_n]; omega) | (exfalso; omega))
    rotate_left
    · rw [if_pos (by omega)] at hgo
      refine ⟨(i + 1, v, sc', N + 1), by rw [w7], ?_, ?_⟩
      · refine ⟨⟨hv2, by show sc' = 128 ^ (i + 1); rw [Nat.pow_succ, ← hsc, hsc'], by show N + 1 = a + (i + 1); omega⟩, by show i + 1 ≤ 5; omega, by show a + (i + 1) ≤ s.size; omega, ?_, ?_, ?_⟩
        · intro b hb'
          have hb' : b ∈ bl s a (i + 1) := hb'
          rw [bl_succ, List.mem_append, List.mem_singleton] at hb'
          rcases hb' with h' | h'
          · exact hall b h'
          · rw [h', ← hN, ← hc]; omega
        · show v < sc'
          rw [hsc']; omega
        · rw [← hgo]
          show rvGo s a (5 - (i + 1)) (i + 1) v = _
          congr 1; omega
      · show 5 - (i + 1) < 5 - z.1
        omega
    · rw [if_neg (by omega)] at hgo
      have key : (vt (v : Int) = s.extract a (N + 1)) ↔ ¬ (0 < i ∧ c = 0) := by
        have e0 : N + 1 = a + (i + 1) := by omega
        have e1 : bl s a (i + 1) = bl s a i ++ [c] := by rw [bl_succ, ← hN, ← hc]
        have e2 := vt_eq v s a (i + 1) (by omega)
        rw [e0]
        show (⟨((var (v : Int).toNat).map UInt8.ofNat).toArray⟩ : ByteArray) = _ ↔ _
        rw [Int.toNat_natCast, e2, hv2, e1]
        constructor
        · rintro e ⟨h0, hc0⟩
          rw [hc0] at e
          exact var_no _ (by intro e'; have := bl_len s a i; rw [e'] at this; simp at this; omega) e
        · intro hne
          refine var_sum c (by omega) _ hall ?_
          by_cases hc0 : c = 0
          · right
            have : i = 0 := by omega
            rw [this]; rfl
          · exact .inl hc0
      refine WC.draw' (by kernel_rfl) (by kernel_rfl) (.q 0 (.q 1 (.q 2 (.q 3 (.q 5 (.q 6 (.q 7 (.q 8 (.q 9 (.c 4 (.q 10 (.q 11 (.done))))))))))))) (by kernel_rfl) ?_
      simp (maxSteps := 1000000) -implicitDefEqProofs only [push_cast, seval, eb, w2, w3, w5, w6, w9, w7]
      repeat' (first | with_reducible (first | exact Keep.refl _ _ | assumption | exact byte_lt _ _ | apply Keep.alloc | (refine Keep.set ?_ ?_; rotate_left; · omega) | apply Pre.alloc | apply Pre.set | exact Pre.refl _ | exact le_alloc _ | (refine Pre.keep ?_; assumption) | (refine Pre.n ?_; assumption)) | ((with_reducible (first | refine CD.to (l01Var_c _ ?_ _) ?_ | refine CQ.pure (fun _ => l01Var_c _ ?_ _) ?_ | refine bcase_d (fun hb => ?_) (fun hb => ?_) | refine bcase_mk (fun hb => ?_) (fun hb => ?_))) <;> try simp (maxSteps := 1000000) -implicitDefEqProofs only [push_cast, seval, eb, w2, w3, w5, w6, w9, w7]) | with_reducible refine And.intro ?_ ?_ | omega | (simp only [alloc_n, set_n, kill_n]; omega) | (exfalso; omega))
      · rw [if_pos (by omega)] at hgo; rw [← hgo]; rfl
      · rw [if_neg (by have := key.1 hb; omega)] at hgo; rw [← hgo, hN]; rfl
      · rw [if_pos (by by_cases h' : 0 < i ∧ c = 0
                       · exact .inl h'
                       · exact absurd (key.2 h') hb)] at hgo
        rw [← hgo]; rfl
theorem ReadShort_i (s : ByteArray) (a : Int) (hs : s.size ≤ maxLen - 16) (h : AH) : CD Try.prog 123 [.string s, .int .i64 a] h (.tuple #[.string (sT s (rs s a)), .int .i64 (sX (rs s a)), .bool (rs s a).isSome]) h := by
  refine CD.quiet ?_ (low_tuple (by simp [low_int, low_bool, low_string]))
  have hm := maxLen_eq
  rcases hr : rv s a with _ | ⟨n, x⟩
  · have e : rs s a = none := by simp [rs, hr]
    rw [e]
    refine CC.ofN Try.func123 Try.ntmps123 Try.results123 rfl (by decide) (by kernel_rfl) ?_
    simp (maxSteps := 1000000) -implicitDefEqProofs only [push_cast, seval]
    repeat' (first | with_reducible (first | exact Keep.refl _ _ | assumption | exact byte_lt _ _ | apply Keep.alloc | (refine Keep.set ?_ ?_; rotate_left; · omega) | apply Pre.alloc | apply Pre.set | exact Pre.refl _ | exact le_alloc _ | (refine Pre.keep ?_; assumption) | (refine Pre.n ?_; assumption)) | ((with_reducible (first | refine CD.to (ReadVar_i _ _ ?_ _) ?_ | refine CQ.pure (fun _ => ReadVar_i _ _ ?_ _) ?_ | refine bcase_d (fun hb => ?_) (fun hb => ?_) | refine bcase_mk (fun hb => ?_) (fun hb => ?_))) <;> try simp (maxSteps := 1000000) -implicitDefEqProofs only [push_cast, seval, hr]) | with_reducible refine And.intro ?_ ?_ | omega | (simp only [alloc_n, set_n, kill_n]; omega) | (exfalso; omega))
  · have hx := rv_some hr
    simp only at hx
    have e : rs s a = if 20000 < n ∨ s.size < x + n then none else some (n, x) := by simp [rs, hr]
    have w1 : IntKind.i64.wrap ((s.size : Int) - (x : Int)) = (s.size : Int) - (x : Int) := by rw [w64 (by omega) (by omega)]
    rw [e]
    by_cases hc : 20000 < n ∨ s.size < x + n
    · rw [if_pos hc]
      refine CC.ofN Try.func123 Try.ntmps123 Try.results123 rfl (by decide) (by kernel_rfl) ?_
      simp (maxSteps := 1000000) -implicitDefEqProofs only [push_cast, seval]
      repeat' (first | with_reducible (first | exact Keep.refl _ _ | assumption | exact byte_lt _ _ | apply Keep.alloc | (refine Keep.set ?_ ?_; rotate_left; · omega) | apply Pre.alloc | apply Pre.set | exact Pre.refl _ | exact le_alloc _ | (refine Pre.keep ?_; assumption) | (refine Pre.n ?_; assumption)) | ((with_reducible (first | refine CD.to (ReadVar_i _ _ ?_ _) ?_ | refine CQ.pure (fun _ => ReadVar_i _ _ ?_ _) ?_ | refine bcase_d (fun hb => ?_) (fun hb => ?_) | refine bcase_mk (fun hb => ?_) (fun hb => ?_))) <;> try simp (maxSteps := 1000000) -implicitDefEqProofs only [push_cast, seval, hr, w1]) | with_reducible refine And.intro ?_ ?_ | omega | (simp only [alloc_n, set_n, kill_n]; omega) | (exfalso; omega))
    · rw [if_neg hc]
      have w2 : IntKind.i64.wrap ((x : Int) + (n : Int)) = (x : Int) + (n : Int) := by rw [w64 (by omega) (by omega)]
      refine CC.ofN Try.func123 Try.ntmps123 Try.results123 rfl (by decide) (by kernel_rfl) ?_
      simp (maxSteps := 1000000) -implicitDefEqProofs only [push_cast, seval]
      repeat' (first | with_reducible (first | exact Keep.refl _ _ | assumption | exact byte_lt _ _ | apply Keep.alloc | (refine Keep.set ?_ ?_; rotate_left; · omega) | apply Pre.alloc | apply Pre.set | exact Pre.refl _ | exact le_alloc _ | (refine Pre.keep ?_; assumption) | (refine Pre.n ?_; assumption)) | ((with_reducible (first | refine CD.to (ReadVar_i _ _ ?_ _) ?_ | refine CQ.pure (fun _ => ReadVar_i _ _ ?_ _) ?_ | refine bcase_d (fun hb => ?_) (fun hb => ?_) | refine bcase_mk (fun hb => ?_) (fun hb => ?_))) <;> try simp (maxSteps := 1000000) -implicitDefEqProofs only [push_cast, seval, hr, w1, w2]) | with_reducible refine And.intro ?_ ?_ | omega | (simp only [alloc_n, set_n, kill_n]; omega) | (exfalso; omega))
      rw [show ((x : Int) + (n : Int)).toNat = x + n by omega]; rfl
theorem ReadShort_s (s : ByteArray) (a : Int) (hs : s.size ≤ maxLen - 16) (h : AH) : CD Try.prog 120 [.string s, .int .i64 a] h (.tuple #[.string (sT s (rs s a)), .int .i64 (sX (rs s a)), .bool (rs s a).isSome]) h := by
  refine CD.quiet ?_ (low_tuple (by simp [low_int, low_bool, low_string]))
  have hm := maxLen_eq
  rcases hr : rv s a with _ | ⟨n, x⟩
  · have e : rs s a = none := by simp [rs, hr]
    rw [e]
    refine CC.ofN Try.func120 Try.ntmps120 Try.results120 rfl (by decide) (by kernel_rfl) ?_
    simp (maxSteps := 1000000) -implicitDefEqProofs only [push_cast, seval]
    repeat' (first | with_reducible (first | exact Keep.refl _ _ | assumption | exact byte_lt _ _ | apply Keep.alloc | (refine Keep.set ?_ ?_; rotate_left; · omega) | apply Pre.alloc | apply Pre.set | exact Pre.refl _ | exact le_alloc _ | (refine Pre.keep ?_; assumption) | (refine Pre.n ?_; assumption)) | ((with_reducible (first | refine CD.to (ReadVar_s _ _ ?_ _) ?_ | refine CQ.pure (fun _ => ReadVar_s _ _ ?_ _) ?_ | refine bcase_d (fun hb => ?_) (fun hb => ?_) | refine bcase_mk (fun hb => ?_) (fun hb => ?_))) <;> try simp (maxSteps := 1000000) -implicitDefEqProofs only [push_cast, seval, hr]) | with_reducible refine And.intro ?_ ?_ | omega | (simp only [alloc_n, set_n, kill_n]; omega) | (exfalso; omega))
  · have hx := rv_some hr
    simp only at hx
    have e : rs s a = if 20000 < n ∨ s.size < x + n then none else some (n, x) := by simp [rs, hr]
    have w1 : IntKind.i64.wrap ((s.size : Int) - (x : Int)) = (s.size : Int) - (x : Int) := by rw [w64 (by omega) (by omega)]
    rw [e]
    by_cases hc : 20000 < n ∨ s.size < x + n
    · rw [if_pos hc]
      refine CC.ofN Try.func120 Try.ntmps120 Try.results120 rfl (by decide) (by kernel_rfl) ?_
      simp (maxSteps := 1000000) -implicitDefEqProofs only [push_cast, seval]
      repeat' (first | with_reducible (first | exact Keep.refl _ _ | assumption | exact byte_lt _ _ | apply Keep.alloc | (refine Keep.set ?_ ?_; rotate_left; · omega) | apply Pre.alloc | apply Pre.set | exact Pre.refl _ | exact le_alloc _ | (refine Pre.keep ?_; assumption) | (refine Pre.n ?_; assumption)) | ((with_reducible (first | refine CD.to (ReadVar_s _ _ ?_ _) ?_ | refine CQ.pure (fun _ => ReadVar_s _ _ ?_ _) ?_ | refine bcase_d (fun hb => ?_) (fun hb => ?_) | refine bcase_mk (fun hb => ?_) (fun hb => ?_))) <;> try simp (maxSteps := 1000000) -implicitDefEqProofs only [push_cast, seval, hr, w1]) | with_reducible refine And.intro ?_ ?_ | omega | (simp only [alloc_n, set_n, kill_n]; omega) | (exfalso; omega))
    · rw [if_neg hc]
      have w2 : IntKind.i64.wrap ((x : Int) + (n : Int)) = (x : Int) + (n : Int) := by rw [w64 (by omega) (by omega)]
      refine CC.ofN Try.func120 Try.ntmps120 Try.results120 rfl (by decide) (by kernel_rfl) ?_
      simp (maxSteps := 1000000) -implicitDefEqProofs only [push_cast, seval]
      repeat' (first | with_reducible (first | exact Keep.refl _ _ | assumption | exact byte_lt _ _ | apply Keep.alloc | (refine Keep.set ?_ ?_; rotate_left; · omega) | apply Pre.alloc | apply Pre.set | exact Pre.refl _ | exact le_alloc _ | (refine Pre.keep ?_; assumption) | (refine Pre.n ?_; assumption)) | ((with_reducible (first | refine CD.to (ReadVar_s _ _ ?_ _) ?_ | refine CQ.pure (fun _ => ReadVar_s _ _ ?_ _) ?_ | refine bcase_d (fun hb => ?_) (fun hb => ?_) | refine bcase_mk (fun hb => ?_) (fun hb => ?_))) <;> try simp (maxSteps := 1000000) -implicitDefEqProofs only [push_cast, seval, hr, w1, w2]) | with_reducible refine And.intro ?_ ?_ | omega | (simp only [alloc_n, set_n, kill_n]; omega) | (exfalso; omega))
      rw [show ((x : Int) + (n : Int)).toNat = x + n by omega]; rfl
theorem number_c (p : Nat) (s : ByteArray) (a : Nat) (bad : Bool) (hs : s.size ≤ maxLen - 16) (h : AH) (e : h.ob p = rdOb p s a bad) :
    CD Try.prog 69 [.pointer (some ⟨p, 0, none⟩)] h (.int .i64 (oN (if bad then none else rv s a))) (h.set p (rdOb p s (nxN (if bad then none else rv s a) a) (if bad then none else rv s a).isNone)) := by
  refine CD.withBig (fun big => ?_)
  have hp : p < h.n := big.ltOb e (by simp [rdOb])
  refine CD.wrote hp ?_ (low_int _ _ _) (rdOb_low _ _ _ _ _)
  simp only [rdOb] at e ⊢
  cases bad with
  | true =>
    simp only [if_true, oN_none, nxN_none, Option.isNone_none]
    refine CC.ofN Try.func69 Try.ntmps69 Try.results69 rfl (by decide) (by kernel_rfl) ?_
    simp (maxSteps := 1000000) -implicitDefEqProofs only [push_cast, seval]
    refine WC.draw' (by kernel_rfl) (by kernel_rfl) (.q 0 (.q 1 (.q 2 (.q 3 (.q 4 (.q 5 (.q 6 (.q 7 (.c 8 (.q 9 (.q 10 (.q 11 (.q 12 (.q 13 (.q 14 (.q 15 (.done))))))))))))))))) (by kernel_rfl) ?_
    simp (maxSteps := 1000000) -implicitDefEqProofs only [push_cast, seval, rd_of e, rd1_of e, e, hp]
    repeat' (first | with_reducible (first | exact Keep.refl _ _ | assumption | exact byte_lt _ _ | apply Keep.alloc | (refine Keep.set ?_ ?_; rotate_left; · omega) | apply Pre.alloc | apply Pre.set | exact Pre.refl _ | exact le_alloc _ | (refine Pre.keep ?_; assumption) | (refine Pre.n ?_; assumption)) | ((with_reducible (first | refine CD.to (ReadVar_i _ _ ?_ _) ?_ | refine CQ.pure (fun _ => ReadVar_i _ _ ?_ _) ?_ | refine bcase_d (fun hb => ?_) (fun hb => ?_) | refine bcase_mk (fun hb => ?_) (fun hb => ?_))) <;> try simp (maxSteps := 1000000) -implicitDefEqProofs only [push_cast, seval, rd_of e, rd1_of e, e, hp]) | with_reducible refine And.intro ?_ ?_ | omega | (simp only [alloc_n, set_n, kill_n]; omega) | (exfalso; omega))
  | false =>
    rcases hr : rv s a with _ | ⟨n, x⟩
    · simp only [Bool.false_eq_true, if_false, oN_none, nxN_none, Option.isNone_none, oN_some, nxN_some, Option.isNone_some]
      refine CC.ofN Try.func69 Try.ntmps69 Try.results69 rfl (by decide) (by kernel_rfl) ?_
      simp (maxSteps := 1000000) -implicitDefEqProofs only [push_cast, seval]
      refine WC.draw' (by kernel_rfl) (by kernel_rfl) (.q 0 (.q 1 (.q 2 (.q 3 (.q 4 (.q 5 (.q 6 (.q 7 (.c 8 (.q 9 (.q 10 (.q 11 (.q 12 (.q 13 (.q 14 (.q 15 (.done))))))))))))))))) (by kernel_rfl) ?_
      simp (maxSteps := 1000000) -implicitDefEqProofs only [push_cast, seval, rd_of e, rd1_of e, e, hp]
      repeat' (first | with_reducible (first | exact Keep.refl _ _ | assumption | exact byte_lt _ _ | apply Keep.alloc | (refine Keep.set ?_ ?_; rotate_left; · omega) | apply Pre.alloc | apply Pre.set | exact Pre.refl _ | exact le_alloc _ | (refine Pre.keep ?_; assumption) | (refine Pre.n ?_; assumption)) | ((with_reducible (first | refine CD.to (ReadVar_i _ _ ?_ _) ?_ | refine CQ.pure (fun _ => ReadVar_i _ _ ?_ _) ?_ | refine bcase_d (fun hb => ?_) (fun hb => ?_) | refine bcase_mk (fun hb => ?_) (fun hb => ?_))) <;> try simp (maxSteps := 1000000) -implicitDefEqProofs only [push_cast, seval, rd_of e, rd1_of e, e, hp, hr]) | with_reducible refine And.intro ?_ ?_ | omega | (simp only [alloc_n, set_n, kill_n]; omega) | (exfalso; omega))
    · simp only [Bool.false_eq_true, if_false, oN_none, nxN_none, Option.isNone_none, oN_some, nxN_some, Option.isNone_some]
      refine CC.ofN Try.func69 Try.ntmps69 Try.results69 rfl (by decide) (by kernel_rfl) ?_
      simp (maxSteps := 1000000) -implicitDefEqProofs only [push_cast, seval]
      refine WC.draw' (by kernel_rfl) (by kernel_rfl) (.q 0 (.q 1 (.q 2 (.q 3 (.q 4 (.q 5 (.q 6 (.q 7 (.c 8 (.q 9 (.q 10 (.q 11 (.q 12 (.q 13 (.q 14 (.q 15 (.done))))))))))))))))) (by kernel_rfl) ?_
      simp (maxSteps := 1000000) -implicitDefEqProofs only [push_cast, seval, rd_of e, rd1_of e, e, hp]
      repeat' (first | with_reducible (first | exact Keep.refl _ _ | assumption | exact byte_lt _ _ | apply Keep.alloc | (refine Keep.set ?_ ?_; rotate_left; · omega) | apply Pre.alloc | apply Pre.set | exact Pre.refl _ | exact le_alloc _ | (refine Pre.keep ?_; assumption) | (refine Pre.n ?_; assumption)) | ((with_reducible (first | refine CD.to (ReadVar_i _ _ ?_ _) ?_ | refine CQ.pure (fun _ => ReadVar_i _ _ ?_ _) ?_ | refine bcase_d (fun hb => ?_) (fun hb => ?_) | refine bcase_mk (fun hb => ?_) (fun hb => ?_))) <;> try simp (maxSteps := 1000000) -implicitDefEqProofs only [push_cast, seval, rd_of e, rd1_of e, e, hp, hr]) | with_reducible refine And.intro ?_ ?_ | omega | (simp only [alloc_n, set_n, kill_n]; omega) | (exfalso; omega))
theorem l07Var_c (p : Nat) (s : ByteArray) (a : Nat) (bad : Bool) (hs : s.size ≤ maxLen - 16) (h : AH) (e : h.ob p = rdOb p s a bad) :
    CD Try.prog 63 [.pointer (some ⟨p, 0, none⟩)] h (.int .i64 (oN (if bad then none else rv s a))) (h.set p (rdOb p s (nxN (if bad then none else rv s a) a) (if bad then none else rv s a).isNone)) := by
  refine CD.withBig (fun big => ?_)
  have hp : p < h.n := big.ltOb e (by simp [rdOb])
  refine CD.wrote hp ?_ (low_int _ _ _) (rdOb_low _ _ _ _ _)
  simp only [rdOb] at e ⊢
  cases bad with
  | true =>
    simp only [if_true, oN_none, nxN_none, Option.isNone_none]
    refine CC.ofN Try.func63 Try.ntmps63 Try.results63 rfl (by decide) (by kernel_rfl) ?_
    simp (maxSteps := 1000000) -implicitDefEqProofs only [push_cast, seval]
    refine WC.draw' (by kernel_rfl) (by kernel_rfl) (.q 0 (.q 1 (.q 2 (.q 3 (.q 4 (.q 5 (.q 6 (.q 7 (.c 8 (.q 9 (.q 10 (.q 11 (.q 12 (.q 13 (.q 14 (.q 15 (.done))))))))))))))))) (by kernel_rfl) ?_
    simp (maxSteps := 1000000) -implicitDefEqProofs only [push_cast, seval, rd_of e, rd1_of e, e, hp]
    repeat' (first | with_reducible (first | exact Keep.refl _ _ | assumption | exact byte_lt _ _ | apply Keep.alloc | (refine Keep.set ?_ ?_; rotate_left; · omega) | apply Pre.alloc | apply Pre.set | exact Pre.refl _ | exact le_alloc _ | (refine Pre.keep ?_; assumption) | (refine Pre.n ?_; assumption)) | ((with_reducible (first | refine CD.to (ReadVar_s _ _ ?_ _) ?_ | refine CQ.pure (fun _ => ReadVar_s _ _ ?_ _) ?_ | refine bcase_d (fun hb => ?_) (fun hb => ?_) | refine bcase_mk (fun hb => ?_) (fun hb => ?_))) <;> try simp (maxSteps := 1000000) -implicitDefEqProofs only [push_cast, seval, rd_of e, rd1_of e, e, hp]) | with_reducible refine And.intro ?_ ?_ | omega | (simp only [alloc_n, set_n, kill_n]; omega) | (exfalso; omega))
  | false =>
    rcases hr : rv s a with _ | ⟨n, x⟩
    · simp only [Bool.false_eq_true, if_false, oN_none, nxN_none, Option.isNone_none, oN_some, nxN_some, Option.isNone_some]
      refine CC.ofN Try.func63 Try.ntmps63 Try.results63 rfl (by decide) (by kernel_rfl) ?_
      simp (maxSteps := 1000000) -implicitDefEqProofs only [push_cast, seval]
      refine WC.draw' (by kernel_rfl) (by kernel_rfl) (.q 0 (.q 1 (.q 2 (.q 3 (.q 4 (.q 5 (.q 6 (.q 7 (.c 8 (.q 9 (.q 10 (.q 11 (.q 12 (.q 13 (.q 14 (.q 15 (.done))))))))))))))))) (by kernel_rfl) ?_
      simp (maxSteps := 1000000) -implicitDefEqProofs only [push_cast, seval, rd_of e, rd1_of e, e, hp]
      repeat' (first | with_reducible (first | exact Keep.refl _ _ | assumption | exact byte_lt _ _ | apply Keep.alloc | (refine Keep.set ?_ ?_; rotate_left; · omega) | apply Pre.alloc | apply Pre.set | exact Pre.refl _ | exact le_alloc _ | (refine Pre.keep ?_; assumption) | (refine Pre.n ?_; assumption)) | ((with_reducible (first | refine CD.to (ReadVar_s _ _ ?_ _) ?_ | refine CQ.pure (fun _ => ReadVar_s _ _ ?_ _) ?_ | refine bcase_d (fun hb => ?_) (fun hb => ?_) | refine bcase_mk (fun hb => ?_) (fun hb => ?_))) <;> try simp (maxSteps := 1000000) -implicitDefEqProofs only [push_cast, seval, rd_of e, rd1_of e, e, hp, hr]) | with_reducible refine And.intro ?_ ?_ | omega | (simp only [alloc_n, set_n, kill_n]; omega) | (exfalso; omega))
    · simp only [Bool.false_eq_true, if_false, oN_none, nxN_none, Option.isNone_none, oN_some, nxN_some, Option.isNone_some]
      refine CC.ofN Try.func63 Try.ntmps63 Try.results63 rfl (by decide) (by kernel_rfl) ?_
      simp (maxSteps := 1000000) -implicitDefEqProofs only [push_cast, seval]
      refine WC.draw' (by kernel_rfl) (by kernel_rfl) (.q 0 (.q 1 (.q 2 (.q 3 (.q 4 (.q 5 (.q 6 (.q 7 (.c 8 (.q 9 (.q 10 (.q 11 (.q 12 (.q 13 (.q 14 (.q 15 (.done))))))))))))))))) (by kernel_rfl) ?_
      simp (maxSteps := 1000000) -implicitDefEqProofs only [push_cast, seval, rd_of e, rd1_of e, e, hp]
      repeat' (first | with_reducible (first | exact Keep.refl _ _ | assumption | exact byte_lt _ _ | apply Keep.alloc | (refine Keep.set ?_ ?_; rotate_left; · omega) | apply Pre.alloc | apply Pre.set | exact Pre.refl _ | exact le_alloc _ | (refine Pre.keep ?_; assumption) | (refine Pre.n ?_; assumption)) | ((with_reducible (first | refine CD.to (ReadVar_s _ _ ?_ _) ?_ | refine CQ.pure (fun _ => ReadVar_s _ _ ?_ _) ?_ | refine bcase_d (fun hb => ?_) (fun hb => ?_) | refine bcase_mk (fun hb => ?_) (fun hb => ?_))) <;> try simp (maxSteps := 1000000) -implicitDefEqProofs only [push_cast, seval, rd_of e, rd1_of e, e, hp, hr]) | with_reducible refine And.intro ?_ ?_ | omega | (simp only [alloc_n, set_n, kill_n]; omega) | (exfalso; omega))
theorem short_c (p : Nat) (s : ByteArray) (a : Nat) (bad : Bool) (hs : s.size ≤ maxLen - 16) (h : AH) (e : h.ob p = rdOb p s a bad) :
    CD Try.prog 67 [.pointer (some ⟨p, 0, none⟩)] h (.string (sT s (if bad then none else rs s a))) (h.set p (rdOb p s (nxT (if bad then none else rs s a) a) (if bad then none else rs s a).isNone)) := by
  refine CD.withBig (fun big => ?_)
  have hp : p < h.n := big.ltOb e (by simp [rdOb])
  refine CD.wrote hp ?_ (low_string _ _) (rdOb_low _ _ _ _ _)
  simp only [rdOb] at e ⊢
  cases bad with
  | true =>
    simp only [if_true, sT_none, nxT_none, Option.isNone_none]
    refine CC.ofN Try.func67 Try.ntmps67 Try.results67 rfl (by decide) (by kernel_rfl) ?_
    simp (maxSteps := 1000000) -implicitDefEqProofs only [push_cast, seval]
    refine WC.draw' (by kernel_rfl) (by kernel_rfl) (.q 0 (.q 1 (.q 2 (.q 3 (.q 4 (.q 5 (.q 6 (.q 7 (.c 8 (.q 9 (.q 10 (.q 11 (.q 12 (.q 13 (.q 14 (.q 15 (.done))))))))))))))))) (by kernel_rfl) ?_
    simp (maxSteps := 1000000) -implicitDefEqProofs only [push_cast, seval, rd_of e, rd1_of e, e, hp]
    repeat' (first | with_reducible (first | exact Keep.refl _ _ | assumption | exact byte_lt _ _ | apply Keep.alloc | (refine Keep.set ?_ ?_; rotate_left; · omega) | apply Pre.alloc | apply Pre.set | exact Pre.refl _ | exact le_alloc _ | (refine Pre.keep ?_; assumption) | (refine Pre.n ?_; assumption)) | ((with_reducible (first | refine CD.to (ReadShort_i _ _ ?_ _) ?_ | refine CQ.pure (fun _ => ReadShort_i _ _ ?_ _) ?_ | refine bcase_d (fun hb => ?_) (fun hb => ?_) | refine bcase_mk (fun hb => ?_) (fun hb => ?_))) <;> try simp (maxSteps := 1000000) -implicitDefEqProofs only [push_cast, seval, rd_of e, rd1_of e, e, hp]) | with_reducible refine And.intro ?_ ?_ | omega | (simp only [alloc_n, set_n, kill_n]; omega) | (exfalso; omega))
  | false =>
    rcases hr : rs s a with _ | ⟨n, x⟩
    · simp only [Bool.false_eq_true, if_false, sT_none, nxT_none, Option.isNone_none]
      refine CC.ofN Try.func67 Try.ntmps67 Try.results67 rfl (by decide) (by kernel_rfl) ?_
      simp (maxSteps := 1000000) -implicitDefEqProofs only [push_cast, seval]
      refine WC.draw' (by kernel_rfl) (by kernel_rfl) (.q 0 (.q 1 (.q 2 (.q 3 (.q 4 (.q 5 (.q 6 (.q 7 (.c 8 (.q 9 (.q 10 (.q 11 (.q 12 (.q 13 (.q 14 (.q 15 (.done))))))))))))))))) (by kernel_rfl) ?_
      simp (maxSteps := 1000000) -implicitDefEqProofs only [push_cast, seval, rd_of e, rd1_of e, e, hp]
      repeat' (first | with_reducible (first | exact Keep.refl _ _ | assumption | exact byte_lt _ _ | apply Keep.alloc | (refine Keep.set ?_ ?_; rotate_left; · omega) | apply Pre.alloc | apply Pre.set | exact Pre.refl _ | exact le_alloc _ | (refine Pre.keep ?_; assumption) | (refine Pre.n ?_; assumption)) | ((with_reducible (first | refine CD.to (ReadShort_i _ _ ?_ _) ?_ | refine CQ.pure (fun _ => ReadShort_i _ _ ?_ _) ?_ | refine bcase_d (fun hb => ?_) (fun hb => ?_) | refine bcase_mk (fun hb => ?_) (fun hb => ?_))) <;> try simp (maxSteps := 1000000) -implicitDefEqProofs only [push_cast, seval, rd_of e, rd1_of e, e, hp, hr]) | with_reducible refine And.intro ?_ ?_ | omega | (simp only [alloc_n, set_n, kill_n]; omega) | (exfalso; omega))
    · simp only [Bool.false_eq_true, if_false, nxT_some, Option.isNone_some]
      have hx : sX (some (n, x)) = ((x + n : Nat) : Int) := rfl
      refine CC.ofN Try.func67 Try.ntmps67 Try.results67 rfl (by decide) (by kernel_rfl) ?_
      simp (maxSteps := 1000000) -implicitDefEqProofs only [push_cast, seval]
      refine WC.draw' (by kernel_rfl) (by kernel_rfl) (.q 0 (.q 1 (.q 2 (.q 3 (.q 4 (.q 5 (.q 6 (.q 7 (.c 8 (.q 9 (.q 10 (.q 11 (.q 12 (.q 13 (.q 14 (.q 15 (.done))))))))))))))))) (by kernel_rfl) ?_
      simp (maxSteps := 1000000) -implicitDefEqProofs only [push_cast, seval, rd_of e, rd1_of e, e, hp]
      repeat' (first | with_reducible (first | exact Keep.refl _ _ | assumption | exact byte_lt _ _ | apply Keep.alloc | (refine Keep.set ?_ ?_; rotate_left; · omega) | apply Pre.alloc | apply Pre.set | exact Pre.refl _ | exact le_alloc _ | (refine Pre.keep ?_; assumption) | (refine Pre.n ?_; assumption)) | ((with_reducible (first | refine CD.to (ReadShort_i _ _ ?_ _) ?_ | refine CQ.pure (fun _ => ReadShort_i _ _ ?_ _) ?_ | refine bcase_d (fun hb => ?_) (fun hb => ?_) | refine bcase_mk (fun hb => ?_) (fun hb => ?_))) <;> try simp (maxSteps := 1000000) -implicitDefEqProofs only [push_cast, seval, rd_of e, rd1_of e, e, hp, hr, hx]) | with_reducible refine And.intro ?_ ?_ | omega | (simp only [alloc_n, set_n, kill_n]; omega) | (exfalso; omega))
theorem l07ReadShort_c (p : Nat) (s : ByteArray) (a : Nat) (bad : Bool) (hs : s.size ≤ maxLen - 16) (h : AH) (e : h.ob p = rdOb p s a bad) :
    CD Try.prog 64 [.pointer (some ⟨p, 0, none⟩)] h (.string (sT s (if bad then none else rs s a))) (h.set p (rdOb p s (nxT (if bad then none else rs s a) a) (if bad then none else rs s a).isNone)) := by
  refine CD.withBig (fun big => ?_)
  have hp : p < h.n := big.ltOb e (by simp [rdOb])
  refine CD.wrote hp ?_ (low_string _ _) (rdOb_low _ _ _ _ _)
  simp only [rdOb] at e ⊢
  cases bad with
  | true =>
    simp only [if_true, sT_none, nxT_none, Option.isNone_none]
    refine CC.ofN Try.func64 Try.ntmps64 Try.results64 rfl (by decide) (by kernel_rfl) ?_
    simp (maxSteps := 1000000) -implicitDefEqProofs only [push_cast, seval]
    refine WC.draw' (by kernel_rfl) (by kernel_rfl) (.q 0 (.q 1 (.q 2 (.q 3 (.q 4 (.q 5 (.q 6 (.q 7 (.c 8 (.q 9 (.q 10 (.q 11 (.q 12 (.q 13 (.q 14 (.q 15 (.done))))))))))))))))) (by kernel_rfl) ?_
    simp (maxSteps := 1000000) -implicitDefEqProofs only [push_cast, seval, rd_of e, rd1_of e, e, hp]
    repeat' (first | with_reducible (first | exact Keep.refl _ _ | assumption | exact byte_lt _ _ | apply Keep.alloc | (refine Keep.set ?_ ?_; rotate_left; · omega) | apply Pre.alloc | apply Pre.set | exact Pre.refl _ | exact le_alloc _ | (refine Pre.keep ?_; assumption) | (refine Pre.n ?_; assumption)) | ((with_reducible (first | refine CD.to (ReadShort_s _ _ ?_ _) ?_ | refine CQ.pure (fun _ => ReadShort_s _ _ ?_ _) ?_ | refine bcase_d (fun hb => ?_) (fun hb => ?_) | refine bcase_mk (fun hb => ?_) (fun hb => ?_))) <;> try simp (maxSteps := 1000000) -implicitDefEqProofs only [push_cast, seval, rd_of e, rd1_of e, e, hp]) | with_reducible refine And.intro ?_ ?_ | omega | (simp only [alloc_n, set_n, kill_n]; omega) | (exfalso; omega))
  | false =>
    rcases hr : rs s a with _ | ⟨n, x⟩
    · simp only [Bool.false_eq_true, if_false, sT_none, nxT_none, Option.isNone_none]
      refine CC.ofN Try.func64 Try.ntmps64 Try.results64 rfl (by decide) (by kernel_rfl) ?_
      simp (maxSteps := 1000000) -implicitDefEqProofs only [push_cast, seval]
      refine WC.draw' (by kernel_rfl) (by kernel_rfl) (.q 0 (.q 1 (.q 2 (.q 3 (.q 4 (.q 5 (.q 6 (.q 7 (.c 8 (.q 9 (.q 10 (.q 11 (.q 12 (.q 13 (.q 14 (.q 15 (.done))))))))))))))))) (by kernel_rfl) ?_
      simp (maxSteps := 1000000) -implicitDefEqProofs only [push_cast, seval, rd_of e, rd1_of e, e, hp]
      repeat' (first | with_reducible (first | exact Keep.refl _ _ | assumption | exact byte_lt _ _ | apply Keep.alloc | (refine Keep.set ?_ ?_; rotate_left; · omega) | apply Pre.alloc | apply Pre.set | exact Pre.refl _ | exact le_alloc _ | (refine Pre.keep ?_; assumption) | (refine Pre.n ?_; assumption)) | ((with_reducible (first | refine CD.to (ReadShort_s _ _ ?_ _) ?_ | refine CQ.pure (fun _ => ReadShort_s _ _ ?_ _) ?_ | refine bcase_d (fun hb => ?_) (fun hb => ?_) | refine bcase_mk (fun hb => ?_) (fun hb => ?_))) <;> try simp (maxSteps := 1000000) -implicitDefEqProofs only [push_cast, seval, rd_of e, rd1_of e, e, hp, hr]) | with_reducible refine And.intro ?_ ?_ | omega | (simp only [alloc_n, set_n, kill_n]; omega) | (exfalso; omega))
    · simp only [Bool.false_eq_true, if_false, nxT_some, Option.isNone_some]
      have hx : sX (some (n, x)) = ((x + n : Nat) : Int) := rfl
      refine CC.ofN Try.func64 Try.ntmps64 Try.results64 rfl (by decide) (by kernel_rfl) ?_
      simp (maxSteps := 1000000) -implicitDefEqProofs only [push_cast, seval]
      refine WC.draw' (by kernel_rfl) (by kernel_rfl) (.q 0 (.q 1 (.q 2 (.q 3 (.q 4 (.q 5 (.q 6 (.q 7 (.c 8 (.q 9 (.q 10 (.q 11 (.q 12 (.q 13 (.q 14 (.q 15 (.done))))))))))))))))) (by kernel_rfl) ?_
      simp (maxSteps := 1000000) -implicitDefEqProofs only [push_cast, seval, rd_of e, rd1_of e, e, hp]
      repeat' (first | with_reducible (first | exact Keep.refl _ _ | assumption | exact byte_lt _ _ | apply Keep.alloc | (refine Keep.set ?_ ?_; rotate_left; · omega) | apply Pre.alloc | apply Pre.set | exact Pre.refl _ | exact le_alloc _ | (refine Pre.keep ?_; assumption) | (refine Pre.n ?_; assumption)) | ((with_reducible (first | refine CD.to (ReadShort_s _ _ ?_ _) ?_ | refine CQ.pure (fun _ => ReadShort_s _ _ ?_ _) ?_ | refine bcase_d (fun hb => ?_) (fun hb => ?_) | refine bcase_mk (fun hb => ?_) (fun hb => ?_))) <;> try simp (maxSteps := 1000000) -implicitDefEqProofs only [push_cast, seval, rd_of e, rd1_of e, e, hp, hr, hx]) | with_reducible refine And.intro ?_ ?_ | omega | (simp only [alloc_n, set_n, kill_n]; omega) | (exfalso; omega))
theorem count_c (p : Nat) (s : ByteArray) (a : Nat) (bad : Bool) (most : Int) (hm : 0 ≤ most) (hs : s.size ≤ maxLen - 16) (h : AH) (e : h.ob p = rdOb p s a bad) :
    CD Try.prog 66 [.pointer (some ⟨p, 0, none⟩), .int .i64 most] h (.int .i64 (if most < oN (if bad then none else rv s a) then 0 else oN (if bad then none else rv s a)))
      (h.set p (rdOb p s (nxN (if bad then none else rv s a) a) ((if bad then none else rv s a).isNone || decide (most < oN (if bad then none else rv s a))))) := by
  refine CD.withBig (fun big => ?_)
  have hp : p < h.n := big.ltOb e (by simp [rdOb])
  refine CD.wrote hp ?_ (low_int _ _ _) (rdOb_low _ _ _ _ _)
  generalize hq : (if bad then none else rv s a) = q
  have hn := number_c p s a bad hs
  rw [hq] at hn
  simp only [rdOb] at hn e ⊢
  by_cases hc : most < oN q
  · rw [if_pos hc, decide_eq_true hc]
    refine CC.ofN Try.func66 Try.ntmps66 Try.results66 rfl (by decide) (by kernel_rfl) ?_
    simp (maxSteps := 1000000) -implicitDefEqProofs only [push_cast, seval]
    repeat' (first | with_reducible (first | exact Keep.refl _ _ | assumption | exact byte_lt _ _ | apply Keep.alloc | (refine Keep.set ?_ ?_; rotate_left; · omega) | apply Pre.alloc | apply Pre.set | exact Pre.refl _ | exact le_alloc _ | (refine Pre.keep ?_; assumption) | (refine Pre.n ?_; assumption)) | ((with_reducible (first | refine CD.to (hn _ e) ?_ | refine CQ.pure (fun _ => hn _ e) ?_ | refine bcase_d (fun hb => ?_) (fun hb => ?_) | refine bcase_mk (fun hb => ?_) (fun hb => ?_))) <;> try simp (maxSteps := 1000000) -implicitDefEqProofs only [push_cast, seval, rd_of e, rd1_of e, e, hp]) | with_reducible refine And.intro ?_ ?_ | omega | (simp only [alloc_n, set_n, kill_n]; omega) | (exfalso; omega))
  · rw [if_neg hc, decide_eq_false hc]
    refine CC.ofN Try.func66 Try.ntmps66 Try.results66 rfl (by decide) (by kernel_rfl) ?_
    simp (maxSteps := 1000000) -implicitDefEqProofs only [push_cast, seval]
    repeat' (first | with_reducible (first | exact Keep.refl _ _ | assumption | exact byte_lt _ _ | apply Keep.alloc | (refine Keep.set ?_ ?_; rotate_left; · omega) | apply Pre.alloc | apply Pre.set | exact Pre.refl _ | exact le_alloc _ | (refine Pre.keep ?_; assumption) | (refine Pre.n ?_; assumption)) | ((with_reducible (first | refine CD.to (hn _ e) ?_ | refine CQ.pure (fun _ => hn _ e) ?_ | refine bcase_d (fun hb => ?_) (fun hb => ?_) | refine bcase_mk (fun hb => ?_) (fun hb => ?_))) <;> try simp (maxSteps := 1000000) -implicitDefEqProofs only [push_cast, seval, rd_of e, rd1_of e, e, hp]) | with_reducible refine And.intro ?_ ?_ | omega | (simp only [alloc_n, set_n, kill_n]; omega) | (exfalso; omega))
theorem done_c (p : Nat) (s : ByteArray) (a : Nat) (bad : Bool) (h : AH) (e : h.ob p = rdOb p s a bad) :
    CD Try.prog 70 [.pointer (some ⟨p, 0, none⟩)] h (.bool (!bad && decide ((a : Int) = s.size))) h := by
  refine CD.withBig (fun big => ?_)
  have hp : p < h.n := big.ltOb e (by simp [rdOb])
  refine CD.quiet ?_ (low_bool _ _)
  simp only [rdOb] at e
  refine CC.ofN Try.func70 Try.ntmps70 Try.results70 rfl (by decide) (by kernel_rfl) ?_
  simp (maxSteps := 1000000) -implicitDefEqProofs only [push_cast, seval]
  refine WC.draw' (by kernel_rfl) (by kernel_rfl) (.q 0 (.q 1 (.q 2 (.q 3 (.q 4 (.q 5 (.q 6 (.q 7 (.q 8 (.q 9 (.q 10 (.q 11 (.q 12 (.q 13 (.q 14 (.q 15 (.q 16 (.q 17 (.done))))))))))))))))))) (by kernel_rfl) ?_
  simp (maxSteps := 1000000) -implicitDefEqProofs only [push_cast, seval, rd_of e, rd1_of e, e, hp]
  repeat' (first | with_reducible (first | exact Keep.refl _ _ | assumption | exact byte_lt _ _ | apply Keep.alloc | (refine Keep.set ?_ ?_; rotate_left; · omega) | apply Pre.alloc | apply Pre.set | exact Pre.refl _ | exact le_alloc _ | (refine Pre.keep ?_; assumption) | (refine Pre.n ?_; assumption)) | ((with_reducible (first | refine bcase_d (fun hb => ?_) (fun hb => ?_) | refine bcase_mk (fun hb => ?_) (fun hb => ?_))) <;> try simp (maxSteps := 1000000) -implicitDefEqProofs only [push_cast, seval, rd_of e, rd1_of e, e, hp]) | with_reducible refine And.intro ?_ ?_ | omega | (simp only [alloc_n, set_n, kill_n]; omega) | (exfalso; omega))
  all_goals simp [*]
theorem one_c (p : Nat) (s : ByteArray) (a : Nat) (bad : Bool) (hs : s.size ≤ maxLen - 16) (h : AH) (e : h.ob p = rdOb p s a bad) :
    CD Try.prog 68 [.pointer (some ⟨p, 0, none⟩)] h (.int .i64 (if bad = false ∧ a < s.size then (bN s a : Int) else 0)) (h.set p (rdOb p s (if bad = false ∧ a < s.size then a + 1 else a) (!decide (bad = false ∧ a < s.size)))) := by
  refine CD.withBig (fun big => ?_)
  have hp : p < h.n := big.ltOb e (by simp [rdOb])
  have hm := maxLen_eq
  refine CD.wrote hp ?_ (low_int _ _ _) (rdOb_low _ _ _ _ _)
  simp only [rdOb] at e ⊢
  by_cases hc : bad = false ∧ a < s.size
  · rw [if_pos hc, if_pos hc, decide_eq_true hc]
    obtain ⟨rfl, ha⟩ := hc
    have w1 : IntKind.i64.wrap ((a : Int) + 1) = ((a + 1 : Nat) : Int) := wrapSucc (by omega)
    have w2 : IntKind.i64.wrap ((a : Int) + 1 - 1) = (a : Int) := by rw [w64 (by omega) (by omega)]; omega
    have w3 : IntKind.i64.wrap ((byteAt s a).toNat : Int) = (byteAt s a).toNat := by have := (byteAt s a).toNat_lt; rw [w64 (by omega) (by omega)]
    refine CC.ofN Try.func68 Try.ntmps68 Try.results68 rfl (by decide) (by kernel_rfl) ?_
    simp (maxSteps := 1000000) -implicitDefEqProofs only [push_cast, seval]
    refine WC.draw' (by kernel_rfl) (by kernel_rfl) (.q 0 (.q 1 (.q 2 (.q 3 (.q 4 (.q 5 (.q 6 (.q 7 (.q 8 (.q 9 (.q 10 (.q 11 (.q 12 (.q 13 (.q 14 (.q 15 (.done))))))))))))))))) (by kernel_rfl) ?_
    simp (maxSteps := 1000000) -implicitDefEqProofs only [push_cast, seval, rd_of e, rd1_of e, e, hp]
    repeat' (first | with_reducible (first | exact Keep.refl _ _ | assumption | exact byte_lt _ _ | apply Keep.alloc | (refine Keep.set ?_ ?_; rotate_left; · omega) | apply Pre.alloc | apply Pre.set | exact Pre.refl _ | exact le_alloc _ | (refine Pre.keep ?_; assumption) | (refine Pre.n ?_; assumption)) | ((with_reducible (first | refine bcase_d (fun hb => ?_) (fun hb => ?_) | refine bcase_mk (fun hb => ?_) (fun hb => ?_))) <;> try simp (maxSteps := 1000000) -implicitDefEqProofs only [push_cast, seval, rd_of e, rd1_of e, e, hp, w1, w2, w3]) | with_reducible refine And.intro ?_ ?_ | omega | (simp only [alloc_n, set_n, kill_n]; omega) | (exfalso; omega))
    refine WC.draw' (by kernel_rfl) (by kernel_rfl) (.q 0 (.q 1 (.q 2 (.q 3 (.q 4 (.q 5 (.q 6 (.q 7 (.q 8 (.q 9 (.q 10 (.q 11 (.done))))))))))))) (by kernel_rfl) ?_
    simp (maxSteps := 1000000) -implicitDefEqProofs only [push_cast, seval, rd_of e, rd1_of e, e, hp, w2, w3]
    repeat' (first | with_reducible (first | exact Keep.refl _ _ | assumption | exact byte_lt _ _ | apply Keep.alloc | (refine Keep.set ?_ ?_; rotate_left; · omega) | apply Pre.alloc | apply Pre.set | exact Pre.refl _ | exact le_alloc _ | (refine Pre.keep ?_; assumption) | (refine Pre.n ?_; assumption)) | ((with_reducible (first | refine bcase_d (fun hb => ?_) (fun hb => ?_) | refine bcase_mk (fun hb => ?_) (fun hb => ?_))) <;> try simp (maxSteps := 1000000) -implicitDefEqProofs only [push_cast, seval, rd_of e, rd1_of e, e, hp, w1, w2, w3]) | with_reducible refine And.intro ?_ ?_ | omega | (simp only [alloc_n, set_n, kill_n]; omega) | (exfalso; omega))
    rfl
  · rw [if_neg hc, if_neg hc, decide_eq_false hc]
    refine CC.ofN Try.func68 Try.ntmps68 Try.results68 rfl (by decide) (by kernel_rfl) ?_
    simp (maxSteps := 1000000) -implicitDefEqProofs only [push_cast, seval]
    refine WC.draw' (by kernel_rfl) (by kernel_rfl) (.q 0 (.q 1 (.q 2 (.q 3 (.q 4 (.q 5 (.q 6 (.q 7 (.q 8 (.q 9 (.q 10 (.q 11 (.q 12 (.q 13 (.q 14 (.q 15 (.done))))))))))))))))) (by kernel_rfl) ?_
    simp (maxSteps := 1000000) -implicitDefEqProofs only [push_cast, seval, rd_of e, rd1_of e, e, hp]
    repeat' (first | with_reducible (first | exact Keep.refl _ _ | assumption | exact byte_lt _ _ | apply Keep.alloc | (refine Keep.set ?_ ?_; rotate_left; · omega) | apply Pre.alloc | apply Pre.set | exact Pre.refl _ | exact le_alloc _ | (refine Pre.keep ?_; assumption) | (refine Pre.n ?_; assumption)) | ((with_reducible (first | refine bcase_d (fun hb => ?_) (fun hb => ?_) | refine bcase_mk (fun hb => ?_) (fun hb => ?_))) <;> try simp (maxSteps := 1000000) -implicitDefEqProofs only [push_cast, seval, rd_of e, rd1_of e, e, hp]) | with_reducible refine And.intro ?_ ?_ | omega | (simp only [alloc_n, set_n, kill_n]; omega) | (exfalso; omega))
    all_goals exact absurd ⟨by assumption, by omega⟩ hc
end Go.Proofs.Ytciajhpeikemoaa
namespace Go.Proofs.Ytciajhpeikemoaa
open Go Go.Sim Go.Proofs
set_option linter.unusedSimpArgs false
set_option linter.unusedVariables false
set_option maxRecDepth 100000
set_option maxHeartbeats 1000000
/-- What a reader in some state reads as a short text, and its state behind it. -/
def shT (s : ByteArray) (r : Nat × Bool) : ByteArray := sT s (if r.2 then none else rs s r.1)
def shN (s : ByteArray) (r : Nat × Bool) : Nat × Bool := (nxT (if r.2 then none else rs s r.1) r.1, (if r.2 then none else rs s r.1).isNone)
def ctV (s : ByteArray) (most : Int) (r : Nat × Bool) : Int := if most < oN (if r.2 then none else rv s r.1) then 0 else oN (if r.2 then none else rv s r.1)
def ctN (s : ByteArray) (most : Int) (r : Nat × Bool) : Nat × Bool := (nxN (if r.2 then none else rv s r.1) r.1, (if r.2 then none else rv s r.1).isNone || decide (most < oN (if r.2 then none else rv s r.1)))
def rdP (p : Nat) (s : ByteArray) (r : Nat × Bool) : AOb := .cells [.string s, .int .i64 (r.1 : Nat), .bool r.2] .solo p
theorem short_p (p : Nat) (s : ByteArray) (r : Nat × Bool) (hs : s.size ≤ maxLen - 16) (h : AH) (e : h.ob p = rdP p s r) : CD Try.prog 67 [.pointer (some ⟨p, 0, none⟩)] h (.string (shT s r)) (h.set p (rdP p s (shN s r))) := short_c p s r.1 r.2 hs h e
theorem l07Short_p (p : Nat) (s : ByteArray) (r : Nat × Bool) (hs : s.size ≤ maxLen - 16) (h : AH) (e : h.ob p = rdP p s r) : CD Try.prog 64 [.pointer (some ⟨p, 0, none⟩)] h (.string (shT s r)) (h.set p (rdP p s (shN s r))) := l07ReadShort_c p s r.1 r.2 hs h e
theorem count_p (p : Nat) (s : ByteArray) (r : Nat × Bool) (most : Int) (hm : 0 ≤ most) (hs : s.size ≤ maxLen - 16) (h : AH) (e : h.ob p = rdP p s r) : CD Try.prog 66 [.pointer (some ⟨p, 0, none⟩), .int .i64 most] h (.int .i64 (ctV s most r)) (h.set p (rdP p s (ctN s most r))) := count_c p s r.1 r.2 most hm hs h e
theorem done_p (p : Nat) (s : ByteArray) (r : Nat × Bool) (h : AH) (e : h.ob p = rdP p s r) : CD Try.prog 70 [.pointer (some ⟨p, 0, none⟩)] h (.bool (!r.2 && decide ((r.1 : Int) = s.size))) h := done_c p s r.1 r.2 h e
theorem l07Var_p (p : Nat) (s : ByteArray) (r : Nat × Bool) (hs : s.size ≤ maxLen - 16) (h : AH) (e : h.ob p = rdP p s r) : CD Try.prog 63 [.pointer (some ⟨p, 0, none⟩)] h (.int .i64 (oN (if r.2 then none else rv s r.1))) (h.set p (rdP p s (nxN (if r.2 then none else rv s r.1) r.1, (if r.2 then none else rv s r.1).isNone))) := l07Var_c p s r.1 r.2 hs h e
theorem ctV_nat (s : ByteArray) (most : Nat) (r : Nat × Bool) : ∃ N : Nat, ctV s most r = (N : Nat) ∧ N ≤ most := by
  unfold ctV
  generalize (if r.2 then none else rv s r.1) = q
  have h0 : ∃ M : Nat, oN q = (M : Nat) := by cases q with
    | none => exact ⟨0, rfl⟩
    | some p => exact ⟨p.1, rfl⟩
  obtain ⟨M, hM⟩ := h0
  rw [hM]
  by_cases e : (most : Int) < (M : Int)
  · exact ⟨0, by rw [if_pos e]; rfl, Nat.zero_le _⟩
  · exact ⟨M, by rw [if_neg e], by omega⟩
def ctM (s : ByteArray) (most : Int) (r : Nat × Bool) : Nat := (ctV s most r).toNat
theorem shT_size (s : ByteArray) (r : Nat × Bool) : (shT s r).size ≤ s.size := by
  unfold shT sT
  split
  · simp only [ByteArray.size_extract]; omega
  · exact Nat.zero_le _
end Go.Proofs.Ytciajhpeikemoaa
namespace Go.Proofs.Ytciajhpeikemoaa
open Go Go.Sim Go.Proofs
set_option linter.unusedSimpArgs false
set_option linter.unusedVariables false
set_option maxRecDepth 100000
set_option maxHeartbeats 1000000
def onV (s : ByteArray) (r : Nat × Bool) : Int := if r.2 = false ∧ r.1 < s.size then (bN s r.1 : Int) else 0
def onN (s : ByteArray) (r : Nat × Bool) : Nat × Bool := (if r.2 = false ∧ r.1 < s.size then r.1 + 1 else r.1, !decide (r.2 = false ∧ r.1 < s.size))
theorem one_p (p : Nat) (s : ByteArray) (r : Nat × Bool) (hs : s.size ≤ maxLen - 16) (h : AH) (e : h.ob p = rdP p s r) : CD Try.prog 68 [.pointer (some ⟨p, 0, none⟩)] h (.int .i64 (onV s r)) (h.set p (rdP p s (onN s r))) := one_c p s r.1 r.2 hs h e
def nuV (s : ByteArray) (r : Nat × Bool) : Int := oN (if r.2 then none else rv s r.1)
def nuN (s : ByteArray) (r : Nat × Bool) : Nat × Bool := (nxN (if r.2 then none else rv s r.1) r.1, (if r.2 then none else rv s r.1).isNone)
theorem number_p (p : Nat) (s : ByteArray) (r : Nat × Bool) (hs : s.size ≤ maxLen - 16) (h : AH) (e : h.ob p = rdP p s r) : CD Try.prog 69 [.pointer (some ⟨p, 0, none⟩)] h (.int .i64 (nuV s r)) (h.set p (rdP p s (nuN s r))) := number_c p s r.1 r.2 hs h e
/-- So many texts, and so many instructions, read one behind the other. -/
def itS (s : ByteArray) (r : Nat × Bool) : Nat → (Nat × Bool) × List ByteArray
  | 0 => (r, [])
  | i + 1 => (shN s (itS s r i).1, (itS s r i).2 ++ [shT s (itS s r i).1])
def itI (s : ByteArray) (r : Nat × Bool) : Nat → (Nat × Bool) × List Ins
  | 0 => (r, [])
  | i + 1 => (onN s (onN s (itI s r i).1), (itI s r i).2 ++ [⟨onV s (itI s r i).1, onV s (onN s (itI s r i).1)⟩])
theorem itS_len (s : ByteArray) (r : Nat × Bool) : ∀ i, (itS s r i).2.length = i
  | 0 => rfl
  | i + 1 => by simp [itS, itS_len s r i]
theorem itI_len (s : ByteArray) (r : Nat × Bool) : ∀ i, (itI s r i).2.length = i
  | 0 => rfl
  | i + 1 => by simp [itI, itI_len s r i]
/-- What impl.ReadCode reads, whether or not it is right. -/
def cL (s : ByteArray) : (Nat × Bool) × List ByteArray := itS s (ctN s 60 (0, false)) (ctV s 60 (0, false)).toNat
def cI2 (s : ByteArray) : (Nat × Bool) × List Ins := itI s (ctN s 250 (cL s).1) (ctV s 250 (cL s).1).toNat
def cLine (s : ByteArray) : Nat × Bool := nuN s (cI2 s).1
def cEnd (s : ByteArray) : Nat × Bool := nuN s (cLine s)
def cCode (s : ByteArray) : Cod := ⟨(cL s).2, (cI2 s).2, 0, nuV s (cI2 s).1, nuV s (cLine s)⟩
def cOk (s : ByteArray) : Bool := !(cEnd s).2 && decide (((cEnd s).1 : Int) = s.size) && codeOk (cCode s)
end Go.Proofs.Ytciajhpeikemoaa
namespace Go.Proofs.Ytciajhpeikemoaa
open Go Go.Sim Go.Proofs
set_option linter.unusedSimpArgs false
set_option linter.unusedVariables false
set_option maxRecDepth 100000
set_option maxHeartbeats 1000000
def code0 : Cod := ⟨[], [], 0, 0, 0⟩
def cS2 (s : ByteArray) : Cod := if cOk s = true then cCode s else code0
/-- Code whose two slices are a call's own, apart. -/
structure OwnC (h0 h : AH) (vA vB : Value) (c : Cod) : Prop where
  a : Gr (h0.n + 1) h vA 1 (c.texts.map encS).flatten
  b : Gr (h0.n + 1) h vB 2 (c.list.map encN).flatten
  ne : ∀ i, atBlock vA i → ¬ atBlock vB i
theorem itS_size (s : ByteArray) (r : Nat × Bool) : ∀ i, ∀ x ∈ (itS s r i).2, x.size ≤ s.size
  | 0, x, hx => by simp [itS] at hx
  | i + 1, x, hx => by
    simp only [itS, List.mem_append, List.mem_singleton] at hx
    rcases hx with hx | rfl
    · exact itS_size s r i x hx
    · exact shT_size _ _
def cellC (p : Nat) (vA vB : Value) (l e : Int) : AOb := .cells [vA, vB, .int .i64 0, .int .i64 l, .int .i64 e] .solo p
/-- Where the first loop stands. -/
structure RcJ (s : ByteArray) (h : AH) (st : Nat × Bool) (vA : Value) (txt : List ByteArray) (h' : AH) : Prop where
  n : h.n + 3 ≤ h'.n
  o0 : h'.ob h.n = .cells [.slice none 0 0, .slice none 0 0, .int .i64 0, .int .i64 0, .int .i64 0] .solo h.n
  o1 : h'.ob (h.n + 1) = rdP (h.n + 1) s st
  o2 : h'.ob (h.n + 2) = .cells [vA, .slice none 0 0, .int .i64 0, .int .i64 0, .int .i64 0] .solo (h.n + 2)
  g : Gr (h.n + 3) h' vA 1 (txt.map encS).flatten
  pre : Pre h h'
/-- Where the second loop stands. -/
structure RcK (s : ByteArray) (h : AH) (st : Nat × Bool) (vA vB : Value) (txt : List ByteArray) (ins : List Ins) (h' : AH) : Prop where
  n : h.n + 3 ≤ h'.n
  o0 : h'.ob h.n = .cells [.slice none 0 0, .slice none 0 0, .int .i64 0, .int .i64 0, .int .i64 0] .solo h.n
  o1 : h'.ob (h.n + 1) = rdP (h.n + 1) s st
  o2 : h'.ob (h.n + 2) = .cells [vA, vB, .int .i64 0, .int .i64 0, .int .i64 0] .solo (h.n + 2)
  g : Gr (h.n + 3) h' vA 1 (txt.map encS).flatten
  gb : Gr (h.n + 3) h' vB 2 (ins.map encN).flatten
  ne : ∀ i, atBlock vA i → ¬ atBlock vB i
  pre : Pre h h'
theorem RcK.read {s : ByteArray} {h h' : AH} {st st' : Nat × Bool} {vA vB : Value} {txt : List ByteArray} {ins : List Ins} (J : RcK s h st vA vB txt ins h') : RcK s h st' vA vB txt ins (h'.set (h.n + 1) (rdP (h.n + 1) s st')) :=
  ⟨J.n, (set_ne _ (by omega)).trans J.o0, set_same _ _, (set_ne _ (by omega)).trans J.o2, J.g.keep (Nat.le_refl _) (fun i hi => set_ne _ (by have := (J.g.range hi).1; omega)), J.gb.keep (Nat.le_refl _) (fun i hi => set_ne _ (by have := (J.gb.range hi).1; omega)), J.ne, J.pre.set (by omega) _⟩
theorem RcK.new {s : ByteArray} {h h' h2 : AH} {st : Nat × Bool} {vA vB : Value} {txt : List ByteArray} {ins : List Ins} (J : RcK s h st vA vB txt ins h') (q : Pre h' h2) : RcK s h st vA vB txt ins h2 := by
  have n := J.n
  have m := q.n
  exact ⟨by omega, (q.ob _ (by omega)).trans J.o0, (q.ob _ (by omega)).trans J.o1, (q.ob _ (by omega)).trans J.o2, J.g.pre q, J.gb.pre q, J.ne, J.pre.trans q⟩
/-- Where the loops have ended. -/
structure RcE (s : ByteArray) (h : AH) (st : Nat × Bool) (vA vB : Value) (txt : List ByteArray) (ins : List Ins) (l e : Int) (h' : AH) : Prop where
  n : h.n + 3 ≤ h'.n
  o0 : h'.ob h.n = .cells [.slice none 0 0, .slice none 0 0, .int .i64 0, .int .i64 0, .int .i64 0] .solo h.n
  o1 : h'.ob (h.n + 1) = rdP (h.n + 1) s st
  o2 : h'.ob (h.n + 2) = .cells [vA, vB, .int .i64 0, .int .i64 l, .int .i64 e] .solo (h.n + 2)
  g : Gr (h.n + 3) h' vA 1 (txt.map encS).flatten
  gb : Gr (h.n + 3) h' vB 2 (ins.map encN).flatten
  ne : ∀ i, atBlock vA i → ¬ atBlock vB i
  pre : Pre h h'
theorem RcK.toE {s : ByteArray} {h h' : AH} {st : Nat × Bool} {vA vB : Value} {txt : List ByteArray} {ins : List Ins} (J : RcK s h st vA vB txt ins h') : RcE s h st vA vB txt ins 0 0 h' := ⟨J.n, J.o0, J.o1, J.o2, J.g, J.gb, J.ne, J.pre⟩
theorem RcE.read {s : ByteArray} {h h' : AH} {st st' : Nat × Bool} {vA vB : Value} {txt : List ByteArray} {ins : List Ins} {l e : Int} (J : RcE s h st vA vB txt ins l e h') : RcE s h st' vA vB txt ins l e (h'.set (h.n + 1) (rdP (h.n + 1) s st')) :=
  ⟨J.n, (set_ne _ (by omega)).trans J.o0, set_same _ _, (set_ne _ (by omega)).trans J.o2, J.g.keep (Nat.le_refl _) (fun i hi => set_ne _ (by have := (J.g.range hi).1; omega)), J.gb.keep (Nat.le_refl _) (fun i hi => set_ne _ (by have := (J.gb.range hi).1; omega)), J.ne, J.pre.set (by omega) _⟩
theorem RcE.put {s : ByteArray} {h h' : AH} {st : Nat × Bool} {vA vB : Value} {txt : List ByteArray} {ins : List Ins} {l e : Int} (J : RcE s h st vA vB txt ins l e h') (l' e' : Int) : RcE s h st vA vB txt ins l' e' (h'.set (h.n + 2) (.cells [vA, vB, .int .i64 0, .int .i64 l', .int .i64 e'] .solo (h.n + 2))) :=
  ⟨J.n, (set_ne _ (by omega)).trans J.o0, (set_ne _ (by omega)).trans J.o1, set_same _ _, J.g.keep (Nat.le_refl _) (fun i hi => set_ne _ (by have := (J.g.range hi).1; omega)), J.gb.keep (Nat.le_refl _) (fun i hi => set_ne _ (by have := (J.gb.range hi).1; omega)), J.ne, J.pre.set (by omega) _⟩
theorem RcE.rdc {s : ByteArray} {h h' : AH} {st : Nat × Bool} {vA vB : Value} {txt : List ByteArray} {ins : List Ins} {l e : Int} (J : RcE s h st vA vB txt ins l e h') : RdC h' vA vB ⟨txt, ins, 0, l, e⟩ := ⟨J.g.rdv (by decide) (fun _ => rfl), J.gb.rdv (by decide) (fun _ => rfl)⟩
theorem RcE.own {s : ByteArray} {h h' : AH} {st : Nat × Bool} {vA vB : Value} {txt : List ByteArray} {ins : List Ins} {l e : Int} (J : RcE s h st vA vB txt ins l e h') : OwnC h h' vA vB ⟨txt, ins, 0, l, e⟩ := ⟨J.g.mono (by omega), J.gb.mono (by omega), J.ne⟩
theorem RcK.other {s : ByteArray} {h h' : AH} {st : Nat × Bool} {vA vB : Value} {txt : List ByteArray} {ins : List Ins} (J : RcK s h st vA vB txt ins h') {i : Nat} (hi : h.n + 3 ≤ i) (a : ¬ atBlock vA i) (b : ¬ atBlock vB i) (o : AOb) : RcK s h st vA vB txt ins (h'.set i o) :=
  ⟨J.n, (set_ne _ (by omega)).trans J.o0, (set_ne _ (by omega)).trans J.o1, (set_ne _ (by omega)).trans J.o2, J.g.keep (Nat.le_refl _) (fun j hj => set_ne _ (fun e => a (e ▸ hj))), J.gb.keep (Nat.le_refl _) (fun j hj => set_ne _ (fun e => b (e ▸ hj))), J.ne, J.pre.set (by omega) _⟩
theorem ReadCode_i (s : ByteArray) (hs : s.size ≤ maxLen - 16) (h : AH) : CC Try.prog 25 [.string s] h (fun v h' => ∃ vA vB, v = .tuple #[.agg #[vA, vB, .int .i64 0, .int .i64 (cS2 s).line, .int .i64 (cS2 s).fin], .bool (cOk s)] ∧ OwnC h h' vA vB (cS2 s) ∧ Pre h h') := by
  refine CC.withBig (fun big => ?_)
  obtain ⟨N, hN, hN2⟩ := ctV_nat s 60 (0, false)
  have hc := count_p (h.n + 1) s (0, false) 60 (by omega) hs
  rw [show ((60 : Nat) : Int) = 60 from rfl] at hN
  rw [hN] at hc
  have hc' : ∀ h1 : AH, h1.ob (h.n + 1) = .cells [.string s, .int .i64 0, .bool false] .solo (h.n + 1) → _ := fun h1 e => hc h1 e
  refine CC.ofN Try.func25 Try.ntmps25 Try.results25 rfl (by decide) (by kernel_rfl) ?_
  simp (maxSteps := 1000000) -implicitDefEqProofs only [push_cast, seval]
  with_reducible refine CD.to (hc' _ (by (try simp (maxSteps := 1000000) -implicitDefEqProofs only [push_cast, seval, rdOb]); try rfl)) ?_
  simp (maxSteps := 1000000) -implicitDefEqProofs only [push_cast, seval]
  have J0 : RcJ s h (ctN s 60 (0, false)) (.slice none 0 0) [] (((((h.alloc (.cells [.slice none 0 0, .slice none 0 0, .int .i64 0, .int .i64 0, .int .i64 0] .solo h.n)).alloc (.cells [.string s, .int .i64 0, .bool false] .solo (h.n + 1))).alloc (.cells [.slice none 0 0, .slice none 0 0, .int .i64 0, .int .i64 0, .int .i64 0] .solo (h.n + 2))).set (h.n + 2) (.cells [.slice none 0 0, .slice none 0 0, .int .i64 0, .int .i64 0, .int .i64 0] .solo (h.n + 2))).set (h.n + 1) (rdP (h.n + 1) s (ctN s 60 (0, false)))) := by
    refine ⟨Nat.le_refl _, ?_, set_same _ _, ?_, Gr.nil _ _ _ _, Pre.set (Pre.set ((((Pre.refl _).alloc _).alloc _).alloc _) (by omega) _) (by omega) _⟩
    · rw [set_ne _ (by omega), set_ne _ (by omega)]
      exact (alloc_lt _ (by show h.n < h.n + 2; omega)).trans ((alloc_lt _ (by show h.n < h.n + 1; omega)).trans (alloc_same _))
    · rw [set_ne _ (by omega)]; exact set_same _ _
  generalize (((((h.alloc (.cells [.slice none 0 0, .slice none 0 0, .int .i64 0, .int .i64 0, .int .i64 0] .solo h.n)).alloc (.cells [.string s, .int .i64 0, .bool false] .solo (h.n + 1))).alloc (.cells [.slice none 0 0, .slice none 0 0, .int .i64 0, .int .i64 0, .int .i64 0] .solo (h.n + 2))).set (h.n + 2) (.cells [.slice none 0 0, .slice none 0 0, .int .i64 0, .int .i64 0, .int .i64 0] .solo (h.n + 2))).set (h.n + 1) (rdP (h.n + 1) s (ctN s 60 (0, false)))) = H0 at *
  refine WC.loopA (by kernel_rfl) [17] [7, 18, 19, 20, 21, 22, 23, 24, 25, 26, 27] (fun a : Nat × Value => [.int .i64 (a.1 : Nat)]) (fun a h' => a.1 ≤ N ∧ RcJ s h (itS s (ctN s 60 (0, false)) a.1).1 a.2 (itS s (ctN s 60 (0, false)) a.1).2 h') (fun a => N - a.1) (0, .slice none 0 0) (by kernel_rfl) ⟨Nat.zero_le _, J0⟩ ?_
  clear J0
  intro a g h1 hJ
  have hi := hJ.1
  have J := hJ.2
  clear hJ
  have hlen := itS_len s (ctN s 60 (0, false)) a.1
  simp (maxSteps := 1000000) -implicitDefEqProofs only [push_cast, seval]
  with_reducible refine bcase_d (fun hb => ?_) (fun hb => ?_)
  · simp (maxSteps := 1000000) -implicitDefEqProofs only [push_cast, seval]
    with_reducible refine CD.to (short_p (h.n + 1) s _ hs _ J.o1) ?_
    have J2 : RcJ s h (shN s (itS s (ctN s 60 (0, false)) a.1).1) a.2 (itS s (ctN s 60 (0, false)) a.1).2 (h1.set (h.n + 1) (rdP (h.n + 1) s (shN s (itS s (ctN s 60 (0, false)) a.1).1))) :=
      ⟨J.n, (set_ne _ (by omega)).trans J.o0, set_same _ _, (set_ne _ (by omega)).trans J.o2, J.g.keep (Nat.le_refl _) (fun i hi => set_ne _ (by have := (J.g.range hi).1; omega)), J.pre.set (by omega) _⟩
    generalize h1.set (h.n + 1) (rdP (h.n + 1) s (shN s (itS s (ctN s 60 (0, false)) a.1).1)) = h2 at *
    have o2 := J2.o2
    have k2 : h.n + 2 < h2.n := by have := J2.n; omega
    have hf : ((((itS s (ctN s 60 (0, false)) a.1).2).map encS).flatten).length = ((itS s (ctN s 60 (0, false)) a.1).2).length * 1 := flat_len (k := 1) _ (fun _ => rfl)
    simp (maxSteps := 1000000) -implicitDefEqProofs only [push_cast, seval, o2, rd_of o2, rd1_of o2, k2]
    refine Gr.app1 (h0 := ⟨h.n + 3, h2.ob⟩) si50 (by decide) (by decide) (notInt_sl und50) J2.g ⟨J2.n, fun _ _ => rfl⟩ (m := 1) rfl (by rw [hf]; omega) (by decide) (fun h3 gr ow _ n3 f3 => ?_)
    have q := fun i (hi : i < h.n + 3) => f3 i (by have := J2.n; omega) (J2.g.not_low hi)
    have o23 := (q (h.n + 2) (by omega)).trans o2
    have k3 : h.n + 2 < h3.n := by omega
    simp (maxSteps := 1000000) -implicitDefEqProofs only [push_cast, seval, o23, rd_of o23, rd1_of o23, k3]
    rw [wrapSucc (by omega)]
    have p3 : Pre h h3 := ⟨by have := J2.n; omega, fun i hi => (q i (by omega)).trans (J2.pre.ob i hi)⟩
    have gr2 : Gr (h.n + 3) h3 (.slice (some ⟨h2.n + 1, 0, none⟩) (((((itS s (ctN s 60 (0, false)) a.1).2).map encS).flatten).length / 1 + 1) 1) 1 (((itS s (ctN s 60 (0, false)) (a.1 + 1)).2).map encS).flatten := by
      rw [itS, flat_snoc]; exact gr
    refine ⟨(a.1 + 1, .slice (some ⟨h2.n + 1, 0, none⟩) (((((itS s (ctN s 60 (0, false)) a.1).2).map encS).flatten).length / 1 + 1) 1), by kernel_rfl, ⟨by show a.1 + 1 ≤ N; omega, ⟨by show h.n + 3 ≤ h3.n; have := J2.n; omega, (set_ne _ (by omega)).trans ((q h.n (by omega)).trans J2.o0), (set_ne _ (by omega)).trans ((q (h.n + 1) (by omega)).trans J2.o1), set_same _ _, gr2.keep (Nat.le_refl _) (fun i hi => set_ne _ (by have := (gr2.range hi).1; omega)), p3.set (by omega) _⟩⟩, by show N - (a.1 + 1) < N - a.1; omega⟩
  have ea : a.1 = N := by omega
  rw [ea] at J hlen
  obtain ⟨L, hL⟩ : ∃ L, itS s (ctN s 60 (0, false)) N = L := ⟨_, rfl⟩
  rw [hL] at J hlen
  have eL : cL s = L := by rw [cL, hN]; exact hL
  obtain ⟨M, hM, hM2⟩ := ctV_nat s 250 L.1
  have hd := count_p (h.n + 1) s L.1 250 (by omega) hs
  rw [show ((250 : Nat) : Int) = 250 from rfl] at hM
  rw [hM] at hd
  simp (maxSteps := 1000000) -implicitDefEqProofs only [push_cast, seval]
  with_reducible refine CD.to (hd _ J.o1) ?_
  have K0 : RcK s h (ctN s 250 L.1) a.2 (.slice none 0 0) L.2 [] (h1.set (h.n + 1) (rdP (h.n + 1) s (ctN s 250 L.1))) := RcK.read (st := L.1) ⟨J.n, J.o0, J.o1, J.o2, J.g, Gr.nil _ _ _ _, fun i _ e => e, J.pre⟩
  generalize h1.set (h.n + 1) (rdP (h.n + 1) s (ctN s 250 L.1)) = h2 at *
  simp (maxSteps := 1000000) -implicitDefEqProofs only [push_cast, seval]
  refine WC.loopA (by kernel_rfl) [31] [9, 32, 33, 34, 35, 36, 37, 38, 39, 40, 41, 42, 43, 44, 45, 46] (fun c : Nat × Value => [.int .i64 (c.1 : Nat)]) (fun c h' => c.1 ≤ M ∧ RcK s h (itI s (ctN s 250 L.1) c.1).1 a.2 c.2 L.2 (itI s (ctN s 250 L.1) c.1).2 h') (fun c => M - c.1) (0, .slice none 0 0) (by kernel_rfl) ⟨Nat.zero_le _, K0⟩ ?_
  clear K0 hd hc hc' hb J
  intro c g2 h3 hJ
  have ci := hJ.1
  have K := hJ.2
  clear hJ
  have hlen2 := itI_len s (ctN s 250 L.1) c.1
  generalize hC : itI s (ctN s 250 L.1) c.1 = C at K hlen2
  simp (maxSteps := 1000000) -implicitDefEqProofs only [push_cast, seval]
  with_reducible refine bcase_d (fun hb => ?_) (fun hb => ?_)
  · simp (maxSteps := 1000000) -implicitDefEqProofs only [push_cast, seval]
    have kn := K.n
    have hf : ((C.2.map encN).flatten).length = C.2.length * 2 := flat_len (k := 2) _ (fun _ => rfl)
    have nA : ¬ atBlock a.2 h3.n := fun e => by have := (K.g.range e).2; omega
    have nB : ¬ atBlock c.2 h3.n := fun e => by have := (K.gb.range e).2; omega
    have K4 := K.new (((Pre.refl h3).alloc (.cells [.int .i64 0, .int .i64 0] .solo h3.n)).set (Nat.le_refl _) (.cells [.int .i64 0, .int .i64 0] .solo h3.n))
    have q4 : ((h3.alloc (.cells [.int .i64 0, .int .i64 0] .solo h3.n)).set h3.n (.cells [.int .i64 0, .int .i64 0] .solo h3.n)).ob h3.n = _ := set_same _ _
    have n4 : ((h3.alloc (.cells [.int .i64 0, .int .i64 0] .solo h3.n)).set h3.n (.cells [.int .i64 0, .int .i64 0] .solo h3.n)).n = h3.n + 1 := rfl
    generalize ((h3.alloc (.cells [.int .i64 0, .int .i64 0] .solo h3.n)).set h3.n (.cells [.int .i64 0, .int .i64 0] .solo h3.n)) = H4 at *
    with_reducible refine CD.to (one_p (h.n + 1) s _ hs _ K4.o1) ?_
    have K5 := K4.read (st' := onN s C.1)
    have q5 : (H4.set (h.n + 1) (rdP (h.n + 1) s (onN s C.1))).ob h3.n = _ := (set_ne _ (by omega)).trans q4
    have n5 : (H4.set (h.n + 1) (rdP (h.n + 1) s (onN s C.1))).n = h3.n + 1 := n4
    generalize (H4.set (h.n + 1) (rdP (h.n + 1) s (onN s C.1))) = H5 at *
    have l5 : h3.n < H5.n := by omega
    simp (maxSteps := 1000000) -implicitDefEqProofs only [push_cast, seval, q5, rd_of q5, rd1_of q5, l5]
    have K6 := K5.other (i := h3.n) (by omega) nA nB (.cells [.int .i64 (onV s C.1), .int .i64 0] .solo h3.n)
    have q6 : (H5.set h3.n (.cells [.int .i64 (onV s C.1), .int .i64 0] .solo h3.n)).ob h3.n = _ := set_same _ _
    have n6 : (H5.set h3.n (.cells [.int .i64 (onV s C.1), .int .i64 0] .solo h3.n)).n = h3.n + 1 := n5
    generalize (H5.set h3.n (.cells [.int .i64 (onV s C.1), .int .i64 0] .solo h3.n)) = H6 at *
    with_reducible refine CD.to (one_p (h.n + 1) s _ hs _ K6.o1) ?_
    have K7 := K6.read (st' := onN s (onN s C.1))
    have q7 : (H6.set (h.n + 1) (rdP (h.n + 1) s (onN s (onN s C.1)))).ob h3.n = _ := (set_ne _ (by omega)).trans q6
    have n7 : (H6.set (h.n + 1) (rdP (h.n + 1) s (onN s (onN s C.1)))).n = h3.n + 1 := n6
    generalize (H6.set (h.n + 1) (rdP (h.n + 1) s (onN s (onN s C.1)))) = H7 at *
    have l7 : h3.n < H7.n := by omega
    simp (maxSteps := 1000000) -implicitDefEqProofs only [push_cast, seval, q7, rd_of q7, rd1_of q7, l7]
    have K8 := K7.other (i := h3.n) (by omega) nA nB (.cells [.int .i64 (onV s C.1), .int .i64 (onV s (onN s C.1))] .solo h3.n)
    have q8 : (H7.set h3.n (.cells [.int .i64 (onV s C.1), .int .i64 (onV s (onN s C.1))] .solo h3.n)).ob h3.n = _ := set_same _ _
    have n8 : (H7.set h3.n (.cells [.int .i64 (onV s C.1), .int .i64 (onV s (onN s C.1))] .solo h3.n)).n = h3.n + 1 := n7
    have o2 := K8.o2
    have l82 : h.n + 2 < (H7.set h3.n (.cells [.int .i64 (onV s C.1), .int .i64 (onV s (onN s C.1))] .solo h3.n)).n := by omega
    have l83 : h3.n < (H7.set h3.n (.cells [.int .i64 (onV s C.1), .int .i64 (onV s (onN s C.1))] .solo h3.n)).n := by omega
    generalize (H7.set h3.n (.cells [.int .i64 (onV s C.1), .int .i64 (onV s (onN s C.1))] .solo h3.n)) = H8 at *
    simp (maxSteps := 1000000) -implicitDefEqProofs only [push_cast, seval, q8, rd_of q8, rd1_of q8, o2, rd_of o2, rd1_of o2, l82, l83]
    have m8 := K8.n
    refine Gr.app1 (h0 := ⟨h.n + 3, H8.ob⟩) si51 (by decide) (by decide) (notInt_sl und51) K8.gb ⟨m8, fun _ _ => rfl⟩ (m := 1) rfl (by rw [hf]; omega) (by decide) (fun h9 gr ow _ n9 f9 => ?_)
    have q := fun i (hi : i < h.n + 3) => f9 i (by omega) (K8.gb.not_low hi)
    have o29 := (q (h.n + 2) (by omega)).trans o2
    have k9 : h.n + 2 < h9.n := by omega
    simp (maxSteps := 1000000) -implicitDefEqProofs only [push_cast, seval, o29, rd_of o29, rd1_of o29, k9]
    rw [wrapSucc (by omega)]
    have p9 : Pre h h9 := ⟨by omega, fun i hi => (q i (by omega)).trans (K8.pre.ob i hi)⟩
    have gr2 : Gr (h.n + 3) h9 (.slice (some ⟨H8.n + 1, 0, none⟩) (((C.2.map encN).flatten).length / 2 + 1) 2) 2 (((itI s (ctN s 250 L.1) (c.1 + 1)).2).map encN).flatten := by
      rw [itI, hC, flat_snoc]; exact gr
    have ga2 : Gr (h.n + 3) h9 a.2 1 (L.2.map encS).flatten := K8.g.keep (by omega) (fun i e => f9 i (K8.g.range e).2 (K8.ne i e))
    refine ⟨(c.1 + 1, .slice (some ⟨H8.n + 1, 0, none⟩) (((C.2.map encN).flatten).length / 2 + 1) 2), by kernel_rfl, ⟨by show c.1 + 1 ≤ M; omega, ⟨by show h.n + 3 ≤ h9.n; omega, (set_ne _ (by omega)).trans ((q h.n (by omega)).trans K8.o0), ?_, set_same _ _, ga2.keep (Nat.le_refl _) (fun i hi => set_ne _ (by have := (ga2.range hi).1; omega)), gr2.keep (Nat.le_refl _) (fun i hi => set_ne _ (by have := (gr2.range hi).1; omega)), ?_, p9.set (by omega) _⟩⟩, by show M - (c.1 + 1) < M - c.1; omega⟩
    · refine (set_ne _ (by omega)).trans ((q (h.n + 1) (by omega)).trans ?_)
      show H8.ob (h.n + 1) = rdP (h.n + 1) s (itI s (ctN s 250 L.1) (c.1 + 1)).1
      rw [itI, hC]; exact K8.o1
    · intro i e e2
      have e3 : H8.n + 1 = i := e2
      have := (K8.g.range e).2
      omega
  have ec : c.1 = M := by omega
  rw [ec] at hC hlen2
  simp (maxSteps := 1000000) -implicitDefEqProofs only [push_cast, seval]
  have kn := K.n
  have E0 := K.toE
  have eI : cI2 s = C := by rw [cI2, eL, hM]; exact hC
  clear K
  with_reducible refine CD.to (number_p (h.n + 1) s _ hs _ E0.o1) ?_
  have E1 := E0.read (st' := nuN s C.1)
  generalize h3.set (h.n + 1) (rdP (h.n + 1) s (nuN s C.1)) = H4 at *
  have q2 := E1.o2
  have l2 : h.n + 2 < H4.n := by have := E1.n; omega
  simp (maxSteps := 1000000) -implicitDefEqProofs only [push_cast, seval, q2, rd_of q2, rd1_of q2, l2]
  have E2 := E1.put (nuV s C.1) 0
  generalize H4.set (h.n + 2) (.cells [a.2, c.2, .int .i64 0, .int .i64 (nuV s C.1), .int .i64 0] .solo (h.n + 2)) = H5 at *
  with_reducible refine CD.to (number_p (h.n + 1) s _ hs _ E2.o1) ?_
  have E3 := E2.read (st' := nuN s (nuN s C.1))
  generalize H5.set (h.n + 1) (rdP (h.n + 1) s (nuN s (nuN s C.1))) = H6 at *
  have q3 := E3.o2
  have l3 : h.n + 2 < H6.n := by have := E3.n; omega
  simp (maxSteps := 1000000) -implicitDefEqProofs only [push_cast, seval, q3, rd_of q3, rd1_of q3, l3]
  have E4 := E3.put (nuV s C.1) (nuV s (nuN s C.1))
  generalize H6.set (h.n + 2) (.cells [a.2, c.2, .int .i64 0, .int .i64 (nuV s C.1), .int .i64 (nuV s (nuN s C.1))] .solo (h.n + 2)) = H7 at *
  have q4 := E4.o2
  have q0 := E4.o0
  have l4 : h.n + 2 < H7.n := by have := E4.n; omega
  have l0 : h.n < H7.n := by omega
  have y1 := E4.rdc.texts.one
  have y2 := E4.rdc.list.one
  have mx := maxLen_eq
  have hCk := CodeOk_i ⟨L.2, C.2, 0, nuV s C.1, nuV s (nuN s C.1)⟩ a.2 c.2 H7 E4.rdc (by show L.2.length ≤ 1048576; omega) (by show C.2.length ≤ 1048576; omega) (fun x hx => by have := itS_size s (ctN s 60 (0, false)) N x (by rw [hL]; exact hx); omega)
  have eLn : cLine s = nuN s C.1 := by rw [cLine, eI]
  have eEn : cEnd s = nuN s (nuN s C.1) := by rw [cEnd, eLn]
  have eC : cCode s = ⟨L.2, C.2, 0, nuV s C.1, nuV s (nuN s C.1)⟩ := by rw [cCode, eL, eI, eLn]
  have eO : cOk s = (!(nuN s (nuN s C.1)).2 && decide (((nuN s (nuN s C.1)).1 : Int) = s.size) && codeOk ⟨L.2, C.2, 0, nuV s C.1, nuV s (nuN s C.1)⟩) := by rw [cOk, eEn, eC]
  have hdn := done_p (h.n + 1) s _ H7 E4.o1
  have eCS : ∀ b, cOk s = b → cS2 s = if b = true then ⟨L.2, C.2, 0, nuV s C.1, nuV s (nuN s C.1)⟩ else code0 := fun b e => by rw [cS2, e, eC]
  have E5 : OwnC h H7 a.2 c.2 ⟨L.2, C.2, 0, nuV s C.1, nuV s (nuN s C.1)⟩ := E4.own
  have p5 := E4.pre
  clear E0 E1 E2 E3 E4 eC eEn eLn eI q2 q3
  generalize hK : (Cod.mk L.2 C.2 0 (nuV s C.1) (nuV s (nuN s C.1))) = K at *
  have kb : K.bgn = 0 := by rw [← hK]
  have kl : K.line = nuV s C.1 := by rw [← hK]
  have kf : K.fin = nuV s (nuN s C.1) := by rw [← hK]
  rw [kb, kl, kf] at hCk
  rw [← kl, ← kf] at q4 hCk
  generalize hD : (!(nuN s (nuN s C.1)).2 && decide (((nuN s (nuN s C.1)).1 : Int) = s.size)) = D at *
  rw [kl, kf] at q4 hCk
  with_reducible refine CD.to hdn ?_
  cases D
  · simp (maxSteps := 1000000) -implicitDefEqProofs only [push_cast, seval, q4, rd_of q4, rd1_of q4, q0, rd_of q0, rd1_of q0, l4, l0, y1, y2]
    have eF : cOk s = false := by rw [eO]; rfl
    have eS := eCS _ eF
    rw [if_neg (by decide)] at eS
    rw [eS, eF]
    exact ⟨_, _, rfl, ⟨Gr.nil _ _ _ _, Gr.nil _ _ _ _, fun i e => e.elim⟩, p5.set (Nat.le_refl _) _⟩
  · simp (maxSteps := 1000000) -implicitDefEqProofs only [push_cast, seval, q4, rd_of q4, rd1_of q4, q0, rd_of q0, rd1_of q0, l4, l0, y1, y2]
    with_reducible refine CD.to hCk ?_
    cases hG : codeOk K
    · simp (maxSteps := 1000000) -implicitDefEqProofs only [push_cast, seval, q4, rd_of q4, rd1_of q4, q0, rd_of q0, rd1_of q0, l4, l0, y1, y2]
      have eF : cOk s = false := by rw [eO, hG]; rfl
      have eS := eCS _ eF
      rw [if_neg (by decide)] at eS
      rw [eS, eF]
      exact ⟨_, _, rfl, ⟨Gr.nil _ _ _ _, Gr.nil _ _ _ _, fun i e => e.elim⟩, p5.set (Nat.le_refl _) _⟩
    · simp (maxSteps := 1000000) -implicitDefEqProofs only [push_cast, seval, q4, rd_of q4, rd1_of q4, q0, rd_of q0, rd1_of q0, l4, l0, y1, y2]
      have eF : cOk s = true := by rw [eO, hG]; rfl
      have eS := eCS _ eF
      rw [if_pos rfl] at eS
      rw [eS, eF, kl, kf]
      refine ⟨_, _, rfl, ⟨E5.a.keep (Nat.le_refl _) (fun i hi => set_ne _ (by have := (E5.a.range hi).1; omega)), E5.b.keep (Nat.le_refl _) (fun i hi => set_ne _ (by have := (E5.b.range hi).1; omega)), E5.ne⟩, p5.set (Nat.le_refl _) _⟩
end Go.Proofs.Ytciajhpeikemoaa
namespace Go.Proofs.Ytciajhpeikemoaa
open Go Go.Sim Go.Proofs
set_option linter.unusedSimpArgs false
set_option linter.unusedVariables false
set_option maxRecDepth 100000
set_option maxHeartbeats 1000000
def nmV (s : ByteArray) (r : Nat × Bool) : Nat := (oN (if r.2 then none else rv s r.1)).toNat
theorem nmV_eq (s : ByteArray) (r : Nat × Bool) : oN (if r.2 then none else rv s r.1) = (nmV s r : Nat) := by
  unfold nmV
  generalize (if r.2 then none else rv s r.1) = q
  cases q with
  | none => rfl
  | some p => simp [oN]
theorem l07Var_q (p : Nat) (s : ByteArray) (r : Nat × Bool) (hs : s.size ≤ maxLen - 16) (h : AH) (e : h.ob p = rdP p s r) : CD Try.prog 63 [.pointer (some ⟨p, 0, none⟩)] h (.int .i64 (nmV s r : Nat)) (h.set p (rdP p s (nuN s r))) := by
  have := l07Var_p p s r hs h e
  rw [nmV_eq] at this
  exact this
/-- What the document's reader reads, where its loops stop at K1 and K2. -/
def dS (s : ByteArray) (K1 : Nat) : (Nat × Bool) × List ByteArray := itS s (nuN s (0, false)) K1
def dI (s : ByteArray) (K1 K2 : Nat) : (Nat × Bool) × List Ins := itI s (nuN s (dS s K1).1) K2
def dE (s : ByteArray) (K1 K2 : Nat) : Nat × Bool := if (dI s K1 K2).1.2 = false ∧ K2 < nmV s (dS s K1).1 ∧ K2 < 300 then ((dI s K1 K2).1.1, true) else (dI s K1 K2).1
def dCode (s : ByteArray) (K1 K2 : Nat) : Cod := ⟨(dS s K1).2, (dI s K1 K2).2, 0, (nmV s (dE s K1 K2) : Nat), (nmV s (nuN s (dE s K1 K2)) : Nat)⟩
def dEnd (s : ByteArray) (K1 K2 : Nat) : Nat × Bool := nuN s (nuN s (dE s K1 K2))
def dOk (s : ByteArray) (K1 K2 : Nat) : Bool := !(dEnd s K1 K2).2 && (codeOk (dCode s K1 K2) && decide (codeT (dCode s K1 K2) = s))
structure StopsC (s : ByteArray) (K1 K2 : Nat) : Prop where
  a1 : K1 ≤ 100
  a2 : K1 ≤ nmV s (0, false)
  a3 : ∀ j, j < K1 → (itS s (nuN s (0, false)) j).1.2 = false
  a4 : ¬ (K1 < nmV s (0, false) ∧ K1 < 100 ∧ (itS s (nuN s (0, false)) K1).1.2 = false)
  b1 : K2 ≤ 300
  b2 : K2 ≤ nmV s (dS s K1).1
  b4 : ¬ (K2 < nmV s (dS s K1).1 ∧ K2 < 300 ∧ (dI s K1 K2).1.2 = false ∧ (dI s K1 K2).1.1 + 2 ≤ s.size)
theorem shN_bad {s : ByteArray} {r : Nat × Bool} (h : r.2 = true) : (shN s r).2 = true := by simp [shN, h]
theorem shN_good {s : ByteArray} {r : Nat × Bool} (h : (shN s r).2 = false) : r.2 = false := by
  cases e : r.2 with
  | false => rfl
  | true => rw [shN_bad e] at h; cases h
theorem onN_good {s : ByteArray} {r : Nat × Bool} (h : (onN s r).2 = false) : r.2 = false ∧ r.1 < s.size ∧ (onN s r).1 = r.1 + 1 := by
  simp only [onN, Bool.not_eq_false', decide_eq_true_eq] at h
  exact ⟨h.1, h.2, by simp only [onN, if_pos h]⟩
theorem sh_back {s : ByteArray} {r : Nat × Bool} (h : (shN s r).2 = false) : short (shT s r) = s.extract r.1 (shN s r).1 ∧ r.1 ≤ (shN s r).1 ∧ (shN s r).1 ≤ s.size := by
  have hr := shN_good h
  unfold shN at h
  simp only [hr, Bool.false_eq_true, if_false] at h
  cases hq : rs s r.1 with
  | none => rw [hq] at h; cases h
  | some p =>
    have := rs_short hq
    simpa [shT, shN, hr, hq, sT, nxT] using this
theorem itS_good {s : ByteArray} {r : Nat × Bool} : ∀ {i : Nat}, (itS s r i).1.2 = false → r.2 = false ∧ ∀ j, j ≤ i → (itS s r j).1.2 = false
  | 0, h => ⟨h, fun j hj => by have : j = 0 := by omega
                               subst this; exact h⟩
  | i + 1, h => by
    have h1 := itS_good (i := i) (shN_good h)
    exact ⟨h1.1, fun j hj => by
      by_cases e : j = i + 1
      · subst e; exact h
      · exact h1.2 j (by omega)⟩
theorem itI_good {s : ByteArray} {r : Nat × Bool} : ∀ {i : Nat}, (itI s r i).1.2 = false → r.2 = false ∧ ∀ j, j ≤ i → (itI s r j).1.2 = false
  | 0, h => ⟨h, fun j hj => by have : j = 0 := by omega
                               subst this; exact h⟩
  | i + 1, h => by
    have h1 := itI_good (i := i) (onN_good (onN_good h).1).1
    exact ⟨h1.1, fun j hj => by
      by_cases e : j = i + 1
      · subst e; exact h
      · exact h1.2 j (by omega)⟩
theorem extract_self (s : ByteArray) (a : Nat) : s.extract a a = ⟨#[]⟩ := by
  apply ByteArray.ext
  simp
theorem itS_text {s : ByteArray} {r : Nat × Bool} (hr : r.1 ≤ s.size) : ∀ {i : Nat}, (itS s r i).1.2 = false → cat ((itS s r i).2.map short) = s.extract r.1 (itS s r i).1.1 ∧ r.1 ≤ (itS s r i).1.1 ∧ (itS s r i).1.1 ≤ s.size
  | 0, h => ⟨by simp only [itS, extract_self]; rfl, Nat.le_refl _, hr⟩
  | i + 1, h => by
    have b1 := sh_back h
    have ih := itS_text hr (i := i) (shN_good h)
    simp only [itS, List.map_append, List.map_cons, List.map_nil, cat_snoc]
    rw [ih.1, b1.1, extract_app s _ _ _ ih.2.1 (by omega)]
    exact ⟨rfl, by omega, b1.2.2⟩
theorem two_at (s : ByteArray) (a : Nat) (h : a + 2 ≤ s.size) : (⟨#[UInt8.ofNat (bN s a), UInt8.ofNat (bN s (a + 1))]⟩ : ByteArray) = s.extract a (a + 2) := by
  exact (extract_bl s a 2 h).symm
theorem onV_good {s : ByteArray} {r : Nat × Bool} (h : (onN s r).2 = false) : onV s r = (bN s r.1 : Nat) := by
  have := onN_good h
  simp only [onV, if_pos (show r.2 = false ∧ r.1 < s.size from ⟨this.1, this.2.1⟩)]
theorem itI_text {s : ByteArray} {r : Nat × Bool} (hr : r.1 ≤ s.size) : ∀ {i : Nat}, (itI s r i).1.2 = false → cat ((itI s r i).2.map insB) = s.extract r.1 (itI s r i).1.1 ∧ r.1 ≤ (itI s r i).1.1 ∧ (itI s r i).1.1 ≤ s.size
  | 0, h => ⟨by simp only [itI, extract_self]; rfl, Nat.le_refl _, hr⟩
  | i + 1, h => by
    have h' : (onN s (onN s (itI s r i).1)).2 = false := h
    have g2 := onN_good h'
    have g1 := onN_good g2.1
    have ih := itI_text hr (i := i) g1.1
    have v2 := onV_good h'
    have v1 := onV_good g2.1
    rw [g1.2.2] at v2 g2
    simp only [itI, List.map_append, List.map_cons, List.map_nil, cat_snoc, insB, v1, v2, Int.toNat_natCast]
    rw [ih.1, two_at s _ (by omega), g2.2.2, extract_app s _ _ _ ih.2.1 (by omega)]
    exact ⟨rfl, by omega, by omega⟩
theorem nm_back {s : ByteArray} {r : Nat × Bool} (h : (nuN s r).2 = false) : r.2 = false ∧ vt (nmV s r : Nat) = s.extract r.1 (nuN s r).1 ∧ r.1 ≤ (nuN s r).1 ∧ (nuN s r).1 ≤ s.size := by
  unfold nuN nmV at *
  cases hr : r.2 with
  | true => simp [hr] at h
  | false =>
    simp only [hr, Bool.false_eq_true, if_false] at h ⊢
    cases hq : rv s r.1 with
    | none => rw [hq] at h; cases h
    | some p =>
      have h3 := rv_vt hq
      have h2 := rv_some hq
      simp only [oN, nxN, Int.toNat_natCast]
      exact ⟨trivial, h3, by omega, h2.2.2.2⟩
theorem dE_good {s : ByteArray} {K1 K2 : Nat} (h : (dE s K1 K2).2 = false) : dE s K1 K2 = (dI s K1 K2).1 ∧ ¬ (K2 < nmV s (dS s K1).1 ∧ K2 < 300) := by
  unfold dE at h ⊢
  split at h
  · cases h
  · rename_i hn
    rw [if_neg hn]
    exact ⟨rfl, fun e => hn ⟨h, e.1, e.2⟩⟩
theorem txT_full (l : List ByteArray) : txT l l.length = cat (l.map short) := by rw [txT, List.take_length]
theorem nsT_full (l : List Ins) : nsT l l.length = cat (l.map insB) := by rw [nsT, List.take_length]
theorem d_text {s : ByteArray} {K1 K2 : Nat} (h : (dEnd s K1 K2).2 = false) :
    vt (nmV s (0, false) : Nat) ++ txT (dCode s K1 K2).texts (dCode s K1 K2).texts.length ++ vt (nmV s (dS s K1).1 : Nat) ++ nsT (dCode s K1 K2).list (dCode s K1 K2).list.length ++ vt (dCode s K1 K2).line ++ vt (dCode s K1 K2).fin = s.extract 0 (dEnd s K1 K2).1 ∧ (dEnd s K1 K2).1 ≤ s.size ∧
    dE s K1 K2 = (dI s K1 K2).1 ∧ ¬ (K2 < nmV s (dS s K1).1 ∧ K2 < 300) ∧ (dI s K1 K2).1.2 = false ∧ (dS s K1).1.2 = false := by
  unfold dEnd at h ⊢
  have b6 := nm_back h
  have b5 := nm_back b6.1
  have e := dE_good b5.1
  have gI : (dI s K1 K2).1.2 = false := by rw [← e.1]; exact b5.1
  have b3 := nm_back (itI_good gI).1
  have b1 := nm_back (itS_good b3.1).1
  have t2 := itS_text b1.2.2.2 b3.1
  have t4 := itI_text b3.2.2.2 gI
  refine ⟨?_, b6.2.2.2, e.1, e.2, gI, b3.1⟩
  rw [txT_full, nsT_full]
  simp only [dCode]
  have t4' : cat ((dI s K1 K2).2.map insB) = s.extract (nuN s (dS s K1).1).1 (dE s K1 K2).1 := by rw [e.1]; exact t4.1
  have l4 : (nuN s (dS s K1).1).1 ≤ (dE s K1 K2).1 := by rw [e.1]; exact t4.2.1
  have t2' : cat ((dS s K1).2.map short) = s.extract (nuN s (0, false)).1 (dS s K1).1.1 := t2.1
  have l2 : (nuN s (0, false)).1 ≤ (dS s K1).1.1 := t2.2.1
  have b3' : vt (nmV s (dS s K1).1 : Nat) = s.extract (dS s K1).1.1 (nuN s (dS s K1).1).1 := b3.2.1
  have l3 : (dS s K1).1.1 ≤ (nuN s (dS s K1).1).1 := b3.2.2.1
  rw [b1.2.1, t2', b3', t4', b5.2.1, b6.2.1, extract_app s _ _ _ b1.2.2.1 l2, extract_app s _ _ _ (by omega) l3, extract_app s _ _ _ (by omega) l4, extract_app s _ _ _ (by omega) b5.2.2.1, extract_app s _ _ _ (by omega) b6.2.2.1]
theorem ct_le {s : ByteArray} {most : Nat} {r : Nat × Bool} (h : nmV s r ≤ most) : ctV s most r = (nmV s r : Nat) ∧ ctN s most r = nuN s r := by
  unfold ctV ctN nuN
  rw [nmV_eq, if_neg (by omega), decide_eq_false (by omega), Bool.or_false]
  exact ⟨rfl, rfl⟩
theorem ct_good {s : ByteArray} {most : Nat} {r : Nat × Bool} (h : (ctN s most r).2 = false) : nmV s r ≤ most := by
  unfold ctN at h
  rw [nmV_eq] at h
  simp only [Bool.or_eq_false_iff, decide_eq_false_iff_not] at h
  omega
theorem nuV_eq (s : ByteArray) (r : Nat × Bool) : nuV s r = (nmV s r : Nat) := nmV_eq s r
theorem cL_of {s : ByteArray} (h : nmV s (0, false) ≤ 60) : cL s = dS s (nmV s (0, false)) := by
  have c1 := ct_le h
  rw [cL, show (60 : Int) = ((60 : Nat) : Int) from rfl, c1.1, c1.2]
  rfl
theorem cI_of {s : ByteArray} {K1 : Nat} (e : cL s = dS s K1) (h : nmV s (dS s K1).1 ≤ 250) : cI2 s = dI s K1 (nmV s (dS s K1).1) := by
  have c1 := ct_le h
  rw [cI2, e, show (250 : Int) = ((250 : Nat) : Int) from rfl, c1.1, c1.2]
  rfl
theorem code_agree {s : ByteArray} {K1 K2 : Nat} (st : StopsC s K1 K2) : dOk s K1 K2 = cOk s ∧ (cOk s = true → dCode s K1 K2 = cCode s) := by
  have key : (dOk s K1 K2 = true ∨ cOk s = true) → dOk s K1 K2 = true ∧ cOk s = true ∧ dCode s K1 K2 = cCode s := by
    intro hh
    have facts : K1 = nmV s (0, false) ∧ K1 ≤ 60 ∧ K2 = nmV s (dS s K1).1 ∧ K2 ≤ 250 := by
      rcases hh with h | h
      · simp only [dOk, Bool.and_eq_true, Bool.not_eq_true', decide_eq_true_eq] at h
        have t := d_text h.1
        have o := ((codeOk_iff _).1 h.2.1).1
        have l1 := o.t60
        have l2 := o.l250
        simp only [dCode, dS, dI, itS_len, itI_len] at l1 l2
        have a4 := st.a4
        have a2 := st.a2
        have b2 := st.b2
        have n1 := t.2.2.2.1
        have g1 : (itS s (nuN s (0, false)) K1).1.2 = false := t.2.2.2.2.2
        refine ⟨?_, by omega, ?_, by omega⟩
        · by_cases e : K1 < nmV s (0, false)
          · exact absurd ⟨e, by omega, g1⟩ a4
          · omega
        · omega
      · simp only [cOk, Bool.and_eq_true, Bool.not_eq_true', decide_eq_true_eq] at h
        have b6 := nm_back (show (nuN s (cLine s)).2 = false from h.1.1)
        have b5 := nm_back (show (nuN s (cI2 s).1).2 = false from b6.1)
        have kI := itI_good (show (itI s (ctN s 250 (cL s).1) (ctV s 250 (cL s).1).toNat).1.2 = false from b5.1)
        have n2 : nmV s (cL s).1 ≤ 250 := ct_good (most := 250) kI.1
        have c2 := ct_le n2
        have b3 := nm_back (c2.2 ▸ kI.1)
        have kS := itS_good (show (itS s (ctN s 60 (0, false)) (ctV s 60 (0, false)).toNat).1.2 = false from b3.1)
        have n1 : nmV s (0, false) ≤ 60 := ct_good (most := 60) kS.1
        have c1 := ct_le n1
        have eL := cL_of n1
        have a2 := st.a2
        have e1 : K1 = nmV s (0, false) := by
          by_cases e : K1 < nmV s (0, false)
          · refine absurd ⟨e, by omega, ?_⟩ st.a4
            have := kS.2 K1 (by rw [show (60 : Int) = ((60 : Nat) : Int) from rfl, c1.1]; omega)
            rw [show (60 : Int) = ((60 : Nat) : Int) from rfl, c1.2] at this
            exact this
          · omega
        rw [← e1] at eL
        have b2 := st.b2
        have b4 := st.b4
        rw [← eL] at b2 b4 ⊢
        refine ⟨e1, by omega, ?_, by omega⟩
        by_cases e : K2 < nmV s (cL s).1
        · exfalso
          have g0 := kI.2 K2 (by rw [show (250 : Int) = ((250 : Nat) : Int) from rfl, c2.1]; omega)
          have g1 := kI.2 (K2 + 1) (by rw [show (250 : Int) = ((250 : Nat) : Int) from rfl, c2.1]; omega)
          rw [show (250 : Int) = ((250 : Nat) : Int) from rfl, c2.2, eL] at g0 g1
          have g2 := onN_good (show (onN s (onN s (dI s K1 K2).1)).2 = false from g1)
          have g3 := onN_good g2.1
          have := g2.2.1
          rw [g3.2.2] at this
          exact b4 ⟨e, by omega, g0, by omega⟩
        · omega
    have eL := cL_of (s := s) (by omega)
    rw [← facts.1] at eL
    have eI := cI_of eL (by omega)
    rw [← facts.2.2.1] at eI
    have nE : dE s K1 K2 = (dI s K1 K2).1 := by
      unfold dE
      rw [if_neg (fun e => by omega)]
    have eC : cCode s = dCode s K1 K2 := by
      simp only [cCode, dCode, cLine, nuV_eq, eL, eI, nE]
    have eE : cEnd s = dEnd s K1 K2 := by simp only [cEnd, cLine, dEnd, eI, nE]
    have txt : (dEnd s K1 K2).2 = false → codeT (dCode s K1 K2) = s.extract 0 (dEnd s K1 K2).1 ∧ (dEnd s K1 K2).1 ≤ s.size := fun h => by
      have t := d_text h
      have v1 : (dCode s K1 K2).texts.length = nmV s (0, false) := by rw [← facts.1]; exact itS_len _ _ _
      have v2 : (dCode s K1 K2).list.length = nmV s (dS s K1).1 := by rw [← facts.2.2.1]; exact itI_len _ _ _
      refine ⟨?_, t.2.1⟩
      rw [← t.1, codeT]
      rw [v1, v2]
    rcases hh with h | h
    · refine ⟨h, ?_, eC.symm⟩
      simp only [dOk, Bool.and_eq_true, Bool.not_eq_true', decide_eq_true_eq] at h
      have t := txt h.1
      rw [h.2.2] at t
      have hz := congrArg ByteArray.size t.1
      simp only [ByteArray.size_extract] at hz
      simp only [cOk, Bool.and_eq_true, Bool.not_eq_true', decide_eq_true_eq, eC, eE]
      exact ⟨⟨h.1, by omega⟩, h.2.1⟩
    · refine ⟨?_, h, eC.symm⟩
      simp only [cOk, Bool.and_eq_true, Bool.not_eq_true', decide_eq_true_eq, eC, eE] at h
      have t := txt h.1.1
      simp only [dOk, Bool.and_eq_true, Bool.not_eq_true', decide_eq_true_eq]
      refine ⟨h.1.1, h.2, ?_⟩
      rw [t.1, show (dEnd s K1 K2).1 = s.size by omega, extract_all]
  cases hs : dOk s K1 K2 <;> cases hi : cOk s <;> simp_all
end Go.Proofs.Ytciajhpeikemoaa
namespace Go.Proofs.Ytciajhpeikemoaa
open Go Go.Sim Go.Proofs
set_option linter.unusedSimpArgs false
set_option linter.unusedVariables false
set_option maxRecDepth 100000
set_option maxHeartbeats 1000000
theorem nuN_le {s : ByteArray} {r : Nat × Bool} (h : r.1 ≤ s.size) : (nuN s r).1 ≤ s.size := by
  unfold nuN nxN
  dsimp only
  split
  · rename_i p e
    split at e
    · cases e
    · exact (rv_some e).2.2.2
  · exact h
theorem shN_le {s : ByteArray} {r : Nat × Bool} (h : r.1 ≤ s.size) : (shN s r).1 ≤ s.size := by
  unfold shN nxT
  dsimp only
  split
  · rename_i p e
    split at e
    · cases e
    · exact (rs_short e).2.2
  · exact h
theorem onN_le {s : ByteArray} {r : Nat × Bool} (h : r.1 ≤ s.size) : (onN s r).1 ≤ s.size := by
  unfold onN
  dsimp only
  split <;> omega
theorem itS_le {s : ByteArray} {r : Nat × Bool} (h : r.1 ≤ s.size) : ∀ i, (itS s r i).1.1 ≤ s.size
  | 0 => h
  | i + 1 => shN_le (itS_le h i)
theorem itI_le {s : ByteArray} {r : Nat × Bool} (h : r.1 ≤ s.size) : ∀ i, (itI s r i).1.1 ≤ s.size
  | 0 => h
  | i + 1 => onN_le (onN_le (itI_le h i))
theorem RcJ.read {s : ByteArray} {h h' : AH} {st st' : Nat × Bool} {vA : Value} {txt : List ByteArray} (J : RcJ s h st vA txt h') : RcJ s h st' vA txt (h'.set (h.n + 1) (rdP (h.n + 1) s st')) :=
  ⟨J.n, (set_ne _ (by omega)).trans J.o0, set_same _ _, (set_ne _ (by omega)).trans J.o2, J.g.keep (Nat.le_refl _) (fun i hi => set_ne _ (by have := (J.g.range hi).1; omega)), J.pre.set (by omega) _⟩
theorem RcJ.toK {s : ByteArray} {h h' : AH} {st : Nat × Bool} {vA : Value} {txt : List ByteArray} (J : RcJ s h st vA txt h') : RcK s h st vA (.slice none 0 0) txt [] h' := ⟨J.n, J.o0, J.o1, J.o2, J.g, Gr.nil _ _ _ _, fun i _ e => e, J.pre⟩
theorem ReadCode_s (s : ByteArray) (hs : s.size ≤ maxLen - 16) (h : AH) : CC Try.prog 24 [.string s] h (fun v h' => ∃ vA vB K1 K2, StopsC s K1 K2 ∧ v = .tuple #[.agg #[vA, vB, .int .i64 0, .int .i64 (if dOk s K1 K2 = true then dCode s K1 K2 else code0).line, .int .i64 (if dOk s K1 K2 = true then dCode s K1 K2 else code0).fin], .bool (dOk s K1 K2)] ∧ OwnC h h' vA vB (if dOk s K1 K2 = true then dCode s K1 K2 else code0) ∧ Pre h h') := by
  refine CC.withBig (fun big => ?_)
  have hc := l07Var_q (h.n + 1) s (0, false) hs
  generalize hN : nmV s (0, false) = N at hc
  have hc' : ∀ h1 : AH, h1.ob (h.n + 1) = .cells [.string s, .int .i64 0, .bool false] .solo (h.n + 1) → _ := fun h1 e => hc h1 e
  refine CC.ofN Try.func24 Try.ntmps24 Try.results24 rfl (by decide) (by kernel_rfl) ?_
  simp (maxSteps := 1000000) -implicitDefEqProofs only [push_cast, seval]
  with_reducible refine CD.to (hc' _ (by (try simp (maxSteps := 1000000) -implicitDefEqProofs only [push_cast, seval, rdOb]); try rfl)) ?_
  simp (maxSteps := 1000000) -implicitDefEqProofs only [push_cast, seval]
  have J0 : RcJ s h (nuN s (0, false)) (.slice none 0 0) [] (((((h.alloc (.cells [.slice none 0 0, .slice none 0 0, .int .i64 0, .int .i64 0, .int .i64 0] .solo h.n)).alloc (.cells [.string s, .int .i64 0, .bool false] .solo (h.n + 1))).alloc (.cells [.slice none 0 0, .slice none 0 0, .int .i64 0, .int .i64 0, .int .i64 0] .solo (h.n + 2))).set (h.n + 2) (.cells [.slice none 0 0, .slice none 0 0, .int .i64 0, .int .i64 0, .int .i64 0] .solo (h.n + 2))).set (h.n + 1) (rdP (h.n + 1) s (nuN s (0, false)))) := by
    refine ⟨Nat.le_refl _, ?_, set_same _ _, ?_, Gr.nil _ _ _ _, Pre.set (Pre.set ((((Pre.refl _).alloc _).alloc _).alloc _) (by omega) _) (by omega) _⟩
    · rw [set_ne _ (by omega), set_ne _ (by omega)]
      exact (alloc_lt _ (by show h.n < h.n + 2; omega)).trans ((alloc_lt _ (by show h.n < h.n + 1; omega)).trans (alloc_same _))
    · rw [set_ne _ (by omega)]; exact set_same _ _
  generalize (((((h.alloc (.cells [.slice none 0 0, .slice none 0 0, .int .i64 0, .int .i64 0, .int .i64 0] .solo h.n)).alloc (.cells [.string s, .int .i64 0, .bool false] .solo (h.n + 1))).alloc (.cells [.slice none 0 0, .slice none 0 0, .int .i64 0, .int .i64 0, .int .i64 0] .solo (h.n + 2))).set (h.n + 2) (.cells [.slice none 0 0, .slice none 0 0, .int .i64 0, .int .i64 0, .int .i64 0] .solo (h.n + 2))).set (h.n + 1) (rdP (h.n + 1) s (nuN s (0, false)))) = H0 at *
  clear hc hc'
  generalize hR0 : nuN s (0, false) = R0 at *
  refine WC.loopA (by kernel_rfl) [7] [17, 18, 19, 20, 21, 22, 23, 24, 25, 26, 27, 28, 29, 30, 31, 32, 33, 34, 35, 36, 37, 38, 39] (fun a : Nat × Value => [.int .i64 (a.1 : Nat)]) (fun a h' => (a.1 ≤ 100 ∧ a.1 ≤ N ∧ ∀ j, j < a.1 → (itS s R0 j).1.2 = false) ∧ RcJ s h (itS s R0 a.1).1 a.2 (itS s R0 a.1).2 h') (fun a => 100 - a.1) (0, .slice none 0 0) (by kernel_rfl) ⟨⟨Nat.zero_le _, Nat.zero_le _, fun j hj => absurd hj (Nat.not_lt_zero j)⟩, J0⟩ ?_
  clear J0
  intro a g h1 hJ
  have hi := hJ.1.1
  have hj := hJ.1.2.1
  have hall := hJ.1.2.2
  have J := hJ.2
  clear hJ
  have hlen := itS_len s R0 a.1
  have hle : (itS s R0 a.1).1.1 ≤ s.size := itS_le (by rw [← hR0]; exact nuN_le (Nat.zero_le _)) a.1
  generalize hL : itS s R0 a.1 = L at *
  have o1 := J.o1
  simp only [rdP] at o1
  have jn := J.n
  have k1 : h.n + 1 < h1.n := by omega
  have k2 : h.n + 2 < h1.n := by omega
  simp (maxSteps := 1000000) -implicitDefEqProofs only [push_cast, seval, o1, rd_of o1, rd1_of o1, k1]
  with_reducible refine bcase_d (fun hb1 => ?_) (fun hb1 => ?_)
  rotate_left
  have hs' : ¬ (a.1 < N ∧ a.1 < 100 ∧ L.1.2 = false) := fun e => by omega
  simp (maxSteps := 1000000) -implicitDefEqProofs only [push_cast, seval]
  rotate_left
  simp (maxSteps := 1000000) -implicitDefEqProofs only [push_cast, seval]
  with_reducible refine bcase_d (fun hb2 => ?_) (fun hb2 => ?_)
  rotate_left
  have hs' : ¬ (a.1 < N ∧ a.1 < 100 ∧ L.1.2 = false) := fun e => by omega
  simp (maxSteps := 1000000) -implicitDefEqProofs only [push_cast, seval]
  rotate_left 2
  simp (maxSteps := 1000000) -implicitDefEqProofs only [push_cast, seval, o1, rd_of o1, rd1_of o1, k1]
  cases hb3 : L.1.2
  rotate_left
  have hs' : ¬ (a.1 < N ∧ a.1 < 100 ∧ L.1.2 = false) := fun e => by rw [hb3] at e; simp at e
  simp (maxSteps := 1000000) -implicitDefEqProofs only [push_cast, seval, o1, rd_of o1, rd1_of o1, k1, hb3]
  rotate_left 3
  · simp (maxSteps := 1000000) -implicitDefEqProofs only [push_cast, seval, o1, rd_of o1, rd1_of o1, k1, hb3]
    have o2 := J.o2
    refine WC.draw' (by kernel_rfl) (by kernel_rfl) (.q 0 (.q 1 (.q 2 (.a 3 false (.a 4 false (.a 5 false (.q 6 (.a 7 true (.done))))))))) (by kernel_rfl) ?_
    simp (maxSteps := 1000000) -implicitDefEqProofs only [push_cast, seval, o2, rd_of o2, rd1_of o2, k2]
    with_reducible refine CD.to (l07Short_p (h.n + 1) s L.1 hs _ J.o1) ?_
    simp (maxSteps := 1000000) -implicitDefEqProofs only [push_cast, seval, o2, rd_of o2, rd1_of o2, k2]
    have J2 := J.read (st' := shN s L.1)
    have n2 : (h1.set (h.n + 1) (rdP (h.n + 1) s (shN s L.1))).n = h1.n := rfl
    generalize h1.set (h.n + 1) (rdP (h.n + 1) s (shN s L.1)) = h2 at *
    rw [← n2]
    have hf : ((L.2.map encS).flatten).length = L.2.length * 1 := flat_len (k := 1) _ (fun _ => rfl)
    have o22 := J2.o2
    refine Gr.app1 (h0 := ⟨h.n + 3, h2.ob⟩) si50 (by decide) (by decide) (notInt_sl und50) J2.g ⟨J2.n, fun _ _ => rfl⟩ (m := 1) rfl (by rw [hf]; omega) (by decide) (fun h3 gr ow _ n3 f3 => ?_)
    have q := fun i (hi : i < h.n + 3) => f3 i (by have := J2.n; omega) (J2.g.not_low hi)
    have o23 := (q (h.n + 2) (by omega)).trans o22
    have k3 : h.n + 2 < h3.n := by omega
    simp (maxSteps := 1000000) -implicitDefEqProofs only [push_cast, seval, o23, rd_of o23, rd1_of o23, k3]
    refine And.intro (o22.symm.trans (alloc_lt _ (by omega)).symm) ?_
    rw [wrapSucc (by omega)]
    have p3 : Pre h h3 := ⟨by have := J2.n; omega, fun i hi => (q i (by omega)).trans (J2.pre.ob i hi)⟩
    have gr2 : Gr (h.n + 3) h3 (.slice (some ⟨h2.n + 1, 0, none⟩) (((L.2.map encS).flatten).length / 1 + 1) 1) 1 ((itS s R0 (a.1 + 1)).2.map encS).flatten := by
      rw [itS, hL, flat_snoc]; exact gr
    refine ⟨(a.1 + 1, .slice (some ⟨h2.n + 1, 0, none⟩) (((L.2.map encS).flatten).length / 1 + 1) 1), by kernel_rfl, ⟨⟨by show a.1 + 1 ≤ 100; omega, by show a.1 + 1 ≤ N; omega, ?_⟩, ⟨by show h.n + 3 ≤ h3.n; have := J2.n; omega, (set_ne _ (by omega)).trans ((q h.n (by omega)).trans J2.o0), ?_, set_same _ _, gr2.keep (Nat.le_refl _) (fun i hi => set_ne _ (by have := (gr2.range hi).1; omega)), p3.set (by omega) _⟩⟩, by show 100 - (a.1 + 1) < 100 - a.1; omega⟩
    · intro j hj
      by_cases e : j = a.1
      · rw [e, hL]; exact hb3
      · exact hall j (by have hj' : j < a.1 + 1 := hj; omega)
    · refine (set_ne _ (by omega)).trans ((q (h.n + 1) (by omega)).trans ?_)
      show h2.ob (h.n + 1) = rdP (h.n + 1) s (itS s R0 (a.1 + 1)).1
      rw [itS, hL]; exact J2.o1
  all_goals
    with_reducible refine CD.to (l07Var_q (h.n + 1) s L.1 hs _ J.o1) ?_
    simp (maxSteps := 1000000) -implicitDefEqProofs only [push_cast, seval]
    generalize hM : nmV s L.1 = M
    have K0 := (J.read (st' := nuN s L.1)).toK
    have n2 : (h1.set (h.n + 1) (rdP (h.n + 1) s (nuN s L.1))).n = h1.n := rfl
    generalize h1.set (h.n + 1) (rdP (h.n + 1) s (nuN s L.1)) = h2 at *
    generalize hR1 : nuN s L.1 = R1 at *
    refine WC.loopA (by kernel_rfl) [8] [42, 43, 44, 45, 46, 47, 48, 49, 50, 51, 52, 53, 54, 55, 56, 57, 58, 59, 60, 61, 62, 63, 64, 65, 66, 67, 68, 69, 70, 71, 72, 73, 74, 75, 76, 77, 78, 79, 80, 81, 82, 83, 84, 85, 86, 87, 88, 89, 90, 91, 92, 93, 94, 95, 96, 97] (fun c : Nat × Value => [.int .i64 (c.1 : Nat)]) (fun c h' => (c.1 ≤ 300 ∧ c.1 ≤ M) ∧ RcK s h (itI s R1 c.1).1 a.2 c.2 L.2 (itI s R1 c.1).2 h') (fun c => 300 - c.1) (0, .slice none 0 0) (by kernel_rfl) ⟨⟨Nat.zero_le _, Nat.zero_le _⟩, K0⟩ ?_
    clear K0
    intro c g2 h3 hJ
    have ci := hJ.1.1
    have cj := hJ.1.2
    have K := hJ.2
    clear hJ
    have hlen2 := itI_len s R1 c.1
    have hle2 : (itI s R1 c.1).1.1 ≤ s.size := itI_le (by rw [← hR1]; exact nuN_le hle) c.1
    have mx := maxLen_eq
    generalize hC : itI s R1 c.1 = C at *
    have u1 := K.o1
    simp only [rdP] at u1
    have kn := K.n
    have m1 : h.n + 1 < h3.n := by omega
    have m2 : h.n + 2 < h3.n := by omega
    simp (maxSteps := 1000000) -implicitDefEqProofs only [push_cast, seval, u1, rd_of u1, rd1_of u1, m1]
    with_reducible refine bcase_d (fun hc1 => ?_) (fun hc1 => ?_)
    rotate_left
    have hs2 : ¬ (c.1 < M ∧ c.1 < 300 ∧ C.1.2 = false ∧ C.1.1 + 2 ≤ s.size) := fun e => by omega
    have eE : (if C.1.2 = false ∧ c.1 < M ∧ c.1 < 300 then (C.1.1, true) else C.1) = C.1 := if_neg (fun e => by omega)
    simp (maxSteps := 1000000) -implicitDefEqProofs only [push_cast, seval]
    have KE : RcK s h (if C.1.2 = false ∧ c.1 < M ∧ c.1 < 300 then (C.1.1, true) else C.1) a.2 c.2 L.2 C.2 h3 := by rw [eE]; exact K
    clear K eE u1
    generalize hE : (if C.1.2 = false ∧ c.1 < M ∧ c.1 < 300 then (C.1.1, true) else C.1) = E at *
    generalize h3 = h4 at *
    rotate_left
    simp (maxSteps := 1000000) -implicitDefEqProofs only [push_cast, seval]
    with_reducible refine bcase_d (fun hc2 => ?_) (fun hc2 => ?_)
    rotate_left
    have hs2 : ¬ (c.1 < M ∧ c.1 < 300 ∧ C.1.2 = false ∧ C.1.1 + 2 ≤ s.size) := fun e => by omega
    have eE : (if C.1.2 = false ∧ c.1 < M ∧ c.1 < 300 then (C.1.1, true) else C.1) = C.1 := if_neg (fun e => by omega)
    simp (maxSteps := 1000000) -implicitDefEqProofs only [push_cast, seval]
    have KE : RcK s h (if C.1.2 = false ∧ c.1 < M ∧ c.1 < 300 then (C.1.1, true) else C.1) a.2 c.2 L.2 C.2 h3 := by rw [eE]; exact K
    clear K eE u1
    generalize hE : (if C.1.2 = false ∧ c.1 < M ∧ c.1 < 300 then (C.1.1, true) else C.1) = E at *
    generalize h3 = h4 at *
    rotate_left 2
    simp (maxSteps := 1000000) -implicitDefEqProofs only [push_cast, seval, u1, rd_of u1, rd1_of u1, m1]
    cases hc3 : C.1.2
    rotate_left
    have hs2 : ¬ (c.1 < M ∧ c.1 < 300 ∧ C.1.2 = false ∧ C.1.1 + 2 ≤ s.size) := fun e => by rw [hc3] at e; simp at e
    have eE : (if C.1.2 = false ∧ c.1 < M ∧ c.1 < 300 then (C.1.1, true) else C.1) = C.1 := if_neg (fun e => by rw [hc3] at e; simp at e)
    simp (maxSteps := 1000000) -implicitDefEqProofs only [push_cast, seval, u1, rd_of u1, rd1_of u1, m1, hc3]
    have KE : RcK s h (if C.1.2 = false ∧ c.1 < M ∧ c.1 < 300 then (C.1.1, true) else C.1) a.2 c.2 L.2 C.2 h3 := by rw [eE]; exact K
    clear K eE u1
    generalize hE : (if C.1.2 = false ∧ c.1 < M ∧ c.1 < 300 then (C.1.1, true) else C.1) = E at *
    generalize h3 = h4 at *
    rotate_left 3
    simp (maxSteps := 1000000) -implicitDefEqProofs only [push_cast, seval, u1, rd_of u1, rd1_of u1, m1, hc3]
    have w2 : IntKind.i64.wrap ((C.1.1 : Int) + 2) = ((C.1.1 + 2 : Nat) : Int) := by rw [w64 (by omega) (by omega)]; omega
    have w1 : IntKind.i64.wrap ((C.1.1 : Int) + 1) = ((C.1.1 + 1 : Nat) : Int) := wrapSucc (by omega)
    have u2 := K.o2
    simp (maxSteps := 1000000) -implicitDefEqProofs only [push_cast, seval, w2]
    with_reducible refine bcase_d (fun hc4 => ?_) (fun hc4 => ?_)
    have hs2 : ¬ (c.1 < M ∧ c.1 < 300 ∧ C.1.2 = false ∧ C.1.1 + 2 ≤ s.size) := fun e => by omega
    have eE : (if C.1.2 = false ∧ c.1 < M ∧ c.1 < 300 then (C.1.1, true) else C.1) = (C.1.1, true) := if_pos ⟨hc3, by omega, by omega⟩
    simp (maxSteps := 1000000) -implicitDefEqProofs only [push_cast, seval, u1, rd_of u1, rd1_of u1, m1, eqN_ne (show (2 == 3) = false from rfl)]
    have KE : RcK s h (if C.1.2 = false ∧ c.1 < M ∧ c.1 < 300 then (C.1.1, true) else C.1) a.2 c.2 L.2 C.2 (h3.set (h.n + 1) (.cells [.string s, .int .i64 (C.1.1 : Nat), .bool true] .solo (h.n + 1))) := by rw [eE]; exact K.read (st' := (C.1.1, true))
    clear K eE u1 u2 m1 m2 kn
    generalize hE : (if C.1.2 = false ∧ c.1 < M ∧ c.1 < 300 then (C.1.1, true) else C.1) = E at *
    generalize (h3.set (h.n + 1) (.cells [.string s, .int .i64 (C.1.1 : Nat), .bool true] .solo (h.n + 1))) = h4 at *
    rotate_left
    · have g1 : (onN s C.1).2 = false ∧ (onN s C.1).1 = C.1.1 + 1 := by
        unfold onN; rw [if_pos ⟨hc3, by omega⟩]; simp [hc3]; omega
      have g2' : onN s (onN s C.1) = (C.1.1 + 2, false) := by
        have e : (onN s C.1).2 = false ∧ (onN s C.1).1 < s.size := ⟨g1.1, by omega⟩
        rw [show onN s (onN s C.1) = (if (onN s C.1).2 = false ∧ (onN s C.1).1 < s.size then (onN s C.1).1 + 1 else (onN s C.1).1, !decide ((onN s C.1).2 = false ∧ (onN s C.1).1 < s.size)) from rfl, if_pos e, decide_eq_true e, g1.2]
        rfl
      have v1 : IntKind.i64.wrap ((byteAt s C.1.1).toNat : Int) = onV s C.1 := by
        rw [onV, if_pos ⟨hc3, by omega⟩, bN, wrapNat (by have := (byteAt s C.1.1).toNat_lt; omega)]
      have v2 : IntKind.i64.wrap ((byteAt s ((C.1.1 : Int) + 1).toNat).toNat : Int) = onV s (onN s C.1) := by
        rw [onV, if_pos ⟨g1.1, by omega⟩, bN, g1.2, show ((C.1.1 : Int) + 1).toNat = C.1.1 + 1 by omega, wrapNat (by have := (byteAt s (C.1.1 + 1)).toNat_lt; omega)]
      have hf : ((C.2.map encN).flatten).length = C.2.length * 2 := flat_len (k := 2) _ (fun _ => rfl)
      simp (maxSteps := 1000000) -implicitDefEqProofs only [push_cast, seval]
      refine WC.draw' (by kernel_rfl) (by kernel_rfl) (.q 0 (.q 1 (.q 2 (.q 3 (.q 4 (.q 5 (.q 6 (.q 7 (.q 8 (.q 9 (.q 10 (.q 11 (.q 12 (.q 13 (.q 14 (.q 15 (.q 16 (.q 17 (.a 18 false (.a 19 false (.q 20 (.a 21 true (.done))))))))))))))))))))))) (by kernel_rfl) ?_
      simp (maxSteps := 1000000) -implicitDefEqProofs only [push_cast, seval, u1, rd_of u1, rd1_of u1, u2, rd_of u2, rd1_of u2, m1, m2, w1, v1, v2]
      refine And.intro (by omega) (And.intro (by omega) (And.intro (by omega) (And.intro (by omega) ?_)))
      refine Gr.app1 (h0 := ⟨h.n + 3, h3.ob⟩) si51 (by decide) (by decide) (notInt_sl und51) K.gb ⟨kn, fun _ _ => rfl⟩ (m := 1) rfl (by rw [hf]; omega) (by decide) (fun h9 gr ow _ n9 f9 => ?_)
      have q := fun i (hi : i < h.n + 3) => f9 i (by omega) (K.gb.not_low hi)
      have o29 := (q (h.n + 2) (by omega)).trans u2
      have o19 := (q (h.n + 1) (by omega)).trans u1
      have k9 : h.n + 2 < h9.n := by omega
      have k91 : h.n + 1 < h9.n := by omega
      simp (maxSteps := 1000000) -implicitDefEqProofs only [push_cast, seval, o29, rd_of o29, rd1_of o29, o19, rd_of o19, rd1_of o19, k9, k91, w2]
      refine And.intro (u1.symm.trans (alloc_lt _ (by omega)).symm) (And.intro (u1.symm.trans (alloc_lt _ (by omega)).symm) (And.intro (u2.symm.trans (alloc_lt _ (by omega)).symm) ?_))
      rw [wrapSucc (by omega)]
      have p9 : Pre h h9 := ⟨by omega, fun i hi => (q i (by omega)).trans (K.pre.ob i hi)⟩
      have gr2 : Gr (h.n + 3) h9 (.slice (some ⟨h3.n + 1, 0, none⟩) (((C.2.map encN).flatten).length / 2 + 1) 2) 2 (((itI s R1 (c.1 + 1)).2).map encN).flatten := by
        rw [itI, hC, flat_snoc]; exact gr
      have ga2 : Gr (h.n + 3) h9 a.2 1 (L.2.map encS).flatten := K.g.keep (by omega) (fun i e => f9 i (K.g.range e).2 (K.ne i e))
      have K9 : RcK s h (C.1.1, false) a.2 (.slice (some ⟨h3.n + 1, 0, none⟩) (((C.2.map encN).flatten).length / 2 + 1) 2) L.2 (itI s R1 (c.1 + 1)).2 (h9.set (h.n + 2) (.cells [a.2, .slice (some ⟨h3.n + 1, 0, none⟩) (((C.2.map encN).flatten).length / 2 + 1) 2, .int .i64 0, .int .i64 0, .int .i64 0] .solo (h.n + 2))) := by
        refine ⟨by show h.n + 3 ≤ h9.n; omega, (set_ne _ (by omega)).trans ((q h.n (by omega)).trans K.o0), ?_, set_same _ _, ga2.keep (Nat.le_refl _) (fun i hi => set_ne _ (by have := (ga2.range hi).1; omega)), gr2.keep (Nat.le_refl _) (fun i hi => set_ne _ (by have := (gr2.range hi).1; omega)), ?_, p9.set (by omega) _⟩
        · refine (set_ne _ (by omega)).trans (o19.trans ?_)
          rw [hc3]; rfl
        · intro i e e2
          have e3 : h3.n + 1 = i := e2
          have := (K.g.range e).2
          omega
      refine ⟨(c.1 + 1, .slice (some ⟨h3.n + 1, 0, none⟩) (((C.2.map encN).flatten).length / 2 + 1) 2), by kernel_rfl, ⟨⟨by show c.1 + 1 ≤ 300; omega, by show c.1 + 1 ≤ M; omega⟩, ?_⟩, by show 300 - (c.1 + 1) < 300 - c.1; omega⟩
      have K10 := K9.read (st' := (itI s R1 (c.1 + 1)).1)
      rw [itI, hC] at K10 ⊢
      dsimp only at K10 ⊢
      rw [g2'] at K10 ⊢
      have e2 : ((C.1.1 + 2 : Nat) : Int) = (C.1.1 : Int) + 1 + 1 := by omega
      simp only [rdP, e2] at K10
      rw [hc3]
      exact K10
    all_goals
      have E0 := KE.toE
      clear KE
      have mx := maxLen_eq
      with_reducible refine CD.to (l07Var_q (h.n + 1) s E hs _ E0.o1) ?_
      have E1 := E0.read (st' := nuN s E)
      clear E0
      generalize h4.set (h.n + 1) (rdP (h.n + 1) s (nuN s E)) = h5 at *
      have q2 := E1.o2
      have l2 : h.n + 2 < h5.n := by have := E1.n; omega
      simp (maxSteps := 1000000) -implicitDefEqProofs only [push_cast, seval, q2, rd_of q2, rd1_of q2, l2]
      have E2 := E1.put (nmV s E : Nat) 0
      clear E1 q2 l2
      generalize h5.set (h.n + 2) (.cells [a.2, c.2, .int .i64 0, .int .i64 (nmV s E : Nat), .int .i64 0] .solo (h.n + 2)) = h6 at *
      with_reducible refine CD.to (l07Var_q (h.n + 1) s _ hs _ E2.o1) ?_
      have E3 := E2.read (st' := nuN s (nuN s E))
      clear E2
      generalize h6.set (h.n + 1) (rdP (h.n + 1) s (nuN s (nuN s E))) = h7 at *
      have q3 := E3.o2
      have l3 : h.n + 2 < h7.n := by have := E3.n; omega
      simp (maxSteps := 1000000) -implicitDefEqProofs only [push_cast, seval, q3, rd_of q3, rd1_of q3, l3]
      have E4 := E3.put (nmV s E : Nat) (nmV s (nuN s E) : Nat)
      clear E3 q3 l3
      generalize h7.set (h.n + 2) (.cells [a.2, c.2, .int .i64 0, .int .i64 (nmV s E : Nat), .int .i64 (nmV s (nuN s E) : Nat)] .solo (h.n + 2)) = h8 at *
      have q4 := E4.o2
      have q1 := E4.o1
      have q0 := E4.o0
      simp only [rdP] at q1
      have l4 : h.n + 2 < h8.n := by have := E4.n; omega
      have l1 : h.n + 1 < h8.n := by omega
      have l0 : h.n < h8.n := by omega
      have y1 := E4.rdc.texts.one
      have y2 := E4.rdc.list.one
      have hO := CodeText_s ⟨L.2, C.2, 0, (nmV s E : Nat), (nmV s (nuN s E) : Nat)⟩ a.2 c.2 h8 E4.rdc (by show L.2.length ≤ 1048576; omega) (by show C.2.length ≤ 1048576; omega) (fun x hx => by have := itS_size s R0 a.1 x (by rw [hL]; exact hx); omega)
      have eE : dE s a.1 c.1 = E := by simp only [dE, dI, dS, hR0, hL, hR1, hC, hM, hE]
      have eC : dCode s a.1 c.1 = ⟨L.2, C.2, 0, (nmV s E : Nat), (nmV s (nuN s E) : Nat)⟩ := by simp only [dCode, eE, dI, dS, hR0, hL, hR1, hC]
      have eEn : dEnd s a.1 c.1 = nuN s (nuN s E) := by simp only [dEnd, eE]
      have hst : StopsC s a.1 c.1 := ⟨hi, by rw [hN]; exact hj, by rw [hR0]; exact hall, by rw [hN, hR0, hL]; exact hs', ci, by simp only [dS, hR0, hL, hM]; exact cj, by simp only [dS, dI, hR0, hL, hM, hR1, hC]; exact hs2⟩
      have eO : dOk s a.1 c.1 = (!(nuN s (nuN s E)).2 && (codeOk (dCode s a.1 c.1) && decide (codeT (dCode s a.1 c.1) = s))) := by rw [dOk, eEn]
      have oC : OwnC h h8 a.2 c.2 ⟨L.2, C.2, 0, (nmV s E : Nat), (nmV s (nuN s E) : Nat)⟩ := E4.own
      have p8 := E4.pre
      have nL : (dCode s a.1 c.1).line = (nmV s E : Nat) := by rw [eC]
      have nF : (dCode s a.1 c.1).fin = (nmV s (nuN s E) : Nat) := by rw [eC]
      rw [← eC] at oC
      have hO' : CD Try.prog 65 [.agg #[a.2, c.2, .int .i64 0, .int .i64 (nmV s E : Nat), .int .i64 (nmV s (nuN s E) : Nat)]] h8 (codeV (dCode s a.1 c.1)) h8 := by rw [eC]; exact hO
      clear hO E4 eE eEn eC
      generalize hK : dCode s a.1 c.1 = K at *
      simp only [codeV] at hO'
      generalize hB : (nuN s (nuN s E)).2 = B at *
      with_reducible refine CD.to hO' ?_
      cases B
      · cases hG : codeOk K
        · simp (maxSteps := 1000000) -implicitDefEqProofs only [push_cast, seval, q4, rd_of q4, rd1_of q4, q1, rd_of q1, rd1_of q1, q0, rd_of q0, rd1_of q0, l4, l0, l1, y1, y2, hG]
          all_goals
            have eF : dOk s a.1 c.1 = false := by rw [eO, hG]; rfl
            refine ⟨.slice none 0 0, .slice none 0 0, a.1, c.1, hst, ?_⟩
            rw [hK, eF]
            exact ⟨rfl, ⟨Gr.nil _ _ _ _, Gr.nil _ _ _ _, fun i e => e.elim⟩, p8.set (Nat.le_refl _) _⟩
        · simp (maxSteps := 1000000) -implicitDefEqProofs only [push_cast, seval, q4, rd_of q4, rd1_of q4, q1, rd_of q1, rd1_of q1, q0, rd_of q0, rd1_of q0, l4, l0, l1, y1, y2, hG]
          with_reducible refine bcase_d (fun hT => ?_) (fun hT => ?_)
          · simp (maxSteps := 1000000) -implicitDefEqProofs only [push_cast, seval, q4, rd_of q4, rd1_of q4, q1, rd_of q1, rd1_of q1, q0, rd_of q0, rd1_of q0, l4, l0, l1, y1, y2, hG]
            have eF : dOk s a.1 c.1 = true := by rw [eO, decide_eq_true hT, hG]; rfl
            refine ⟨a.2, c.2, a.1, c.1, hst, ?_⟩
            rw [hK, eF, if_pos rfl, nL, nF]
            exact ⟨rfl, ⟨oC.a.keep (Nat.le_refl _) (fun i hi => set_ne _ (by have := (oC.a.range hi).1; omega)), oC.b.keep (Nat.le_refl _) (fun i hi => set_ne _ (by have := (oC.b.range hi).1; omega)), oC.ne⟩, p8.set (Nat.le_refl _) _⟩
          · simp (maxSteps := 1000000) -implicitDefEqProofs only [push_cast, seval, q4, rd_of q4, rd1_of q4, q1, rd_of q1, rd1_of q1, q0, rd_of q0, rd1_of q0, l4, l0, l1, y1, y2, hG]
            have eF : dOk s a.1 c.1 = false := by rw [eO, decide_eq_false hT, hG]; rfl
            refine ⟨.slice none 0 0, .slice none 0 0, a.1, c.1, hst, ?_⟩
            rw [hK, eF]
            exact ⟨rfl, ⟨Gr.nil _ _ _ _, Gr.nil _ _ _ _, fun i e => e.elim⟩, p8.set (Nat.le_refl _) _⟩
      · simp (maxSteps := 1000000) -implicitDefEqProofs only [push_cast, seval, q4, rd_of q4, rd1_of q4, q1, rd_of q1, rd1_of q1, q0, rd_of q0, rd1_of q0, l4, l0, l1, y1, y2]
        all_goals
          have eF : dOk s a.1 c.1 = false := by rw [eO]; rfl
          refine ⟨.slice none 0 0, .slice none 0 0, a.1, c.1, hst, ?_⟩
          rw [hK, eF]
          exact ⟨rfl, ⟨Gr.nil _ _ _ _, Gr.nil _ _ _ _, fun i e => e.elim⟩, p8.set (Nat.le_refl _) _⟩
end Go.Proofs.Ytciajhpeikemoaa
namespace Go.Proofs.Ytciajhpeikemoaa
open Go Go.Sim Go.Proofs
set_option linter.unusedSimpArgs false
set_option linter.unusedVariables false
set_option maxRecDepth 100000
set_option maxHeartbeats 1000000
theorem markText_c (k : Nat) (h0 : 0 < k) (hk : k < 4000000000000) (h : AH) : CD Try.prog 127 [.int .i64 (k : Nat)] h (.string (mt k)) h := by
  refine CD.quiet ?_ (low_string _ _)
  refine CC.ofN Try.func127 Try.ntmps127 Try.results127 rfl (by decide) (by kernel_rfl) ?_
  simp (maxSteps := 1000000) -implicitDefEqProofs only [push_cast, seval]
  with_reducible refine bcase_d (fun hb => ?_) (fun hb => ?_)
  · exfalso; omega
  simp (maxSteps := 1000000) -implicitDefEqProofs only [push_cast, seval]
  refine WC.loopA (by kernel_rfl) [0, 3] [6, 7, 8, 9, 10, 11, 12, 13, 14, 15, 16, 17] (fun a : Nat × ByteArray => [.int .i64 (a.1 : Nat), .string a.2]) (fun a h' => (dg a.1 a.1 a.2 = dg k k ⟨#[]⟩ ∧ a.2.size + a.1 ≤ k) ∧ Pre h h') (fun a => a.1) (k, ⟨#[]⟩) (by kernel_rfl) ⟨⟨rfl, by show 0 + k ≤ k; omega⟩, Pre.refl _⟩ ?_
  intro a g h1 hJ
  have hd := hJ.1.1
  have hl := hJ.1.2
  have hp := hJ.2
  clear hJ
  simp (maxSteps := 1000000) -implicitDefEqProofs only [push_cast, seval]
  with_reducible refine bcase_d (fun hb => ?_) (fun hb => ?_)
  · have e1 : (IntKind.u8.wrap (IntKind.i64.wrap (48 + (a.1 : Int).tmod 10))).toNat = 48 + a.1 % 10 := by
      rw [Int.tmod_eq_emod_of_nonneg (by omega), w64 (by omega) (by omega), w8 (by omega) (by omega)]; omega
    have e2 : IntKind.i64.wrap ((a.1 : Int).tdiv 10) = ((a.1 / 10 : Nat) : Int) := by
      rw [Int.tdiv_eq_ediv_of_nonneg (by omega), w64 (by omega) (by omega)]; omega
    simp (maxSteps := 1000000) -implicitDefEqProofs only [push_cast, seval, e1, e2]
    have z1 : (ByteArray.mk #[UInt8.ofNat (48 + a.1 % 10)]).size = 1 := rfl
    refine And.intro (by rw [z1]; omega) ⟨(a.1 / 10, ⟨#[UInt8.ofNat (48 + a.1 % 10)]⟩ ++ a.2), by kernel_rfl, ⟨⟨?_, ?_⟩, hp.alloc _⟩, ?_⟩
    · rw [← hd, dg_step (k := a.1) (by omega)]
    · show (ByteArray.mk #[UInt8.ofNat (48 + a.1 % 10)] ++ a.2).size + a.1 / 10 ≤ k
      rw [ByteArray.size_append, z1]; omega
    · show a.1 / 10 < a.1
      omega
  · have e : a.1 = 0 := by omega
    have z1 : (ByteArray.mk #[109]).size = 1 := rfl
    rw [e, dg_zero] at hd
    rw [hd] at hl
    simp (maxSteps := 1000000) -implicitDefEqProofs only [push_cast, seval]
    refine And.intro (by rw [z1, hd]; omega) ?_
    repeat' (first | with_reducible (first | exact Keep.refl _ _ | assumption | exact byte_lt _ _ | apply Keep.alloc | (refine Keep.set ?_ ?_; rotate_left; · omega) | apply Pre.alloc | apply Pre.set | exact Pre.refl _ | exact le_alloc _ | (refine Pre.keep ?_; assumption) | (refine Pre.n ?_; assumption)) | ((with_reducible (first | refine bcase_d (fun hb => ?_) (fun hb => ?_) | refine bcase_mk (fun hb => ?_) (fun hb => ?_))) <;> try simp (maxSteps := 1000000) -implicitDefEqProofs only [push_cast, seval]) | with_reducible refine And.intro ?_ ?_ | omega | (simp only [alloc_n, set_n, kill_n]; omega) | (exfalso; omega))
    rw [hd]; rfl
/-- A slice whose cells are marked. -/
def fS (k : Nat) : Value := .string (mt k)
def fI (k : Nat) : Value := .int .i64 (k : Nat)
theorem markStringS_o (id off n : Nat) (cs : List Value) (k : Nat) (h : AH) (o : Own h id off n 1 cs) (h0 : 0 < k) (hk : k + n * 1 < 4000000000000) (hn : n < 274877906944) :
    CC Try.prog 74 [.slice (some ⟨id, off, none⟩) n 1, .int .i64 (k : Nat)] h (fun v h' => v = .int .i64 ((k + n * 1 : Nat) : Int) ∧ Own h' id off n 1 (marks fS k (n * 1)) ∧ Wr h h' id) := by
  refine CC.ofN Try.func74 Try.ntmps74 Try.results74 rfl (by decide) (by kernel_rfl) ?_
  simp (maxSteps := 1000000) -implicitDefEqProofs only [push_cast, seval]
  refine WC.loopA (by kernel_rfl) [1, 5] [6, 7, 8, 9, 10, 11, 12, 13, 14, 15, 16, 17, 18] (fun a : Nat × Nat × List Value => [.int .i64 (a.2.1 : Nat), .int .i64 (a.1 : Nat)]) (fun a h' => (a.1 ≤ n ∧ a.2.1 = k + a.1 * 1 ∧ Mkd fS k a.2.2 (a.1 * 1)) ∧ Own h' id off n 1 a.2.2 ∧ Wr h h' id) (fun a => n - a.1) (0, k, cs) (by kernel_rfl) ⟨⟨Nat.zero_le _, rfl, Mkd.zero _ _ _⟩, o, Wr.refl _ _⟩ ?_
  intro a g h1 hJ
  have hi := hJ.1.1
  have hK := hJ.1.2.1
  have hm := hJ.1.2.2
  have o0 := hJ.2.1
  have r0 := hJ.2.2
  clear hJ
  have l0 := o0.lt
  have n0 := o0.len
  simp (maxSteps := 1000000) -implicitDefEqProofs only [push_cast, seval]
  with_reducible refine bcase_d (fun hb => ?_) (fun hb => ?_)
  · have hi' : a.1 < n := by omega
    with_reducible refine nameN (a.2.1 + 1) (fun K1 hK1 => ?_)
    have w1 : IntKind.i64.wrap ((a.2.1 : Int) + 1) = (K1 : Nat) := by rw [wrapSucc (by omega), hK1]
    simp (maxSteps := 1000000) -implicitDefEqProofs only [push_cast, seval]
    with_reducible refine CD.to (markText_c a.2.1 (by omega) (by omega) _) ?_
    simp (maxSteps := 1000000) -implicitDefEqProofs only [push_cast, seval, l0, w1]
    refine And.intro (by omega) (And.intro (by omega) ?_)
    refine (show Own _ id off n 1 _ from o0).wr (lo := a.1 * 1) (vs := [.string (mt a.2.1)]) (by simp only [List.length_cons, List.length_nil]; omega) (fun h2 o1 q1 => ?_)
    have l1 := o1.lt
    simp (maxSteps := 1000000) -implicitDefEqProofs only [push_cast, seval, l1, w1]
    rw [wrapSucc (by omega)]
    refine ⟨(a.1 + 1, K1, putL (a.2.2) (a.1 * 1) [.string (mt a.2.1)]), by kernel_rfl, ⟨⟨by show a.1 + 1 ≤ n; omega, by show K1 = k + (a.1 + 1) * 1; omega, ?_⟩, o1, r0.trans (q1)⟩, by show n - (a.1 + 1) < n - a.1; omega⟩
    rw [show (a.1 + 1) * 1 = a.1 * 1 + 1 from by omega]
    exact (hm).put (by (try simp only [putL_length]); omega) (by show _ = fS _; rw [show k + (a.1 * 1) = a.2.1 by omega]; rfl)
  · have e : a.1 = n := by omega
    simp (maxSteps := 1000000) -implicitDefEqProofs only [push_cast, seval]
    rw [e] at hm
    have hq := hm.all n0
    rw [hq] at o0
    refine ⟨?_, o0, r0⟩
    rw [hK, e]
    push_cast
    rfl

theorem heldStringS_o (id off n c : Nat) (k : Nat) (h : AH) (o : Own h id off n 1 (marks fS k (n * 1))) (h0 : 0 < k) (hk : k + n * 1 < 4000000000000) (hn : n < 274877906944) :
    CD Try.prog 76 [.slice (some ⟨id, off, none⟩) n c, .int .i64 (k : Nat)] h (.int .i64 ((k + n * 1 : Nat) : Int)) h := by
  refine CD.quiet ?_ (low_int _ _ _)
  refine CC.ofN Try.func76 Try.ntmps76 Try.results76 rfl (by decide) (by kernel_rfl) ?_
  simp (maxSteps := 1000000) -implicitDefEqProofs only [push_cast, seval]
  refine WC.loopA (by kernel_rfl) [1, 5] [4, 6, 7, 8, 9, 10, 11, 12, 13, 14, 15, 16, 17, 18, 19, 20] (fun a : Nat × Nat => [.int .i64 (a.2 : Nat), .int .i64 (a.1 : Nat)]) (fun a h' => (a.1 ≤ n ∧ a.2 = k + a.1 * 1) ∧ Pre h h') (fun a => n - a.1) (0, k) (by kernel_rfl) ⟨⟨Nat.zero_le _, rfl⟩, Pre.refl _⟩ ?_
  intro a g h1 hJ
  have hi := hJ.1.1
  have hK := hJ.1.2
  have hp := hJ.2
  clear hJ
  have o1 := o.pre hp
  have l1 := o1.lt
  simp (maxSteps := 1000000) -implicitDefEqProofs only [push_cast, seval]
  with_reducible refine bcase_d (fun hb => ?_) (fun hb => ?_)
  · have hi' : a.1 < n := by omega
    with_reducible refine nameN (a.2 + 1) (fun K1 hK1 => ?_)
    have w1 : IntKind.i64.wrap ((a.2 : Int) + 1) = (K1 : Nat) := by rw [wrapSucc (by omega), hK1]
    have g0 : rd1 h1 id (off + a.1 * 1) = some (.string (mt a.2)) := by
      have := o1.rd1 (j := a.1 * 1) (by omega)
      rw [show off + a.1 * 1 = off + (a.1 * 1) by omega, this, List.getD_eq_getElem?_getD, marks_get fS k (n * 1) (by omega)]
      rw [show k + (a.1 * 1) = a.2 by omega]; rfl
    simp (maxSteps := 1000000) -implicitDefEqProofs only [push_cast, seval, l1, w1, g0]
    refine WC.draw' (by kernel_rfl) (by kernel_rfl) (.q 0 (.q 1 (.q 2 (.q 3 (.q 4 (.c 5 (.q 6 (.done)))))))) (by kernel_rfl) ?_
    simp (maxSteps := 1000000) -implicitDefEqProofs only [push_cast, seval, l1, w1, g0]
    refine And.intro (by omega) (And.intro (by omega) ?_)
    simp (maxSteps := 1000000) -implicitDefEqProofs only [push_cast, seval, l1, w1, g0]
    refine CQ.pure (fun h' => markText_c a.2 (by omega) (by omega) h') ?_
    simp (maxSteps := 1000000) -implicitDefEqProofs only [push_cast, seval, l1, w1, g0]
    rw [wrapSucc (by omega)]
    exact ⟨(a.1 + 1, K1), by kernel_rfl, ⟨⟨by show a.1 + 1 ≤ n; omega, by show K1 = k + (a.1 + 1) * 1; omega⟩, hp⟩, by show n - (a.1 + 1) < n - a.1; omega⟩
  · have e : a.1 = n := by omega
    simp (maxSteps := 1000000) -implicitDefEqProofs only [push_cast, seval]
    refine ⟨by rw [hK, e]; push_cast; rfl, hp.keep⟩
theorem markStringS_n (c k : Nat) (hk : k < 4000000000000) (h : AH) : CD Try.prog 74 [.slice none 0 c, .int .i64 (k : Nat)] h (.int .i64 (k : Nat)) h := by
  refine CD.quiet ?_ (low_int _ _ _)
  refine CC.ofN Try.func74 Try.ntmps74 Try.results74 rfl (by decide) (by kernel_rfl) ?_
  simp (maxSteps := 1000000) -implicitDefEqProofs only [push_cast, seval]
  refine WC.loopA (by kernel_rfl) [1, 5] [6, 7, 8, 9, 10, 11, 12, 13, 14, 15, 16, 17, 18] (fun a : Nat => [.int .i64 (k : Nat), .int .i64 (a : Nat)]) (fun a h' => a = 0 ∧ Pre h h') (fun a => 1 - a) 0 (by kernel_rfl) ⟨rfl, Pre.refl _⟩ ?_
  intro a g h1 hJ
  have e := hJ.1
  have hp := hJ.2
  clear hJ
  subst e
  simp (maxSteps := 1000000) -implicitDefEqProofs only [push_cast, seval]
  repeat' (first | with_reducible (first | exact Keep.refl _ _ | assumption | exact byte_lt _ _ | apply Keep.alloc | (refine Keep.set ?_ ?_; rotate_left; · omega) | apply Pre.alloc | apply Pre.set | exact Pre.refl _ | exact le_alloc _ | (refine Pre.keep ?_; assumption) | (refine Pre.n ?_; assumption)) | ((with_reducible (first | refine bcase_d (fun hb => ?_) (fun hb => ?_) | refine bcase_mk (fun hb => ?_) (fun hb => ?_))) <;> try simp (maxSteps := 1000000) -implicitDefEqProofs only [push_cast, seval]) | with_reducible refine And.intro ?_ ?_ | omega | (simp only [alloc_n, set_n, kill_n]; omega) | (exfalso; omega))
theorem heldStringS_n (c k : Nat) (hk : k < 4000000000000) (h : AH) : CD Try.prog 76 [.slice none 0 c, .int .i64 (k : Nat)] h (.int .i64 (k : Nat)) h := by
  refine CD.quiet ?_ (low_int _ _ _)
  refine CC.ofN Try.func76 Try.ntmps76 Try.results76 rfl (by decide) (by kernel_rfl) ?_
  simp (maxSteps := 1000000) -implicitDefEqProofs only [push_cast, seval]
  refine WC.loopA (by kernel_rfl) [1, 5] [4, 6, 7, 8, 9, 10, 11, 12, 13, 14, 15, 16, 17, 18, 19, 20] (fun a : Nat => [.int .i64 (k : Nat), .int .i64 (a : Nat)]) (fun a h' => a = 0 ∧ Pre h h') (fun a => 1 - a) 0 (by kernel_rfl) ⟨rfl, Pre.refl _⟩ ?_
  intro a g h1 hJ
  have e := hJ.1
  have hp := hJ.2
  clear hJ
  subst e
  simp (maxSteps := 1000000) -implicitDefEqProofs only [push_cast, seval]
  repeat' (first | with_reducible (first | exact Keep.refl _ _ | assumption | exact byte_lt _ _ | apply Keep.alloc | (refine Keep.set ?_ ?_; rotate_left; · omega) | apply Pre.alloc | apply Pre.set | exact Pre.refl _ | exact le_alloc _ | (refine Pre.keep ?_; assumption) | (refine Pre.n ?_; assumption)) | ((with_reducible (first | refine bcase_d (fun hb => ?_) (fun hb => ?_) | refine bcase_mk (fun hb => ?_) (fun hb => ?_))) <;> try simp (maxSteps := 1000000) -implicitDefEqProofs only [push_cast, seval]) | with_reducible refine And.intro ?_ ?_ | omega | (simp only [alloc_n, set_n, kill_n]; omega) | (exfalso; omega))
theorem markStringS_c (n0 : Nat) (A : Option Addr) (n : Nat) (cs : List Value) (k : Nat) (h : AH) (o : Gr n0 h (.slice A n 1) 1 cs) (hc : cs.length = n * 1) (h0 : 0 < k) (hk : k + n * 1 < 4000000000000) (hn : n < 274877906944) :
    CC Try.prog 74 [.slice A n 1, .int .i64 (k : Nat)] h (fun v h' => v = .int .i64 ((k + n * 1 : Nat) : Int) ∧ Gr n0 h' (.slice A n 1) 1 (marks fS k (n * 1)) ∧ WrV h h' (.slice A n 1)) := by
  refine CC.withFit (fun ft => ?_)
  rcases o with ⟨c, e, e2⟩ | ⟨id, off, m, e, hb, ow⟩
  · injection e with e3 e4 e5
    subst e3 e4 e5 e2
    exact (markStringS_n 1 k (by omega) h).to ⟨rfl, .inl ⟨1, rfl, rfl⟩, WrV.refl _ _⟩
  · injection e with e3 e4
    subst e3 e4
    exact (markStringS_o id off n cs k h ow h0 hk hn).mono (fun v h' ⟨a, b, c⟩ => ⟨a, .inr ⟨id, off, n, rfl, hb, b⟩, c.toV ft ow⟩)
theorem heldStringS_c (n0 : Nat) (A : Option Addr) (n : Nat) (k : Nat) (h : AH) (o : Gr n0 h (.slice A n 1) 1 (marks fS k (n * 1))) (h0 : 0 < k) (hk : k + n * 1 < 4000000000000) (hn : n < 274877906944) :
    CD Try.prog 76 [.slice A n 1, .int .i64 (k : Nat)] h (.int .i64 ((k + n * 1 : Nat) : Int)) h := by
  rcases o with ⟨c, e, e2⟩ | ⟨id, off, m, e, hb, ow⟩
  · injection e with e3 e4 e5
    subst e3 e4 e5
    exact heldStringS_n 1 k (by omega) h
  · injection e with e3 e4
    subst e3 e4
    exact heldStringS_o id off n 1 k h ow h0 hk hn

theorem markInstrS_o (id off n : Nat) (cs : List Value) (k : Nat) (h : AH) (o : Own h id off n 2 cs) (h0 : 0 < k) (hk : k + n * 2 < 4000000000000) (hn : n < 274877906944) :
    CC Try.prog 75 [.slice (some ⟨id, off, none⟩) n 2, .int .i64 (k : Nat)] h (fun v h' => v = .int .i64 ((k + n * 2 : Nat) : Int) ∧ Own h' id off n 2 (marks fI k (n * 2)) ∧ Wr h h' id) := by
  refine CC.ofN Try.func75 Try.ntmps75 Try.results75 rfl (by decide) (by kernel_rfl) ?_
  simp (maxSteps := 1000000) -implicitDefEqProofs only [push_cast, seval]
  refine WC.loopA (by kernel_rfl) [1, 5] [6, 7, 8, 9, 10, 11, 12, 13, 14, 15, 16, 17, 18, 19, 20, 21, 22, 23, 24, 25] (fun a : Nat × Nat × List Value => [.int .i64 (a.2.1 : Nat), .int .i64 (a.1 : Nat)]) (fun a h' => (a.1 ≤ n ∧ a.2.1 = k + a.1 * 2 ∧ Mkd fI k a.2.2 (a.1 * 2)) ∧ Own h' id off n 2 a.2.2 ∧ Wr h h' id) (fun a => n - a.1) (0, k, cs) (by kernel_rfl) ⟨⟨Nat.zero_le _, rfl, Mkd.zero _ _ _⟩, o, Wr.refl _ _⟩ ?_
  intro a g h1 hJ
  have hi := hJ.1.1
  have hK := hJ.1.2.1
  have hm := hJ.1.2.2
  have o0 := hJ.2.1
  have r0 := hJ.2.2
  clear hJ
  have l0 := o0.lt
  have n0 := o0.len
  simp (maxSteps := 1000000) -implicitDefEqProofs only [push_cast, seval]
  with_reducible refine bcase_d (fun hb => ?_) (fun hb => ?_)
  · have hi' : a.1 < n := by omega
    with_reducible refine nameN (a.2.1 + 1) (fun K1 hK1 => ?_)
    have w1 : IntKind.i64.wrap ((a.2.1 : Int) + 1) = (K1 : Nat) := by rw [wrapSucc (by omega), hK1]
    with_reducible refine nameN (K1 + 1) (fun K2 hK2 => ?_)
    have w2 : IntKind.i64.wrap ((K1 : Int) + 1) = (K2 : Nat) := by rw [wrapSucc (by omega), hK2]
    simp (maxSteps := 1000000) -implicitDefEqProofs only [push_cast, seval]
    refine And.intro (by omega) (And.intro (by omega) ?_)
    refine (show Own _ id off n 2 _ from o0).wr (lo := a.1 * 2) (vs := [.int .i64 (a.2.1 : Nat)]) (by simp only [List.length_cons, List.length_nil]; omega) (fun h2 o1 q1 => ?_)
    have l1 := o1.lt
    simp (maxSteps := 1000000) -implicitDefEqProofs only [push_cast, seval, l1, w1, w2]
    refine And.intro (by omega) (And.intro (by omega) ?_)
    refine (show Own _ id off n 2 _ from o1).wr (lo := a.1 * 2 + 1) (vs := [.int .i64 (K1 : Nat)]) (by simp only [List.length_cons, List.length_nil]; omega) (fun h3 o2 q2 => ?_)
    have l2 := o2.lt
    simp (maxSteps := 1000000) -implicitDefEqProofs only [push_cast, seval, l2, w1, w2]
    rw [wrapSucc (by omega)]
    refine ⟨(a.1 + 1, K2, putL (putL (a.2.2) (a.1 * 2) [.int .i64 (a.2.1 : Nat)]) (a.1 * 2 + 1) [.int .i64 (K1 : Nat)]), by kernel_rfl, ⟨⟨by show a.1 + 1 ≤ n; omega, by show K2 = k + (a.1 + 1) * 2; omega, ?_⟩, o2, r0.trans ((q1).trans q2)⟩, by show n - (a.1 + 1) < n - a.1; omega⟩
    rw [show (a.1 + 1) * 2 = a.1 * 2 + 1 + 1 from by omega]
    exact ((hm).put (by (try simp only [putL_length]); omega) (by show _ = fI _; rw [show k + (a.1 * 2) = a.2.1 by omega]; rfl)).put (by (try simp only [putL_length]); omega) (by show _ = fI _; rw [show k + (a.1 * 2 + 1) = K1 by omega]; rfl)
  · have e : a.1 = n := by omega
    simp (maxSteps := 1000000) -implicitDefEqProofs only [push_cast, seval]
    rw [e] at hm
    have hq := hm.all n0
    rw [hq] at o0
    refine ⟨?_, o0, r0⟩
    rw [hK, e]
    push_cast
    rfl

theorem heldInstrS_o (id off n c : Nat) (k : Nat) (h : AH) (o : Own h id off n 2 (marks fI k (n * 2))) (h0 : 0 < k) (hk : k + n * 2 < 4000000000000) (hn : n < 274877906944) :
    CD Try.prog 77 [.slice (some ⟨id, off, none⟩) n c, .int .i64 (k : Nat)] h (.int .i64 ((k + n * 2 : Nat) : Int)) h := by
  refine CD.quiet ?_ (low_int _ _ _)
  refine CC.ofN Try.func77 Try.ntmps77 Try.results77 rfl (by decide) (by kernel_rfl) ?_
  simp (maxSteps := 1000000) -implicitDefEqProofs only [push_cast, seval]
  refine WC.loopA (by kernel_rfl) [1, 5] [4, 6, 7, 8, 9, 10, 11, 12, 13, 14, 15, 16, 17, 18, 19, 20, 21, 22, 23, 24, 25, 26, 27, 28, 29] (fun a : Nat × Nat => [.int .i64 (a.2 : Nat), .int .i64 (a.1 : Nat)]) (fun a h' => (a.1 ≤ n ∧ a.2 = k + a.1 * 2) ∧ Pre h h') (fun a => n - a.1) (0, k) (by kernel_rfl) ⟨⟨Nat.zero_le _, rfl⟩, Pre.refl _⟩ ?_
  intro a g h1 hJ
  have hi := hJ.1.1
  have hK := hJ.1.2
  have hp := hJ.2
  clear hJ
  have o1 := o.pre hp
  have l1 := o1.lt
  simp (maxSteps := 1000000) -implicitDefEqProofs only [push_cast, seval]
  with_reducible refine bcase_d (fun hb => ?_) (fun hb => ?_)
  · have hi' : a.1 < n := by omega
    with_reducible refine nameN (a.2 + 1) (fun K1 hK1 => ?_)
    have w1 : IntKind.i64.wrap ((a.2 : Int) + 1) = (K1 : Nat) := by rw [wrapSucc (by omega), hK1]
    with_reducible refine nameN (K1 + 1) (fun K2 hK2 => ?_)
    have w2 : IntKind.i64.wrap ((K1 : Int) + 1) = (K2 : Nat) := by rw [wrapSucc (by omega), hK2]
    have g0 : rd1 h1 id (off + a.1 * 2) = some (.int .i64 (a.2 : Nat)) := by
      have := o1.rd1 (j := a.1 * 2) (by omega)
      rw [show off + a.1 * 2 = off + (a.1 * 2) by omega, this, List.getD_eq_getElem?_getD, marks_get fI k (n * 2) (by omega)]
      rw [show k + (a.1 * 2) = a.2 by omega]; rfl
    have g1 : rd1 h1 id (off + a.1 * 2 + 1) = some (.int .i64 (K1 : Nat)) := by
      have := o1.rd1 (j := a.1 * 2 + 1) (by omega)
      rw [show off + a.1 * 2 + 1 = off + (a.1 * 2 + 1) by omega, this, List.getD_eq_getElem?_getD, marks_get fI k (n * 2) (by omega)]
      rw [show k + (a.1 * 2 + 1) = K1 by omega]; rfl
    simp (maxSteps := 1000000) -implicitDefEqProofs only [push_cast, seval, l1, w1, w2, g0, g1]
    refine And.intro (by omega) (And.intro (by omega) ?_)
    try simp (maxSteps := 1000000) -implicitDefEqProofs only [push_cast, seval, l1, w1, w2, g0, g1]
    refine And.intro (by omega) (And.intro (by omega) ?_)
    try simp (maxSteps := 1000000) -implicitDefEqProofs only [push_cast, seval, l1, w1, w2, g0, g1]
    rw [wrapSucc (by omega)]
    exact ⟨(a.1 + 1, K2), by kernel_rfl, ⟨⟨by show a.1 + 1 ≤ n; omega, by show K2 = k + (a.1 + 1) * 2; omega⟩, hp⟩, by show n - (a.1 + 1) < n - a.1; omega⟩
  · have e : a.1 = n := by omega
    simp (maxSteps := 1000000) -implicitDefEqProofs only [push_cast, seval]
    refine ⟨by rw [hK, e]; push_cast; rfl, hp.keep⟩
theorem markInstrS_n (c k : Nat) (hk : k < 4000000000000) (h : AH) : CD Try.prog 75 [.slice none 0 c, .int .i64 (k : Nat)] h (.int .i64 (k : Nat)) h := by
  refine CD.quiet ?_ (low_int _ _ _)
  refine CC.ofN Try.func75 Try.ntmps75 Try.results75 rfl (by decide) (by kernel_rfl) ?_
  simp (maxSteps := 1000000) -implicitDefEqProofs only [push_cast, seval]
  refine WC.loopA (by kernel_rfl) [1, 5] [6, 7, 8, 9, 10, 11, 12, 13, 14, 15, 16, 17, 18, 19, 20, 21, 22, 23, 24, 25] (fun a : Nat => [.int .i64 (k : Nat), .int .i64 (a : Nat)]) (fun a h' => a = 0 ∧ Pre h h') (fun a => 1 - a) 0 (by kernel_rfl) ⟨rfl, Pre.refl _⟩ ?_
  intro a g h1 hJ
  have e := hJ.1
  have hp := hJ.2
  clear hJ
  subst e
  simp (maxSteps := 1000000) -implicitDefEqProofs only [push_cast, seval]
  repeat' (first | with_reducible (first | exact Keep.refl _ _ | assumption | exact byte_lt _ _ | apply Keep.alloc | (refine Keep.set ?_ ?_; rotate_left; · omega) | apply Pre.alloc | apply Pre.set | exact Pre.refl _ | exact le_alloc _ | (refine Pre.keep ?_; assumption) | (refine Pre.n ?_; assumption)) | ((with_reducible (first | refine bcase_d (fun hb => ?_) (fun hb => ?_) | refine bcase_mk (fun hb => ?_) (fun hb => ?_))) <;> try simp (maxSteps := 1000000) -implicitDefEqProofs only [push_cast, seval]) | with_reducible refine And.intro ?_ ?_ | omega | (simp only [alloc_n, set_n, kill_n]; omega) | (exfalso; omega))
theorem heldInstrS_n (c k : Nat) (hk : k < 4000000000000) (h : AH) : CD Try.prog 77 [.slice none 0 c, .int .i64 (k : Nat)] h (.int .i64 (k : Nat)) h := by
  refine CD.quiet ?_ (low_int _ _ _)
  refine CC.ofN Try.func77 Try.ntmps77 Try.results77 rfl (by decide) (by kernel_rfl) ?_
  simp (maxSteps := 1000000) -implicitDefEqProofs only [push_cast, seval]
  refine WC.loopA (by kernel_rfl) [1, 5] [4, 6, 7, 8, 9, 10, 11, 12, 13, 14, 15, 16, 17, 18, 19, 20, 21, 22, 23, 24, 25, 26, 27, 28, 29] (fun a : Nat => [.int .i64 (k : Nat), .int .i64 (a : Nat)]) (fun a h' => a = 0 ∧ Pre h h') (fun a => 1 - a) 0 (by kernel_rfl) ⟨rfl, Pre.refl _⟩ ?_
  intro a g h1 hJ
  have e := hJ.1
  have hp := hJ.2
  clear hJ
  subst e
  simp (maxSteps := 1000000) -implicitDefEqProofs only [push_cast, seval]
  repeat' (first | with_reducible (first | exact Keep.refl _ _ | assumption | exact byte_lt _ _ | apply Keep.alloc | (refine Keep.set ?_ ?_; rotate_left; · omega) | apply Pre.alloc | apply Pre.set | exact Pre.refl _ | exact le_alloc _ | (refine Pre.keep ?_; assumption) | (refine Pre.n ?_; assumption)) | ((with_reducible (first | refine bcase_d (fun hb => ?_) (fun hb => ?_) | refine bcase_mk (fun hb => ?_) (fun hb => ?_))) <;> try simp (maxSteps := 1000000) -implicitDefEqProofs only [push_cast, seval]) | with_reducible refine And.intro ?_ ?_ | omega | (simp only [alloc_n, set_n, kill_n]; omega) | (exfalso; omega))
theorem markInstrS_c (n0 : Nat) (A : Option Addr) (n : Nat) (cs : List Value) (k : Nat) (h : AH) (o : Gr n0 h (.slice A n 2) 2 cs) (hc : cs.length = n * 2) (h0 : 0 < k) (hk : k + n * 2 < 4000000000000) (hn : n < 274877906944) :
    CC Try.prog 75 [.slice A n 2, .int .i64 (k : Nat)] h (fun v h' => v = .int .i64 ((k + n * 2 : Nat) : Int) ∧ Gr n0 h' (.slice A n 2) 2 (marks fI k (n * 2)) ∧ WrV h h' (.slice A n 2)) := by
  refine CC.withFit (fun ft => ?_)
  rcases o with ⟨c, e, e2⟩ | ⟨id, off, m, e, hb, ow⟩
  · injection e with e3 e4 e5
    subst e3 e4 e5 e2
    exact (markInstrS_n 2 k (by omega) h).to ⟨rfl, .inl ⟨2, rfl, rfl⟩, WrV.refl _ _⟩
  · injection e with e3 e4
    subst e3 e4
    exact (markInstrS_o id off n cs k h ow h0 hk hn).mono (fun v h' ⟨a, b, c⟩ => ⟨a, .inr ⟨id, off, n, rfl, hb, b⟩, c.toV ft ow⟩)
theorem heldInstrS_c (n0 : Nat) (A : Option Addr) (n : Nat) (k : Nat) (h : AH) (o : Gr n0 h (.slice A n 2) 2 (marks fI k (n * 2))) (h0 : 0 < k) (hk : k + n * 2 < 4000000000000) (hn : n < 274877906944) :
    CD Try.prog 77 [.slice A n 2, .int .i64 (k : Nat)] h (.int .i64 ((k + n * 2 : Nat) : Int)) h := by
  rcases o with ⟨c, e, e2⟩ | ⟨id, off, m, e, hb, ow⟩
  · injection e with e3 e4 e5
    subst e3 e4 e5
    exact heldInstrS_n 2 k (by omega) h
  · injection e with e3 e4
    subst e3 e4
    exact heldInstrS_o id off n 2 k h ow h0 hk hn

end Go.Proofs.Ytciajhpeikemoaa
namespace Go.Proofs.Ytciajhpeikemoaa
open Go Go.Sim Go.Proofs
set_option linter.unusedSimpArgs false
set_option linter.unusedVariables false
set_option maxRecDepth 100000
set_option maxHeartbeats 1000000
theorem OwnC.keep {h0 h h' : AH} {vA vB : Value} {c : Cod} (o : OwnC h0 h vA vB c) (hn : h.n ≤ h'.n) (e : ∀ i, (atBlock vA i ∨ atBlock vB i) → h'.ob i = h.ob i) : OwnC h0 h' vA vB c := ⟨o.a.keep hn (fun i hi => e i (.inl hi)), o.b.keep hn (fun i hi => e i (.inr hi)), o.ne⟩
theorem OwnC.pre {h0 h h' : AH} {vA vB : Value} {c : Cod} (o : OwnC h0 h vA vB c) (p : Pre h h') : OwnC h0 h' vA vB c := ⟨o.a.pre p, o.b.pre p, o.ne⟩
theorem OwnC.range {h0 h : AH} {vA vB : Value} {c : Cod} (o : OwnC h0 h vA vB c) {i : Nat} (e : atBlock vA i ∨ atBlock vB i) : h0.n + 1 ≤ i ∧ i < h.n := by
  rcases e with e | e
  · exact o.a.range e
  · exact o.b.range e
theorem OwnC.live {h0 h : AH} {vA vB : Value} {c : Cod} (o : OwnC h0 h vA vB c) {i : Nat} (e : atBlock vA i ∨ atBlock vB i) : live h i := by
  rcases e with e | e
  · exact o.a.live e
  · exact o.b.live e
theorem OwnC.rdc {h0 h : AH} {vA vB : Value} {c : Cod} (o : OwnC h0 h vA vB c) : RdC h vA vB c := ⟨o.a.rdv (by decide) (fun _ => rfl), o.b.rdv (by decide) (fun _ => rfl)⟩
theorem OwnC.one {h0 h : AH} {vA vB : Value} {c : Cod} (o : OwnC h0 h vA vB c) : Sim.one vA = true ∧ Sim.one vB = true := ⟨o.rdc.texts.one, o.rdc.list.one⟩
/-- Marked code. -/
def MkC (h : AH) (vA vB : Value) (nv nc k : Nat) : Prop := ∃ n0 n1, Gr n0 h vA 1 (marks fS k (nv * 1)) ∧ Gr n1 h vB 2 (marks fI (k + nv * 1) (nc * 2))
theorem MkC.keep {h h' : AH} {vA vB : Value} {nv nc k : Nat} (o : MkC h vA vB nv nc k) (hn : h.n ≤ h'.n) (e : ∀ i, (atBlock vA i ∨ atBlock vB i) → h'.ob i = h.ob i) : MkC h' vA vB nv nc k := by
  obtain ⟨n0, n1, a, b⟩ := o
  exact ⟨n0, n1, a.keep hn (fun i hi => e i (.inl hi)), b.keep hn (fun i hi => e i (.inr hi))⟩
theorem MkC.live {h : AH} {vA vB : Value} {nv nc k : Nat} (o : MkC h vA vB nv nc k) {i : Nat} (e : atBlock vA i ∨ atBlock vB i) : Sim.live h i := by
  obtain ⟨n0, n1, a, b⟩ := o
  rcases e with e | e
  · exact a.live e
  · exact b.live e
theorem MkC.one {h : AH} {vA vB : Value} {nv nc k : Nat} (o : MkC h vA vB nv nc k) : Sim.one vA = true ∧ Sim.one vB = true := by
  obtain ⟨n0, n1, a, b⟩ := o
  constructor
  · rcases a with ⟨c, rfl, _⟩ | ⟨id, off, n, rfl, _, _⟩ <;> rfl
  · rcases b with ⟨c, rfl, _⟩ | ⟨id, off, n, rfl, _, _⟩ <;> rfl
theorem txts_len (c : Cod) : ((c.texts.map encS).flatten).length = c.texts.length * 1 := flat_len (k := 1) _ (fun _ => rfl)
theorem list_len (c : Cod) : ((c.list.map encN).flatten).length = c.list.length * 2 := flat_len (k := 2) _ (fun _ => rfl)
theorem Gr.slice {n0 : Nat} {h : AH} {v : Value} {k : Nat} {cs : List Value} (w : Gr n0 h v k cs) (hk : 0 < k) {m : Nat} (hm : cs.length = m * k) : (∃ A, v = .slice A m k) ∨ (∃ c, v = .slice none 0 c ∧ m = 0) := by
  rcases w with ⟨c, rfl, rfl⟩ | ⟨id, off, n, rfl, b, o⟩
  · refine .inr ⟨c, rfl, ?_⟩
    rcases Nat.eq_zero_or_pos m with h | h
    · exact h
    · have := Nat.mul_pos h hk
      simp at hm; omega
  · refine .inl ⟨some ⟨id, off, none⟩, ?_⟩
    rw [Nat.eq_of_mul_eq_mul_right hk (o.len.symm.trans hm)]
theorem live.of {h h' : AH} {j : Nat} (l : live h j) (e : h'.ob j = h.ob j) : live h' j := by
  rcases l with ⟨ln, ⟨all, st, e1, hs⟩⟩ | l
  · exact .inl ⟨ln, ⟨all, st, e.trans e1, hs⟩⟩
  · exact .inr (by rw [e]; exact l)
theorem markT_any (n0 n k : Nat) (v : Value) (cs : List Value) (h : AH) (o : Gr n0 h v 1 cs) (hc : cs.length = n * 1) (h0 : 0 < k) (hk : k + n * 1 < 4000000000000) (hn : n < 274877906944) :
    CC Try.prog 74 [v, .int .i64 (k : Nat)] h (fun r h' => r = .int .i64 ((k + n * 1 : Nat) : Int) ∧ Gr n0 h' v 1 (marks fS k (n * 1)) ∧ WrV h h' v) := by
  rcases Gr.slice o (by decide) hc with ⟨A, rfl⟩ | ⟨c, rfl, rfl⟩
  · exact markStringS_c n0 A n cs k h o hc h0 hk hn
  · exact (markStringS_n c k (by omega) h).to ⟨rfl, .inl ⟨c, rfl, rfl⟩, WrV.refl _ _⟩
theorem markN_any (n0 n k : Nat) (v : Value) (cs : List Value) (h : AH) (o : Gr n0 h v 2 cs) (hc : cs.length = n * 2) (h0 : 0 < k) (hk : k + n * 2 < 4000000000000) (hn : n < 274877906944) :
    CC Try.prog 75 [v, .int .i64 (k : Nat)] h (fun r h' => r = .int .i64 ((k + n * 2 : Nat) : Int) ∧ Gr n0 h' v 2 (marks fI k (n * 2)) ∧ WrV h h' v) := by
  rcases Gr.slice o (by decide) hc with ⟨A, rfl⟩ | ⟨c, rfl, rfl⟩
  · exact markInstrS_c n0 A n cs k h o hc h0 hk hn
  · exact (markInstrS_n c k (by omega) h).to ⟨rfl, .inl ⟨c, rfl, rfl⟩, WrV.refl _ _⟩
theorem heldT_any (n0 n k : Nat) (v : Value) (h : AH) (o : Gr n0 h v 1 (marks fS k (n * 1))) (h0 : 0 < k) (hk : k + n * 1 < 4000000000000) (hn : n < 274877906944) :
    CD Try.prog 76 [v, .int .i64 (k : Nat)] h (.int .i64 ((k + n * 1 : Nat) : Int)) h := by
  rcases Gr.slice o (by decide) (marks_length _ _ _) with ⟨A, rfl⟩ | ⟨c, rfl, rfl⟩
  · exact heldStringS_c n0 A n k h o h0 hk hn
  · exact heldStringS_n c k (by omega) h
theorem heldN_any (n0 n k : Nat) (v : Value) (h : AH) (o : Gr n0 h v 2 (marks fI k (n * 2))) (h0 : 0 < k) (hk : k + n * 2 < 4000000000000) (hn : n < 274877906944) :
    CD Try.prog 77 [v, .int .i64 (k : Nat)] h (.int .i64 ((k + n * 2 : Nat) : Int)) h := by
  rcases Gr.slice o (by decide) (marks_length _ _ _) with ⟨A, rfl⟩ | ⟨c, rfl, rfl⟩
  · exact heldInstrS_c n0 A n k h o h0 hk hn
  · exact heldInstrS_n c k (by omega) h
theorem markCode_c (h0 h : AH) (vA vB : Value) (st : Cod) (ln fn : Int) (k nv nc : Nat) (o : OwnC h0 h vA vB st) (ev : st.texts.length = nv) (ec : st.list.length = nc) (k0 : 0 < k) (hk : k < 1000000) (hv : nv < 274877906944) (hc : nc < 274877906944) :
    CC Try.prog 27 [.agg #[vA, vB, .int .i64 0, .int .i64 ln, .int .i64 fn], .int .i64 (k : Nat)] h (fun r h' => r = .int .i64 ((k + nv * 1 + nc * 2 : Nat) : Int) ∧ MkC h' vA vB nv nc k ∧ h.n ≤ h'.n ∧ ∀ j, j < h.n → ¬ (atBlock vA j ∨ atBlock vB j) → live h j → h'.ob j = h.ob j) := by
  have o1 := o.one
  have b := o.a
  have d := o.b
  have c := o.ne
  have q1 := o1.1
  have q2 := o1.2
  have l1 := txts_len st
  have l2 := list_len st
  rw [ev] at l1
  rw [ec] at l2
  with_reducible refine nameN (k + nv * 1) (fun K1 hK1 => ?_)
  refine CC.ofN Try.func27 Try.ntmps27 Try.results27 rfl (by decide) (by kernel_rfl) ?_
  simp (maxSteps := 1000000) -implicitDefEqProofs only [push_cast, seval, q1, q2]
  with_reducible refine CC.mono (markT_any _ nv k vA _ _ (b.alloc _) l1 k0 (by omega) hv) (fun v h1 hv => ?_)
  have e1 := hv.1
  have g1 := hv.2.1
  have w1 := hv.2.2
  clear hv
  rw [← hK1] at e1
  subst e1
  have ox : h1.ob h.n = AOb.cells [vA, vB, Value.int .i64 0, .int .i64 ln, .int .i64 fn] .solo h.n := (w1.ob h.n (fun e => by have := b.range e; omega) (.inl ⟨h.n, ⟨_, _, alloc_same _, .inl rfl⟩⟩)).trans (alloc_same _)
  have lx : h.n < h1.n := by rw [w1.n]; exact lt_alloc _
  have kd : ∀ i, atBlock vB i → h1.ob i = (h.alloc (AOb.cells [vA, vB, Value.int .i64 0, .int .i64 ln, .int .i64 fn] .solo h.n)).ob i := fun i hi => w1.ob i (fun e => c i e hi) ((d.alloc _).live hi)
  have d1 : Gr _ h1 vB 2 _ := (d.alloc _).keep (by rw [w1.n]; exact Nat.le_refl _) kd
  simp (maxSteps := 1000000) -implicitDefEqProofs only [push_cast, seval, ox, lx, rd_of ox, rd1_of ox]
  with_reducible refine CC.mono (markN_any _ nc K1 vB _ _ d1 l2 (by omega) (by omega) hc) (fun v h2 hv => ?_)
  have e1 := hv.1
  have g2 := hv.2.1
  have w2 := hv.2.2
  clear hv
  subst e1
  simp (maxSteps := 1000000) -implicitDefEqProofs only [push_cast, seval]
  rw [hK1] at g2
  refine ⟨by rw [hK1]; push_cast; rfl, ⟨_, _, g1.keep (by rw [w2.n]; exact Nat.le_refl _) (fun i hi => w2.ob i (fun e => ?_) (g1.live hi)), g2⟩, by rw [w2.n]; omega, fun j hj hb hl => ?_⟩
  · exact c i hi e
  · have e1 : h1.ob j = h.ob j := (w1.ob j (fun e => hb (.inl e)) (live.of hl (alloc_lt _ hj))).trans (alloc_lt _ hj)
    exact (w2.ob j (fun e => hb (.inr e)) (live.of hl e1)).trans e1
theorem heldCode_c (h : AH) (vA vB : Value) (ln fn : Int) (k nv nc : Nat) (o : MkC h vA vB nv nc k) (k0 : 0 < k) (hk : k < 1000000) (hv : nv < 274877906944) (hc : nc < 274877906944) :
    CD Try.prog 28 [.agg #[vA, vB, .int .i64 0, .int .i64 ln, .int .i64 fn], .int .i64 (k : Nat)] h (.int .i64 ((k + nv * 1 + nc * 2 : Nat) : Int)) h := by
  have o1 := o.one
  obtain ⟨m, m1, a, b⟩ := o
  have q1 := o1.1
  have q2 := o1.2
  refine CD.quiet ?_ (low_int _ _ _)
  with_reducible refine nameN (k + nv * 1) (fun K1 hK1 => ?_)
  have hA := heldT_any _ nv k vA _ (a.alloc (AOb.cells [vA, vB, Value.int .i64 0, .int .i64 ln, .int .i64 fn] .solo h.n)) k0 (by omega) hv
  have hB := heldN_any _ nc (k + nv * 1) vB _ (b.alloc (AOb.cells [vA, vB, Value.int .i64 0, .int .i64 ln, .int .i64 fn] .solo h.n)) (by omega) (by omega) hc
  rw [← hK1] at hA hB
  with_reducible refine nameN (k + nv * 1 + nc * 2) (fun K2 hK2 => ?_)
  rw [← hK1] at hK2
  rw [← hK2] at hB
  refine CC.ofN Try.func28 Try.ntmps28 Try.results28 rfl (by decide) (by kernel_rfl) ?_
  simp (maxSteps := 1000000) -implicitDefEqProofs only [push_cast, seval, q1, q2]
  repeat' (first | with_reducible (first | exact Keep.refl _ _ | assumption | exact byte_lt _ _ | apply Keep.alloc | (refine Keep.set ?_ ?_; rotate_left; · omega) | apply Pre.alloc | apply Pre.set | exact Pre.refl _ | exact le_alloc _ | (refine Pre.keep ?_; assumption) | (refine Pre.n ?_; assumption)) | ((with_reducible (first | refine CD.to (hA) ?_ | refine CQ.pure (fun _ => hA) ?_ | refine CD.to (hB) ?_ | refine CQ.pure (fun _ => hB) ?_ | refine bcase_d (fun hb => ?_) (fun hb => ?_) | refine bcase_mk (fun hb => ?_) (fun hb => ?_))) <;> try simp (maxSteps := 1000000) -implicitDefEqProofs only [push_cast, seval, q1, q2]) | with_reducible refine And.intro ?_ ?_ | omega | (simp only [alloc_n, set_n, kill_n]; omega) | (exfalso; omega))
  rw [hK2, hK1]
  push_cast
  rfl
end Go.Proofs.Ytciajhpeikemoaa
namespace Go.Proofs.Ytciajhpeikemoaa
open Go Go.Sim Go.Proofs
set_option linter.unusedSimpArgs false
set_option linter.unusedVariables false
set_option maxRecDepth 100000
set_option maxHeartbeats 1000000
theorem cS2_bgn (s : ByteArray) : (cS2 s).bgn = 0 := by
  unfold cS2
  split <;> rfl
theorem cS2_sz (s : ByteArray) : (cS2 s).texts.length < 274877906944 ∧ (cS2 s).list.length < 274877906944 := by
  unfold cS2
  split
  · rename_i hk
    simp only [cOk, Bool.and_eq_true] at hk
    have o := ((codeOk_iff _).1 hk.2).1
    have := o.t60
    have := o.l250
    omega
  · exact ⟨by show 0 < _; omega, by show 0 < _; omega⟩
theorem ReadCode_w (s : ByteArray) (hs : s.size ≤ maxLen - 16) (h : AH) : CC Try.prog 24 [.string s] h (fun v h' => ∃ vA vB, v = .tuple #[.agg #[vA, vB, .int .i64 0, .int .i64 (cS2 s).line, .int .i64 (cS2 s).fin], .bool (cOk s)] ∧ OwnC h h' vA vB (cS2 s) ∧ Pre h h') :=
  (ReadCode_s s hs h).mono (fun v h' ⟨vA, vB, K1, K2, st, e, o, p⟩ => by
    have ag := code_agree st
    rw [ag.1] at e o
    have eS : (if cOk s = true then dCode s K1 K2 else code0) = cS2 s := by
      unfold cS2
      split
      · rename_i hk; exact ag.2 hk
      · rfl
    rw [eS] at e o
    exact ⟨vA, vB, e, o, p⟩)
theorem eqCode_own (h0 h1 h : AH) (vA vB wA wB : Value) (c : Cod) (oa : OwnC h0 h vA vB c) (ob : OwnC h1 h wA wB c) (b0 : c.bgn = 0) (ht : c.texts.length < 274877906944) (hl : c.list.length < 274877906944) :
    CD Try.prog 26 [.agg #[vA, vB, .int .i64 0, .int .i64 c.line, .int .i64 c.fin], .agg #[wA, wB, .int .i64 0, .int .i64 c.line, .int .i64 c.fin]] h (.bool true) h := by
  have := eqCode_c c vA vB wA wB h oa.rdc ob.rdc ht hl
  rw [b0] at this
  exact this
theorem live_solo {h : AH} {i ln : Nat} {cs : List Value} (e : h.ob i = .cells cs .solo ln) : live h i := .inl ⟨ln, ⟨_, _, e, .inl rfl⟩⟩
/-- The law. -/
theorem law_ReadCode (s : ByteArray) (hs : s.size ≤ maxLen) (h : AH) : CE Try.prog 5 [.string s] h fun v _ => v = .bool true := by
  have hm := maxLen_eq
  have zS := cS2_sz s
  have b0 := cS2_bgn s
  refine CE.ofN Try.func5 Try.ntmps5 Try.results5 rfl (by kernel_rfl) ?_
  simp (maxSteps := 1000000) -implicitDefEqProofs only [push_cast, seval]
  with_reducible refine bcase_d (fun hb => ?_) (fun hb => ?_)
  · simp (maxSteps := 1000000) -implicitDefEqProofs only [push_cast, seval]
  have hs' : s.size ≤ maxLen - 16 := by omega
  simp (maxSteps := 1000000) -implicitDefEqProofs only [push_cast, seval]
  with_reducible refine CC.mono (ReadCode_w s hs' _) (fun v h1 hv => ?_)
  with_reducible refine Exists.elim hv (fun wA hv => ?_)
  with_reducible refine Exists.elim hv (fun wB hv => ?_)
  have e1 := hv.1
  have wO := hv.2.1
  have p1 := hv.2.2
  clear hv
  subst e1
  have y1 := wO.one.1
  have y2 := wO.one.2
  simp (maxSteps := 1000000) -implicitDefEqProofs only [push_cast, seval, y1, y2]
  with_reducible refine CC.mono (ReadCode_i s hs' _) (fun v h2 hv => ?_)
  with_reducible refine Exists.elim hv (fun gA hv => ?_)
  with_reducible refine Exists.elim hv (fun gB hv => ?_)
  have e1 := hv.1
  have gO := hv.2.1
  have p2 := hv.2.2
  clear hv
  subst e1
  have y3 := gO.one.1
  have y4 := gO.one.2
  have k1 : h1.n < h2.n := Nat.lt_of_lt_of_le (Nat.lt_succ_self h1.n) p2.n
  have o1 : h2.ob h1.n = _ := (p2.ob h1.n (Nat.lt_succ_self h1.n)).trans (set_same _ _)
  simp (maxSteps := 1000000) -implicitDefEqProofs only [push_cast, seval, y1, y2, y3, y4, o1, rd_of o1, rd1_of o1, k1]
  have wO2 := wO.pre ((((Pre.refl h1).alloc (AOb.cells [Value.slice none 0 0, Value.slice none 0 0, Value.int .i64 0, Value.int .i64 0, Value.int .i64 0] .solo h1.n)).set (Nat.le_refl _) (AOb.cells [wA, wB, Value.int .i64 0, Value.int .i64 (cS2 s).line, Value.int .i64 (cS2 s).fin] .solo h1.n)).trans p2)
  have p3 : Pre h2 ((h2.alloc (AOb.cells [Value.slice none 0 0, Value.slice none 0 0, Value.int .i64 0, Value.int .i64 0, Value.int .i64 0] .solo h2.n)).set h2.n (AOb.cells [gA, gB, Value.int .i64 0, Value.int .i64 (cS2 s).line, Value.int .i64 (cS2 s).fin] .solo h2.n)) := ((Pre.refl h2).alloc _).set (Nat.le_refl _) _
  have wO3 := wO2.pre p3
  have gO3 := gO.pre p3
  repeat' (first | with_reducible (first | exact Keep.refl _ _ | assumption | exact byte_lt _ _ | apply Keep.alloc | (refine Keep.set ?_ ?_; rotate_left; · omega) | apply Pre.alloc | apply Pre.set | exact Pre.refl _ | exact le_alloc _ | (refine Pre.keep ?_; assumption) | (refine Pre.n ?_; assumption)) | ((with_reducible (first | refine CD.to (eqCode_own _ _ _ _ _ _ _ _ gO3 wO3 b0 zS.1 zS.2) ?_ | refine CQ.pure (fun _ => eqCode_own _ _ _ _ _ _ _ _ gO3 wO3 b0 zS.1 zS.2) ?_ | refine bcase_d (fun hb => ?_) (fun hb => ?_) | refine bcase_mk (fun hb => ?_) (fun hb => ?_))) <;> try simp (maxSteps := 1000000) -implicitDefEqProofs only [push_cast, seval, y1, y2, y3, y4, o1, rd_of o1, rd1_of o1, k1]) | with_reducible refine And.intro ?_ ?_ | omega | (simp only [alloc_n, set_n, kill_n]; omega) | (exfalso; omega))
  rotate_left
  · simp at hb
  generalize hnv : (cS2 s).texts.length = nv
  generalize hnc : (cS2 s).list.length = nc
  have zv : nv < 274877906944 := by rw [← hnv]; exact zS.1
  have zc : nc < 274877906944 := by rw [← hnc]; exact zS.2
  have hM := markCode_c _ _ gA gB (cS2 s) (cS2 s).line (cS2 s).fin 1 nv nc gO3 hnv hnc (by omega) (by omega) zv zc
  rw [show ((1 : Nat) : Int) = 1 from rfl] at hM
  with_reducible refine CC.mono hM (fun v h3 hv => ?_)
  have e1 := hv.1
  have gM := hv.2.1
  have n3 := hv.2.2.1
  have f3 := hv.2.2.2
  clear hv
  subst e1
  have n3' : h2.n + 1 ≤ h3.n := n3
  have rw3 := fun i e => wO2.range (i := i) e
  have rg3 := fun i e => gO.range (i := i) e
  have rw0 := fun i e => wO.range (i := i) e
  have oG : h3.ob h2.n = AOb.cells [gA, gB, Value.int .i64 0, Value.int .i64 (cS2 s).line, Value.int .i64 (cS2 s).fin] .solo h2.n := (f3 h2.n (Nat.lt_succ_self h2.n) (fun e => by have := rg3 _ e; omega) (live_solo (set_same _ _))).trans (set_same _ _)
  have oW : h3.ob h1.n = AOb.cells [wA, wB, Value.int .i64 0, Value.int .i64 (cS2 s).line, Value.int .i64 (cS2 s).fin] .solo h1.n := by
    have e0 := (p3.ob h1.n k1).trans o1
    exact (f3 h1.n (Nat.lt_succ_of_lt k1) (fun e => by have := (rg3 _ e).1; have : h1.n + 1 + 1 ≤ h1.n := this; omega) (live_solo e0)).trans e0
  have wO4 : OwnC h h3 wA wB (cS2 s) := wO3.keep n3 (fun i e => f3 i (by have := (rw0 i e).2; show i < h2.n + 1; omega) (fun e' => by have := (rw0 i e).2; have : h1.n + 1 + 1 ≤ i := (rg3 _ e').1; omega) (wO3.live e))
  have lG : h2.n < h3.n := by omega
  have lW : h1.n < h3.n := by omega
  with_reducible refine nameN (1 + nv * 1 + nc * 2) (fun K hK => ?_)
  rw [← hK]
  have hH := fun (h : AH) (o : MkC h gA gB nv nc 1) => heldCode_c h gA gB (cS2 s).line (cS2 s).fin 1 nv nc o (by omega) (by omega) zv zc
  rw [show ((1 : Nat) : Int) = 1 from rfl, ← hK] at hH
  simp (maxSteps := 1000000) -implicitDefEqProofs only [push_cast, seval, oG, rd_of oG, rd1_of oG, lG]
  repeat' (first | with_reducible (first | exact Keep.refl _ _ | assumption | exact byte_lt _ _ | apply Keep.alloc | (refine Keep.set ?_ ?_; rotate_left; · omega) | apply Pre.alloc | apply Pre.set | exact Pre.refl _ | exact le_alloc _ | (refine Pre.keep ?_; assumption) | (refine Pre.n ?_; assumption)) | ((with_reducible (first | refine CD.to (hH _ gM) ?_ | refine CQ.pure (fun _ => hH _ gM) ?_ | refine bcase_d (fun hb => ?_) (fun hb => ?_) | refine bcase_mk (fun hb => ?_) (fun hb => ?_))) <;> try simp (maxSteps := 1000000) -implicitDefEqProofs only [push_cast, seval, oG, rd_of oG, rd1_of oG, lG]) | with_reducible refine And.intro ?_ ?_ | omega | (simp only [alloc_n, set_n, kill_n]; omega) | (exfalso; omega))
  with_reducible refine CC.mono (ReadCode_i s hs' _) (fun v h4 hv => ?_)
  with_reducible refine Exists.elim hv (fun xA hv => ?_)
  with_reducible refine Exists.elim hv (fun xB hv => ?_)
  have e1 := hv.1
  have xO := hv.2.1
  have p4 := hv.2.2
  clear hv
  subst e1
  have y5 := xO.one.1
  have y6 := xO.one.2
  have l4 : h3.n ≤ h4.n := p4.n
  have oG4 : h4.ob h2.n = _ := (p4.ob _ lG).trans oG
  have oW4 : h4.ob h1.n = _ := (p4.ob _ lW).trans oW
  have lG4 : h2.n < h4.n := by omega
  have lW4 : h1.n < h4.n := by omega
  simp (maxSteps := 1000000) -implicitDefEqProofs only [push_cast, seval, oG4, rd_of oG4, rd1_of oG4, lG4, oW4, rd_of oW4, rd1_of oW4, lW4, y5, y6]
  have p5 : Pre h4 ((h4.alloc (AOb.cells [Value.slice none 0 0, Value.slice none 0 0, Value.int .i64 0, Value.int .i64 0, Value.int .i64 0] .solo h4.n)).set h4.n (AOb.cells [xA, xB, Value.int .i64 0, Value.int .i64 (cS2 s).line, Value.int .i64 (cS2 s).fin] .solo h4.n)) := ((Pre.refl h4).alloc _).set (Nat.le_refl _) _
  have wO5 := wO4.pre (p4.trans p5)
  have xO5 := xO.pre p5
  have gM5 : MkC _ gA gB nv nc 1 := gM.keep (p4.trans p5).n (fun i e => (p4.trans p5).ob i (by
    obtain ⟨n0, n1, a, b⟩ := gM
    rcases e with e | e
    · exact (a.range e).2
    · exact (b.range e).2))
  repeat' (first | with_reducible (first | exact Keep.refl _ _ | assumption | exact byte_lt _ _ | apply Keep.alloc | (refine Keep.set ?_ ?_; rotate_left; · omega) | apply Pre.alloc | apply Pre.set | exact Pre.refl _ | exact le_alloc _ | (refine Pre.keep ?_; assumption) | (refine Pre.n ?_; assumption)) | ((with_reducible (first | refine CD.to (eqCode_own _ _ _ _ _ _ _ _ xO5 wO5 b0 zS.1 zS.2) ?_ | refine CQ.pure (fun _ => eqCode_own _ _ _ _ _ _ _ _ xO5 wO5 b0 zS.1 zS.2) ?_ | refine CD.to (hH _ gM5) ?_ | refine CQ.pure (fun _ => hH _ gM5) ?_ | refine bcase_d (fun hb => ?_) (fun hb => ?_) | refine bcase_mk (fun hb => ?_) (fun hb => ?_))) <;> try simp (maxSteps := 1000000) -implicitDefEqProofs only [push_cast, seval, oG4, rd_of oG4, rd1_of oG4, lG4, oW4, rd_of oW4, rd1_of oW4, lW4, y5, y6]) | with_reducible refine And.intro ?_ ?_ | omega | (simp only [alloc_n, set_n, kill_n]; omega) | (exfalso; omega))
  simp at hb
end Go.Proofs.Ytciajhpeikemoaa
