/- A part of the proof of the row: contracts of functions that it reaches. Conditions: those that each theorem names. -/
import Derived.Test.YtfbcedjheempfaaL4
namespace Go.Proofs.Ytfbcedjheempfaa
open Go Go.Sim Go.Proofs
set_option linter.unusedSimpArgs false
set_option linter.unusedVariables false
set_option maxRecDepth 100000
set_option maxHeartbeats 1000000
theorem ReadVar_s (s : ByteArray) (a : Int) (hs : s.size ≤ maxLen - 16) (h : AH) : CD Try.prog 104 [.string s, .int .i64 a] h (.tuple #[.int .i64 (oN (rv s a)), .int .i64 (oX (rv s a)), .bool (rv s a).isSome]) h := by
  rw [maxLen_eq] at hs
  refine CD.quiet ?_ (low_tuple (by simp [low_int, low_bool]))
  refine CC.ofN Try.func104 Try.ntmps104 Try.results104 rfl (by decide) (by kernel_rfl) ?_
  simp -implicitDefEqProofs only [push_cast, seval]
  repeat' (first | with_reducible (first | exact Keep.refl _ _ | assumption | exact byte_lt _ _ | apply Keep.alloc | (refine Keep.set ?_ ?_; rotate_left; · omega) | apply Pre.alloc | apply Pre.set | exact Pre.refl _ | exact le_alloc _ | (refine Pre.keep ?_; assumption) | (refine Pre.n ?_; assumption)) | ((with_reducible (first | refine CD.to (l01In_c _ _ _ _) ?_ | refine CQ.pure (fun _ => l01In_c _ _ _ _) ?_ | refine bcase_d (fun hb => ?_) (fun hb => ?_) | refine bcase_mk (fun hb => ?_) (fun hb => ?_))) <;> try simp -implicitDefEqProofs only [push_cast, seval]) | with_reducible refine And.intro ?_ ?_ | omega | (simp only [alloc_n, set_n, kill_n]; omega) | (exfalso; omega))
  rotate_left
  · simp [rv, hb, oN, oX]
  · have hn : 0 ≤ a ∧ a ≤ s.size := by simpa [inB] using hb
    obtain ⟨a, rfl⟩ := Int.eq_ofNat_of_zero_le hn.1
    have hr : rv s (a : Int) = rvGo s a 5 0 0 := by simp [rv, hb]
    rw [hr]
    have hn2 : a ≤ s.size := by omega
    refine WC.loopA (by kernel_rfl) [7, 8, 9] [4, 5, 6, 16, 17, 18, 19, 20, 21, 22, 23, 24, 25, 26, 27, 28, 29, 30, 31, 32, 33, 34, 35, 36, 37, 38, 39, 40, 41, 42, 43, 44, 45, 46, 47, 48, 49, 50, 51, 52, 53, 54, 55, 56, 57] (fun z : Nat × Nat × Nat × Nat => [.int .i64 (z.2.1 : Nat), .int .i64 (z.2.2.1 : Nat), .int .i64 (z.2.2.2 : Nat)]) (fun z h' => ((z.2.1 = sumv (bl s a z.1) ∧ z.2.2.1 = 128 ^ z.1 ∧ z.2.2.2 = a + z.1) ∧ z.1 ≤ 5 ∧ a + z.1 ≤ s.size ∧ (∀ b ∈ bl s a z.1, 127 < b ∧ b < 256) ∧ z.2.1 < z.2.2.1 ∧ rvGo s a (5 - z.1) z.1 z.2.1 = rvGo s a 5 0 0) ∧ h' = h) (fun z => 5 - z.1) (0, 0, 1, a) (by kernel_rfl) ⟨⟨⟨rfl, rfl, rfl⟩, by omega, by show a + 0 ≤ s.size; omega, by simp [bl], by show 0 < 1; decide, rfl⟩, rfl⟩ ?_
    intro z g h1 hJ
    have hq := hJ.1.1.1
    have hsc := hJ.1.1.2.1
    have hN := hJ.1.1.2.2
    have hi := hJ.1.2.1
    have hsz0 := hJ.1.2.2.1
    have hall := hJ.1.2.2.2.1
    have hlt := hJ.1.2.2.2.2.1
    have hgo := hJ.1.2.2.2.2.2
    have hh := hJ.2
    clear hJ
    subst hh
    with_reducible refine nameN z.1 (fun i hi0 => ?_)
    with_reducible refine nameN z.2.1 (fun q hq0 => ?_)
    with_reducible refine nameN z.2.2.1 (fun sc hsc0 => ?_)
    with_reducible refine nameN z.2.2.2 (fun N hN0 => ?_)
    rw [← hi0, ← hq0] at hgo
    rw [← hq0, ← hsc0] at hlt
    rw [← hi0] at hall hsz0 hi
    rw [← hi0, ← hq0] at hq
    rw [← hi0, ← hsc0] at hsc
    rw [← hi0, ← hN0] at hN
    rw [← hq0, ← hsc0, ← hN0]
    simp -implicitDefEqProofs only [push_cast, seval]
    with_reducible refine bcase_d (fun hb1 => ?_) (fun hb1 => ?_)
    rotate_left
    · simp -implicitDefEqProofs only [push_cast, seval]
      have : rvGo s a 5 0 0 = none := by rw [← hgo, rvGo_out _ _ _ _ _ (by omega)]
      rw [this]
      exact ⟨rfl, Keep.refl _ _⟩
    have w1 : IntKind.i64.wrap ((a : Int) + 5) = (a : Int) + 5 := by rw [w64 (by omega) (by omega)]
    simp -implicitDefEqProofs only [push_cast, seval, w1]
    with_reducible refine bcase_d (fun hb2 => ?_) (fun hb2 => ?_)
    rotate_left
    · have h5 : i = 5 := by omega
      rw [h5] at hgo
      simp -implicitDefEqProofs only [push_cast, seval]
      have : rvGo s a 5 0 0 = none := by rw [← hgo]; rfl
      rw [this]
      exact ⟨rfl, Keep.refl _ _⟩
    have h5 : i < 5 := by omega
    have hp5 := pow128 h5
    have hsz : a + i < s.size := by omega
    with_reducible refine nameN (bN s N) (fun c hc => ?_)
    with_reducible refine nameN (c % 128) (fun d hd => ?_)
    with_reducible refine nameN (d * sc) (fun x hx => ?_)
    with_reducible refine nameN (q + x) (fun v hv => ?_)
    with_reducible refine nameN (sc * 128) (fun sc' hsc' => ?_)
    have hcl : c < 256 := hc ▸ bN_lt s N
    have hxl : x ≤ 127 * 128 ^ i := by rw [hx, hsc, hd]; exact dig_lt h5
    have eb : ((byteAt s N).toNat : Int) = (c : Int) := by rw [hc]; rfl
    have w2 : IntKind.i64.wrap (c : Int) = (c : Int) := wrapNat (by omega)
    have w3 : (c : Int).tmod 128 = (d : Int) := by rw [Int.tmod_eq_emod_of_nonneg (by omega)]; omega
    have w5 : IntKind.i64.wrap ((d : Int) * (sc : Int)) = (x : Int) := by rw [← Int.natCast_mul, ← hx]; exact wrapNat (by omega)
    have w6 : IntKind.i64.wrap ((q : Int) + (x : Int)) = (v : Int) := by
      rw [← Int.natCast_add, ← hv]; exact wrapNat (by omega)
    have w9 : IntKind.i64.wrap ((sc : Int) * 128) = (sc' : Int) := by rw [w64 (by omega) (by omega)]; omega
    have w7 : IntKind.i64.wrap ((N : Int) + 1) = ((N + 1 : Nat) : Int) := wrapSucc (by omega)
    have hv2 : v = sumv (bl s a (i + 1)) := by rw [bl_succ, sumv_snoc, bl_len, ← hN, ← hc, ← hd, ← hsc, ← hx, ← hq, hv]
    have hgo2 : rvGo s a (5 - i) i q = rvGo s a (4 - i + 1) i q := by congr 1; omega
    rw [hgo2, rvGo_succ _ _ _ _ _ hsz, ← hN, ← hc, ← hd, ← hsc, ← hx, ← hv] at hgo
    have h1000 : v ≤ 34359738367 := by omega
    simp -implicitDefEqProofs only [push_cast, seval, eb, w2, w3, w5, w6, w9]
    repeat' (first | with_reducible (first | exact Keep.refl _ _ | assumption | exact byte_lt _ _ | apply Keep.alloc | (refine Keep.set ?_ ?_; rotate_left; · omega) | apply Pre.alloc | apply Pre.set | exact Pre.refl _ | exact le_alloc _ | (refine Pre.keep ?_; assumption) | (refine Pre.n ?_; assumption)) | ((with_reducible (first | refine bcase_d (fun hb => ?_) (fun hb => ?_) | refine bcase_mk (fun hb => ?_) (fun hb => ?_))) <;> try simp -implicitDefEqProofs only [push_cast, seval, eb, w2, w3, w5, w6, w9]) | with_reducible refine And.intro ?_ ?_ | omega | (simp only [alloc_n, set_n, kill_n]; omega) | (exfalso; omega))
    rotate_left
    · rw [if_pos (by omega)] at hgo
      refine ⟨(i + 1, v, sc', N + 1), by rw [w7], ?_, ?_⟩
      · refine ⟨⟨hv2, by show sc' = 128 ^ (i + 1); rw [Nat.pow_succ, ← hsc, hsc'], by show N + 1 = a + (i + 1); omega⟩, by show i + 1 ≤ 5; omega, by show a + (i + 1) ≤ s.size; omega, ?_, ?_, ?_⟩
        · intro b hb'
          have hb' : b ∈ bl s a (i + 1) := hb'
          rw [bl_succ, List.mem_append, List.mem_singleton] at hb'
          rcases hb' with h' | h'
          · exact hall b h'
          · rw [h', ← hN, ← hc]; omega
        · show v < sc'
          rw [hsc']; omega
        · rw [← hgo]
          show rvGo s a (5 - (i + 1)) (i + 1) v = _
          congr 1; omega
      · show 5 - (i + 1) < 5 - z.1
        omega
    · rw [if_neg (by omega)] at hgo
      have key : (vt (v : Int) = s.extract a (N + 1)) ↔ ¬ (0 < i ∧ c = 0) := by
        have e0 : N + 1 = a + (i + 1) := by omega
        have e1 : bl s a (i + 1) = bl s a i ++ [c] := by rw [bl_succ, ← hN, ← hc]
        have e2 := vt_eq v s a (i + 1) (by omega)
        rw [e0]
        show (⟨((var (v : Int).toNat).map UInt8.ofNat).toArray⟩ : ByteArray) = _ ↔ _
        rw [Int.toNat_natCast, e2, hv2, e1]
        constructor
        · rintro e ⟨h0, hc0⟩
          rw [hc0] at e
          exact var_no _ (by intro e'; have := bl_len s a i; rw [e'] at this; simp at this; omega) e
        · intro hne
          refine var_sum c (by omega) _ hall ?_
          by_cases hc0 : c = 0
          · right
            have : i = 0 := by omega
            rw [this]; rfl
          · exact .inl hc0
      refine WC.draw' (by kernel_rfl) (by kernel_rfl) (.q 0 (.q 1 (.q 2 (.q 3 (.q 5 (.q 6 (.q 7 (.q 8 (.q 9 (.c 4 (.q 10 (.q 11 (.done))))))))))))) (by kernel_rfl) ?_
      simp -implicitDefEqProofs only [push_cast, seval, eb, w2, w3, w5, w6, w9, w7]
      repeat' (first | with_reducible (first | exact Keep.refl _ _ | assumption | exact byte_lt _ _ | apply Keep.alloc | (refine Keep.set ?_ ?_; rotate_left; · omega) | apply Pre.alloc | apply Pre.set | exact Pre.refl _ | exact le_alloc _ | (refine Pre.keep ?_; assumption) | (refine Pre.n ?_; assumption)) | ((with_reducible (first | refine CD.to (l01Var_c _ ?_ _) ?_ | refine CQ.pure (fun _ => l01Var_c _ ?_ _) ?_ | refine bcase_d (fun hb => ?_) (fun hb => ?_) | refine bcase_mk (fun hb => ?_) (fun hb => ?_))) <;> try simp -implicitDefEqProofs only [push_cast, seval, eb, w2, w3, w5, w6, w9, w7]) | with_reducible refine And.intro ?_ ?_ | omega | (simp only [alloc_n, set_n, kill_n]; omega) | (exfalso; omega))
      · rw [if_pos (by omega)] at hgo; rw [← hgo]; rfl
      · rw [if_neg (by have := key.1 hb; omega)] at hgo; rw [← hgo, hN]; rfl
      · rw [if_pos (by by_cases h' : 0 < i ∧ c = 0
                       · exact .inl h'
                       · exact absurd (key.2 h') hb)] at hgo
        rw [← hgo]; rfl
end Go.Proofs.Ytfbcedjheempfaa
