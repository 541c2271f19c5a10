/- A part of the proof of the row: contracts of functions that it reaches. Conditions: those that each theorem names. -/
import Derived.Test.YtfbcedjheempfaaL3
namespace Go.Proofs.Ytfbcedjheempfaa
open Go Go.Sim Go.Proofs
set_option linter.unusedSimpArgs false
set_option linter.unusedVariables false
set_option maxRecDepth 100000
set_option maxHeartbeats 1000000
theorem ReadVar_i (s : ByteArray) (a : Int) (hs : s.size ≤ maxLen - 16) (h : AH) : CD Try.prog 105 [.string s, .int .i64 a] h (.tuple #[.int .i64 (oN (rv s a)), .int .i64 (oX (rv s a)), .bool (rv s a).isSome]) h := by
  rw [maxLen_eq] at hs
  refine CD.quiet ?_ (low_tuple (by simp [low_int, low_bool]))
  refine CC.ofN Try.func105 Try.ntmps105 Try.results105 rfl (by decide) (by kernel_rfl) ?_
  simp -implicitDefEqProofs only [push_cast, seval]
  repeat' (first | with_reducible (first | exact Keep.refl _ _ | assumption | exact byte_lt _ _ | apply Keep.alloc | (refine Keep.set ?_ ?_; rotate_left; · omega) | apply Pre.alloc | apply Pre.set | exact Pre.refl _ | exact le_alloc _ | (refine Pre.keep ?_; assumption) | (refine Pre.n ?_; assumption)) | ((with_reducible (first | refine CD.to (within_c _ _ _ _) ?_ | refine CQ.pure (fun _ => within_c _ _ _ _) ?_ | refine bcase_d (fun hb => ?_) (fun hb => ?_) | refine bcase_mk (fun hb => ?_) (fun hb => ?_))) <;> try simp -implicitDefEqProofs only [push_cast, seval]) | with_reducible refine And.intro ?_ ?_ | omega | (simp only [alloc_n, set_n, kill_n]; omega) | (exfalso; omega))
  rotate_left
  · simp [rv, hb, oN, oX]
  · have hn : 0 ≤ a ∧ a ≤ s.size := by simpa [inB] using hb
    obtain ⟨a, rfl⟩ := Int.eq_ofNat_of_zero_le hn.1
    have hr : rv s (a : Int) = rvGo s a 5 0 0 := by simp [rv, hb]
    rw [hr]
    have hn2 : a ≤ s.size := by omega
    refine WC.loopA (by kernel_rfl) [7, 8] [4, 5, 6, 9, 15, 16, 17, 18, 19, 20, 21, 22, 23, 24, 25, 26, 27, 28, 29, 30, 31, 32, 33, 34, 35, 36, 37, 38, 39, 40, 41, 42, 43, 44, 45, 46, 47, 48, 49, 50, 51, 52, 53, 54, 55, 56] (fun p : Nat × Nat => [.int .i64 (p.2 : Nat), .int .i64 (p.1 : Nat)]) (fun p h' => (p.1 ≤ 5 ∧ p.2 < 128 ^ p.1 ∧ rvGo s a (5 - p.1) p.1 p.2 = rvGo s a 5 0 0) ∧ h' = h) (fun p => 5 - p.1) (0, 0) (by kernel_rfl) ⟨⟨by omega, by simp, rfl⟩, rfl⟩ ?_
    intro p g h1 hJ
    have hi := hJ.1.1
    have hlt := hJ.1.2.1
    have hgo := hJ.1.2.2
    have hh := hJ.2
    clear hJ
    subst hh
    with_reducible refine nameN (a + p.1) (fun N hN => ?_)
    have w1 : IntKind.i64.wrap ((a : Int) + (p.1 : Nat)) = (N : Int) := by rw [w64 (by omega) (by omega)]; omega
    simp -implicitDefEqProofs only [push_cast, seval, w1]
    with_reducible refine bcase_d (fun hb1 => ?_) (fun hb1 => ?_)
    rotate_left
    · have h5 : p.1 = 5 := by omega
      rw [h5] at hgo
      simp -implicitDefEqProofs only [push_cast, seval]
      have : rvGo s a 5 0 0 = none := by rw [← hgo]; rfl
      rw [this]
      exact ⟨rfl, Keep.refl _ _⟩
    simp -implicitDefEqProofs only [push_cast, seval, w1]
    with_reducible refine bcase_d (fun hb2 => ?_) (fun hb2 => ?_)
    rotate_left
    · simp -implicitDefEqProofs only [push_cast, seval]
      have : rvGo s a 5 0 0 = none := by rw [← hgo, rvGo_out _ _ _ _ _ (by omega)]
      rw [this]
      exact ⟨rfl, Keep.refl _ _⟩
    have h5 : p.1 < 5 := by omega
    have hp5 := pow128 h5
    have hsz : a + p.1 < s.size := by omega
    with_reducible refine nameN (bN s N) (fun c hc => ?_)
    with_reducible refine nameN (c % 128) (fun d hd => ?_)
    with_reducible refine nameN (7 * p.1) (fun j7 hj7 => ?_)
    with_reducible refine nameN (d * 128 ^ p.1) (fun x hx => ?_)
    with_reducible refine nameN (p.2 + x) (fun v hv => ?_)
    have hcl : c < 256 := hc ▸ bN_lt s N
    have hxl : x ≤ 127 * 128 ^ p.1 := hx ▸ hd ▸ dig_lt h5
    have eb : ((byteAt s N).toNat : Int) = (c : Int) := by rw [hc]; rfl
    have w2 : IntKind.i64.wrap (c : Int) = (c : Int) := wrapNat (by omega)
    have w3 : (c : Int).tmod 128 = (d : Int) := by rw [Int.tmod_eq_emod_of_nonneg (by omega)]; omega
    have w4 : IntKind.i64.wrap (7 * (p.1 : Int)) = (j7 : Int) := by rw [w64 (by omega) (by omega)]; omega
    have w5 : IntKind.i64.wrap ((d : Int) * 2 ^ min j7 IntKind.i64.bits) = (x : Int) := by
      have e : min j7 IntKind.i64.bits = 7 * p.1 := by rw [hj7]; exact Nat.min_eq_left (by show 7 * p.1 ≤ 64; omega)
      rw [e, show (2 : Int) ^ (7 * p.1) = ((128 ^ p.1 : Nat) : Int) by rw [Int.pow_mul]; norm_cast, ← Int.natCast_mul, ← hx]
      exact wrapNat (by omega)
    have w6 : IntKind.i64.wrap ((p.2 : Int) + (x : Int)) = (v : Int) := by
      rw [← Int.natCast_add, ← hv]; exact wrapNat (by omega)
    have w7 : IntKind.i64.wrap ((N : Int) + 1) = ((N + 1 : Nat) : Int) := wrapSucc (by omega)
    have hgo2 : rvGo s a (5 - p.1) p.1 p.2 = rvGo s a (4 - p.1 + 1) p.1 p.2 := by congr 1; omega
    rw [hgo2, rvGo_succ _ _ _ _ _ hsz, ← hN, ← hc, ← hd, ← hx, ← hv] at hgo
    have w8 := wrapSucc (n := p.1) (by omega)
    simp -implicitDefEqProofs only [push_cast, seval, w1, eb, w2, w3, w4, w5, w6]
    repeat' (first | with_reducible (first | exact Keep.refl _ _ | assumption | exact byte_lt _ _ | apply Keep.alloc | (refine Keep.set ?_ ?_; rotate_left; · omega) | apply Pre.alloc | apply Pre.set | exact Pre.refl _ | exact le_alloc _ | (refine Pre.keep ?_; assumption) | (refine Pre.n ?_; assumption)) | ((with_reducible (first | refine bcase_d (fun hb => ?_) (fun hb => ?_) | refine bcase_mk (fun hb => ?_) (fun hb => ?_))) <;> try simp -implicitDefEqProofs only [push_cast, seval, w1, eb, w2, w3, w4, w5, w6]) | with_reducible refine And.intro ?_ ?_ | omega | (simp only [alloc_n, set_n, kill_n]; omega) | (exfalso; omega))
    · rw [if_pos (by omega)] at hgo
      refine ⟨(p.1 + 1, v), by rw [w8], ?_, ?_⟩
      · refine ⟨by show p.1 + 1 ≤ 5; omega, by show v < 128 ^ (p.1 + 1); rw [Nat.pow_succ]; omega, ?_⟩
        rw [← hgo]; congr 1; show 5 - (p.1 + 1) = 4 - p.1; omega
      · show 5 - (p.1 + 1) < 5 - p.1
        omega
    all_goals
      rw [if_neg (by omega)] at hgo
      first
        | (rw [if_pos (by omega)] at hgo; rw [← hgo]; rfl)
        | (rw [if_neg (by omega)] at hgo; rw [← hgo, w7]; rfl)
end Go.Proofs.Ytfbcedjheempfaa
