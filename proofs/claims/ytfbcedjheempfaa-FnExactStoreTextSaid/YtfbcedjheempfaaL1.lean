/- A part of the proof of the row: contracts of functions that it reaches. Conditions: those that each theorem names. -/
import Derived.Test.YtfbcedjheempfaaTy
import Derived.Test.YtfbcedjheempfaaP4
namespace Go.Proofs.Ytfbcedjheempfaa
open Go Go.Sim Go.Proofs
set_option linter.unusedSimpArgs false
set_option linter.unusedVariables false
set_option maxRecDepth 100000
set_option maxHeartbeats 4000000
theorem within_c (n lo hi : Int) (h : AH) : CD Try.prog 51 [.int .i64 n, .int .i64 lo, .int .i64 hi] h (.bool (inB n lo hi)) h := by
  refine CD.quiet ?_ (low_bool _ _)
  refine CC.ofN Try.func51 Try.ntmps51 Try.results51 rfl (by decide) (by kernel_rfl) ?_
  simp -implicitDefEqProofs only [push_cast, seval]
  repeat' (first | with_reducible (first | exact Keep.refl _ _ | assumption | exact byte_lt _ _ | apply Keep.alloc | (refine Keep.set ?_ ?_; rotate_left; · omega) | apply Pre.alloc | apply Pre.set | exact Pre.refl _ | exact le_alloc _ | (refine Pre.keep ?_; assumption) | (refine Pre.n ?_; assumption)) | ((with_reducible (first | refine bcase_d (fun hb => ?_) (fun hb => ?_) | refine bcase_mk (fun hb => ?_) (fun hb => ?_))) <;> try simp -implicitDefEqProofs only [push_cast, seval]) | with_reducible refine And.intro ?_ ?_ | omega | (simp only [alloc_n, set_n, kill_n]; omega) | (exfalso; omega))
  all_goals simp [hb, inB]
theorem l01In_c (n lo hi : Int) (h : AH) : CD Try.prog 50 [.int .i64 n, .int .i64 lo, .int .i64 hi] h (.bool (inB n lo hi)) h := by
  refine CD.quiet ?_ (low_bool _ _)
  refine CC.ofN Try.func50 Try.ntmps50 Try.results50 rfl (by decide) (by kernel_rfl) ?_
  simp -implicitDefEqProofs only [push_cast, seval]
  repeat' (first | with_reducible (first | exact Keep.refl _ _ | assumption | exact byte_lt _ _ | apply Keep.alloc | (refine Keep.set ?_ ?_; rotate_left; · omega) | apply Pre.alloc | apply Pre.set | exact Pre.refl _ | exact le_alloc _ | (refine Pre.keep ?_; assumption) | (refine Pre.n ?_; assumption)) | ((with_reducible (first | refine bcase_d (fun hb => ?_) (fun hb => ?_) | refine bcase_mk (fun hb => ?_) (fun hb => ?_))) <;> try simp -implicitDefEqProofs only [push_cast, seval]) | with_reducible refine And.intro ?_ ?_ | omega | (simp only [alloc_n, set_n, kill_n]; omega) | (exfalso; omega))
  all_goals simp [hb, inB]
theorem isLetter_c (c : Int) (h0 : 0 ≤ c) (h1 : c < 256) (h : AH) : CD Try.prog 111 [.int .u8 c] h (.bool (letter c)) h := by
  refine CD.quiet ?_ (low_bool _ _)
  refine CC.ofN Try.func111 Try.ntmps111 Try.results111 rfl (by decide) (by kernel_rfl) ?_
  simp -implicitDefEqProofs only [push_cast, seval]
  rw [w64 (by omega) (by omega)]
  repeat' (first | with_reducible (first | exact Keep.refl _ _ | assumption | exact byte_lt _ _ | apply Keep.alloc | (refine Keep.set ?_ ?_; rotate_left; · omega) | apply Pre.alloc | apply Pre.set | exact Pre.refl _ | exact le_alloc _ | (refine Pre.keep ?_; assumption) | (refine Pre.n ?_; assumption)) | ((with_reducible (first | refine CD.to (within_c _ _ _ _) ?_ | refine CQ.pure (fun _ => within_c _ _ _ _) ?_ | refine bcase_d (fun hb => ?_) (fun hb => ?_) | refine bcase_mk (fun hb => ?_) (fun hb => ?_))) <;> try simp -implicitDefEqProofs only [push_cast, seval]) | with_reducible refine And.intro ?_ ?_ | omega | (simp only [alloc_n, set_n, kill_n]; omega) | (exfalso; omega))
  · simp [letter, hb]
  · rw [w64 (by omega) (by omega)]; simp [letter, hb]
theorem l05Letter_c (c : Int) (h : AH) : CD Try.prog 113 [.int .u8 c] h (.bool (letter c)) h := by
  refine CD.quiet ?_ (low_bool _ _)
  refine CC.ofN Try.func113 Try.ntmps113 Try.results113 rfl (by decide) (by kernel_rfl) ?_
  simp -implicitDefEqProofs only [push_cast, seval]
  repeat' (first | with_reducible (first | exact Keep.refl _ _ | assumption | exact byte_lt _ _ | apply Keep.alloc | (refine Keep.set ?_ ?_; rotate_left; · omega) | apply Pre.alloc | apply Pre.set | exact Pre.refl _ | exact le_alloc _ | (refine Pre.keep ?_; assumption) | (refine Pre.n ?_; assumption)) | ((with_reducible (first | refine bcase_d (fun hb => ?_) (fun hb => ?_) | refine bcase_mk (fun hb => ?_) (fun hb => ?_))) <;> try simp -implicitDefEqProofs only [push_cast, seval]) | with_reducible refine And.intro ?_ ?_ | omega | (simp only [alloc_n, set_n, kill_n]; omega) | (exfalso; omega))
  all_goals simp [letter, inB, *]
theorem isLetters_c (s : ByteArray) (hs : s.size ≤ maxLen) (h : AH) : CD Try.prog 76 [.string s] h (.bool (letters s)) h := by
  refine CD.quiet ?_ (low_bool _ _)
  refine CC.ofN Try.func76 Try.ntmps76 Try.results76 rfl (by decide) (by kernel_rfl) ?_
  simp -implicitDefEqProofs only [push_cast, seval]
  rw [maxLen_eq] at hs
  refine WC.loopA (by kernel_rfl) [6] [2, 3, 7, 8, 9, 10, 11, 12, 13, 14] (fun i : Nat => [.int .i64 i]) (fun i h' => (i ≤ s.size ∧ ∀ j, j < i → letter (byteAt s j).toNat = true) ∧ h' = h) (fun i => s.size - i) 0 (by kernel_rfl) ⟨⟨Nat.zero_le _, by omega⟩, rfl⟩ ?_
  intro i g h' hJ
  have hi := hJ.1.1
  have hj := hJ.1.2
  have e := hJ.2
  clear hJ
  subst e
  simp -implicitDefEqProofs only [push_cast, seval]
  repeat' (first | with_reducible (first | exact Keep.refl _ _ | assumption | exact byte_lt _ _ | apply Keep.alloc | (refine Keep.set ?_ ?_; rotate_left; · omega) | apply Pre.alloc | apply Pre.set | exact Pre.refl _ | exact le_alloc _ | (refine Pre.keep ?_; assumption) | (refine Pre.n ?_; assumption)) | ((with_reducible (first | refine CD.to (isLetter_c _ ?_ ?_ _) ?_ | refine CQ.pure (fun _ => isLetter_c _ ?_ ?_ _) ?_ | refine CD.to (within_c _ _ _ _) ?_ | refine CQ.pure (fun _ => within_c _ _ _ _) ?_ | refine bcase_d (fun hb => ?_) (fun hb => ?_) | refine bcase_mk (fun hb => ?_) (fun hb => ?_))) <;> try simp -implicitDefEqProofs only [push_cast, seval]) | with_reducible refine And.intro ?_ ?_ | omega | (simp only [alloc_n, set_n, kill_n]; omega) | (exfalso; omega))
  · rw [wrapSucc (by omega)]
    exact ⟨i + 1, by kernel_rfl, ⟨by omega, fun j hj' => (Nat.lt_succ_iff_lt_or_eq.1 hj').elim (hj j) (fun e => by subst e; exact hb)⟩, by omega⟩
  · simp only [letters, allAt_false (s := s) (i := i) (by omega) hb]; rfl
  · have : allAt s letter = true := allAt_iff.2 (fun j hj' => hj j (by omega))
    simp [letters, this]
end Go.Proofs.Ytfbcedjheempfaa
