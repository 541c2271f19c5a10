/- A part of the proof of the row: contracts of functions that it reaches. Conditions: those that each theorem names. -/
import Derived.Test.YtfbcedjheempfaaL11
import Derived.Test.YtfbcedjheempfaaP4
namespace Go.Proofs.Ytfbcedjheempfaa
open Go Go.Sim Go.Proofs
set_option linter.unusedSimpArgs false
set_option linter.unusedVariables false
set_option maxRecDepth 100000
set_option maxHeartbeats 1000000
theorem ShortText_c (s : ByteArray) (hs : s.size ≤ 20000) (h : AH) : CD Try.prog 118 [.string s] h (.tuple #[.string (short s), .bool true]) h := by
  refine CD.quiet ?_ (low_tuple (by simp [low_string, low_bool]))
  have hb0 : inB (s.size : Nat) 0 1000000000 = true := by simp [inB]; omega
  have hz := vt_size (n := (s.size : Nat)) (by omega)
  refine CC.ofN Try.func118 Try.ntmps118 Try.results118 rfl (by decide) (by kernel_rfl) ?_
  simp -implicitDefEqProofs only [push_cast, seval]
  repeat' (first | with_reducible (first | exact Keep.refl _ _ | assumption | exact byte_lt _ _ | apply Keep.alloc | (refine Keep.set ?_ ?_; rotate_left; · omega) | apply Pre.alloc | apply Pre.set | exact Pre.refl _ | exact le_alloc _ | (refine Pre.keep ?_; assumption) | (refine Pre.n ?_; assumption)) | ((with_reducible (first | refine CD.to (VarText_c _ _) ?_ | refine CQ.pure (fun _ => VarText_c _ _) ?_ | refine bcase_d (fun hb => ?_) (fun hb => ?_) | refine bcase_mk (fun hb => ?_) (fun hb => ?_))) <;> try simp -implicitDefEqProofs only [push_cast, seval, hb0]) | with_reducible refine And.intro ?_ ?_ | omega | (simp only [alloc_n, set_n, kill_n]; omega) | (exfalso; omega))
  all_goals (simp [short]; try omega)
theorem shortOf_c (s : ByteArray) (hs : s.size ≤ 20000) (h : AH) : CD Try.prog 84 [.string s] h (.string (short s)) h := by
  refine CD.quiet ?_ (low_string _ _)
  refine CC.ofN Try.func84 Try.ntmps84 Try.results84 rfl (by decide) (by kernel_rfl) ?_
  simp -implicitDefEqProofs only [push_cast, seval]
  repeat' (first | with_reducible (first | exact Keep.refl _ _ | assumption | exact byte_lt _ _ | apply Keep.alloc | (refine Keep.set ?_ ?_; rotate_left; · omega) | apply Pre.alloc | apply Pre.set | exact Pre.refl _ | exact le_alloc _ | (refine Pre.keep ?_; assumption) | (refine Pre.n ?_; assumption)) | ((with_reducible (first | refine CD.to (ShortText_c _ ?_ _) ?_ | refine CQ.pure (fun _ => ShortText_c _ ?_ _) ?_ | refine bcase_d (fun hb => ?_) (fun hb => ?_) | refine bcase_mk (fun hb => ?_) (fun hb => ?_))) <;> try simp -implicitDefEqProofs only [push_cast, seval]) | with_reducible refine And.intro ?_ ?_ | omega | (simp only [alloc_n, set_n, kill_n]; omega) | (exfalso; omega))
theorem l07Short_c (s : ByteArray) (hs : s.size ≤ 20000) (h : AH) : CD Try.prog 75 [.string s] h (.string (short s)) h := by
  refine CD.quiet ?_ (low_string _ _)
  have hz := vt_size (n := (s.size : Nat)) (by omega)
  refine CC.ofN Try.func75 Try.ntmps75 Try.results75 rfl (by decide) (by kernel_rfl) ?_
  simp -implicitDefEqProofs only [push_cast, seval]
  repeat' (first | with_reducible (first | exact Keep.refl _ _ | assumption | exact byte_lt _ _ | apply Keep.alloc | (refine Keep.set ?_ ?_; rotate_left; · omega) | apply Pre.alloc | apply Pre.set | exact Pre.refl _ | exact le_alloc _ | (refine Pre.keep ?_; assumption) | (refine Pre.n ?_; assumption)) | ((with_reducible (first | refine CD.to (l01Var_c _ ?_ _) ?_ | refine CQ.pure (fun _ => l01Var_c _ ?_ _) ?_ | refine bcase_d (fun hb => ?_) (fun hb => ?_) | refine bcase_mk (fun hb => ?_) (fun hb => ?_))) <;> try simp -implicitDefEqProofs only [push_cast, seval]) | with_reducible refine And.intro ?_ ?_ | omega | (simp only [alloc_n, set_n, kill_n]; omega) | (exfalso; omega))
  all_goals (simp [short]; try omega)
theorem l07Name_c (s : ByteArray) (hs : s.size ≤ maxLen) (h : AH) : CD Try.prog 78 [.string s] h (.bool (letters s)) h := by
  refine CD.quiet ?_ (low_bool _ _)
  rw [maxLen_eq] at hs
  refine CC.ofN Try.func78 Try.ntmps78 Try.results78 rfl (by decide) (by kernel_rfl) ?_
  simp -implicitDefEqProofs only [push_cast, seval]
  refine WC.loopA (by kernel_rfl) [3] [2, 4, 5, 6, 7, 8, 9, 10, 11, 12, 13, 14] (fun i : Nat => [.int .i64 i]) (fun i h' => (i ≤ s.size ∧ ∀ j, j < i → letter (byteAt s j).toNat = true) ∧ h' = h) (fun i => s.size - i) 0 (by kernel_rfl) ⟨⟨Nat.zero_le _, by omega⟩, rfl⟩ ?_
  intro i g h' hJ
  have hi := hJ.1.1
  have hj := hJ.1.2
  have e := hJ.2
  clear hJ
  subst e
  simp -implicitDefEqProofs only [push_cast, seval]
  repeat' (first | with_reducible (first | exact Keep.refl _ _ | assumption | exact byte_lt _ _ | apply Keep.alloc | (refine Keep.set ?_ ?_; rotate_left; · omega) | apply Pre.alloc | apply Pre.set | exact Pre.refl _ | exact le_alloc _ | (refine Pre.keep ?_; assumption) | (refine Pre.n ?_; assumption)) | ((with_reducible (first | refine CD.to (l05Letter_c _ _) ?_ | refine CQ.pure (fun _ => l05Letter_c _ _) ?_ | refine CD.to (l01In_c _ _ _ _) ?_ | refine CQ.pure (fun _ => l01In_c _ _ _ _) ?_ | refine bcase_d (fun hb => ?_) (fun hb => ?_) | refine bcase_mk (fun hb => ?_) (fun hb => ?_))) <;> try simp -implicitDefEqProofs only [push_cast, seval]) | with_reducible refine And.intro ?_ ?_ | omega | (simp only [alloc_n, set_n, kill_n]; omega) | (exfalso; omega))
  · rw [wrapSucc (by omega)]
    exact ⟨i + 1, by kernel_rfl, ⟨by omega, fun j hj' => (Nat.lt_succ_iff_lt_or_eq.1 hj').elim (hj j) (fun e => by subst e; exact hb)⟩, by omega⟩
  · simp only [letters, allAt_false (s := s) (i := i) (by omega) hb]; rfl
  · have : allAt s letter = true := allAt_iff.2 (fun j hj' => hj j (by omega))
    simp [letters, this]
end Go.Proofs.Ytfbcedjheempfaa
