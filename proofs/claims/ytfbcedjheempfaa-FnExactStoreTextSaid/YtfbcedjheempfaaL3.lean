/- A part of the proof of the row: contracts of functions that it reaches. Conditions: those that each theorem names. -/
import Derived.Test.YtfbcedjheempfaaL2
namespace Go.Proofs.Ytfbcedjheempfaa
open Go Go.Sim Go.Proofs
set_option linter.unusedSimpArgs false
set_option linter.unusedVariables false
set_option maxRecDepth 100000
set_option maxHeartbeats 4000000
theorem VarText_c (n : Int) (h : AH) : CD Try.prog 103 [.int .i64 n] h (.tuple #[.string (if inB n 0 1000000000 then vt n else ⟨#[]⟩), .bool (inB n 0 1000000000)]) h := by
  refine CD.quiet ?_ (low_tuple (by simp [low_string, low_bool]))
  refine CC.ofN Try.func103 Try.ntmps103 Try.results103 rfl (by decide) (by kernel_rfl) ?_
  simp -implicitDefEqProofs only [push_cast, seval]
  repeat' (first | with_reducible (first | exact Keep.refl _ _ | assumption | exact byte_lt _ _ | apply Keep.alloc | (refine Keep.set ?_ ?_; rotate_left; · omega) | apply Pre.alloc | apply Pre.set | exact Pre.refl _ | exact le_alloc _ | (refine Pre.keep ?_; assumption) | (refine Pre.n ?_; assumption)) | ((with_reducible (first | refine CD.to (within_c _ _ _ _) ?_ | refine CQ.pure (fun _ => within_c _ _ _ _) ?_ | refine bcase_d (fun hb => ?_) (fun hb => ?_) | refine bcase_mk (fun hb => ?_) (fun hb => ?_))) <;> try simp -implicitDefEqProofs only [push_cast, seval]) | with_reducible refine And.intro ?_ ?_ | omega | (simp only [alloc_n, set_n, kill_n]; omega) | (exfalso; omega))
  rotate_left
  · simp [hb]
  · have hn : 0 ≤ n ∧ n ≤ 1000000000 := by simpa [inB] using hb
    refine WC.loopA (by kernel_rfl) [0, 4] [9, 10, 11, 12, 13, 14, 15, 16, 17, 18, 19] (fun a : Nat × List Nat × Value => [.int .i64 (a.1 : Nat), a.2.2]) (fun a h' => (Gr h.n h' a.2.2 1 (VN a.2.1) ∧ Pre h h') ∧ a.2.1 ++ var a.1 = var n.toNat ∧ a.2.1.length + a.1 ≤ 1000000000) (fun a => a.1) (n.toNat, [], .slice (some ⟨h.n, 0, none⟩) 0 1) ?_ ⟨⟨Gr.new (Nat.le_refl _) [] 0 1 rfl, (Pre.refl _).alloc _⟩, rfl, by simp; omega⟩ ?_
    · rw [Int.toNat_of_nonneg hn.1]; kernel_rfl
    intro a g h1 hJ
    have ho := hJ.1.1
    have hp := hJ.1.2
    have hv := hJ.2.1
    have hkm := hJ.2.2
    clear hJ
    simp -implicitDefEqProofs only [push_cast, seval]
    with_reducible refine bcase_d (fun hm => ?_) (fun hm => ?_)
    · simp -implicitDefEqProofs only [push_cast, seval]
      repeat (with_reducible refine And.intro ?_ ?_; · (first | omega | decide))
      have e1 : IntKind.u8.wrap (IntKind.i64.wrap ((a.1 : Int).tmod 128 + 128)) = ((a.1 % 128 + 128 : Nat) : Int) := by
        rw [Int.tmod_eq_emod_of_nonneg (by omega), w64 (by omega) (by omega), w8 (by omega) (by omega)]; omega
      have e2 : IntKind.i64.wrap ((a.1 : Int).tdiv 128) = ((a.1 / 128 : Nat) : Int) := by
        rw [Int.tdiv_eq_ediv_of_nonneg (by omega), w64 (by omega) (by omega)]; omega
      rw [e1]
      refine Gr.app1 si29 (by decide) (by decide) (notInt_sl und29) ho hp rfl (by rw [vn_len]; omega) (by decide) (fun h' gr ow p' hn' he => ?_)
      simp -implicitDefEqProofs only [push_cast, seval, e2]
      repeat (with_reducible refine And.intro ?_ ?_; · (first | omega | decide))
      refine ⟨(a.1 / 128, a.2.1 ++ [a.1 % 128 + 128], .slice (some ⟨h1.n + 1, 0, none⟩) ((VN a.2.1).length / 1 + 1) 1), by kernel_rfl, ⟨⟨by rw [vn_snoc]; exact gr, p'⟩, ?_, ?_⟩, ?_⟩
      · have hv' : var a.1 = (a.1 % 128 + 128) :: var (a.1 / 128) := by rw [var, if_neg (by omega)]
        rw [List.append_assoc, ← hv, hv']; rfl
      · simp only [List.length_append, List.length_singleton]; omega
      · show a.1 / 128 < a.1
        omega
    · simp -implicitDefEqProofs only [push_cast, seval]
      rw [w8 (by omega) (by omega)]
      refine Gr.app1 si29 (by decide) (by decide) (notInt_sl und29) ho hp rfl (by rw [vn_len]; omega) (by decide) (fun h' gr ow p' hn' he => ?_)
      have er := ow.rdAll
      rw [Nat.mul_one] at er
      have et : toBytes (VN a.2.1 ++ [.int .u8 (a.1 : Nat)]) = some ((var n.toNat).map UInt8.ofNat) := by
        have : (VN a.2.1 ++ [.int .u8 (a.1 : Nat)]) = VN (a.2.1 ++ [a.1]) := by simp [VN]
        rw [this, VN, toBytes_nat, ← hv, var, if_pos (by omega)]
      simp -implicitDefEqProofs only [push_cast, seval, er, et]
      exact ⟨by simp [vt, hb], p'.keep⟩
theorem l01Var_c (n : Int) (hn : 0 ≤ n ∧ n ≤ 1000000000) (h : AH) : CD Try.prog 59 [.int .i64 n] h (.string (vt n)) h := by
  refine CD.quiet ?_ (low_string _ _)
  refine CC.ofN Try.func59 Try.ntmps59 Try.results59 rfl (by decide) (by kernel_rfl) ?_
  simp -implicitDefEqProofs only [push_cast, seval]
  refine WC.loopA (by kernel_rfl) [0, 3] [5, 6, 7, 8, 9, 10, 11, 12, 13, 14, 15] (fun a : Nat × List Nat × Value => [.int .i64 (a.1 : Nat), a.2.2]) (fun a h' => (Gr h.n h' a.2.2 1 (VN a.2.1) ∧ Pre h h') ∧ a.2.1 ++ var a.1 = var n.toNat ∧ a.2.1.length + a.1 ≤ 1000000000) (fun a => a.1) (n.toNat, [], .slice (some ⟨h.n, 0, none⟩) 0 1) ?_ ⟨⟨Gr.new (Nat.le_refl _) [] 0 1 rfl, (Pre.refl _).alloc _⟩, rfl, by simp; omega⟩ ?_
  · rw [Int.toNat_of_nonneg hn.1]; kernel_rfl
  intro a g h1 hJ
  have ho := hJ.1.1
  have hp := hJ.1.2
  have hv := hJ.2.1
  have hkm := hJ.2.2
  clear hJ
  simp -implicitDefEqProofs only [push_cast, seval]
  with_reducible refine bcase_d (fun hm => ?_) (fun hm => ?_)
  · simp -implicitDefEqProofs only [push_cast, seval]
    repeat (with_reducible refine And.intro ?_ ?_; · (first | omega | decide))
    have e1 : IntKind.u8.wrap (IntKind.i64.wrap ((a.1 : Int).tmod 128 + 128)) = ((a.1 % 128 + 128 : Nat) : Int) := by
      rw [Int.tmod_eq_emod_of_nonneg (by omega), w64 (by omega) (by omega), w8 (by omega) (by omega)]; omega
    have e2 : IntKind.i64.wrap ((a.1 : Int).tdiv 128) = ((a.1 / 128 : Nat) : Int) := by
      rw [Int.tdiv_eq_ediv_of_nonneg (by omega), w64 (by omega) (by omega)]; omega
    rw [e1]
    refine Gr.app1 si29 (by decide) (by decide) (notInt_sl und29) ho hp rfl (by rw [vn_len]; omega) (by decide) (fun h' gr ow p' hn' he => ?_)
    simp -implicitDefEqProofs only [push_cast, seval, e2]
    repeat (with_reducible refine And.intro ?_ ?_; · (first | omega | decide))
    refine ⟨(a.1 / 128, a.2.1 ++ [a.1 % 128 + 128], .slice (some ⟨h1.n + 1, 0, none⟩) ((VN a.2.1).length / 1 + 1) 1), by kernel_rfl, ⟨⟨by rw [vn_snoc]; exact gr, p'⟩, ?_, ?_⟩, ?_⟩
    · have hv' : var a.1 = (a.1 % 128 + 128) :: var (a.1 / 128) := by rw [var, if_neg (by omega)]
      rw [List.append_assoc, ← hv, hv']; rfl
    · simp only [List.length_append, List.length_singleton]; omega
    · show a.1 / 128 < a.1
      omega
  · simp -implicitDefEqProofs only [push_cast, seval]
    rw [w8 (by omega) (by omega)]
    refine Gr.app1 si29 (by decide) (by decide) (notInt_sl und29) ho hp rfl (by rw [vn_len]; omega) (by decide) (fun h' gr ow p' hn' he => ?_)
    have er := ow.rdAll
    rw [Nat.mul_one] at er
    have et : toBytes (VN a.2.1 ++ [.int .u8 (a.1 : Nat)]) = some ((var n.toNat).map UInt8.ofNat) := by
      have : (VN a.2.1 ++ [.int .u8 (a.1 : Nat)]) = VN (a.2.1 ++ [a.1]) := by simp [VN]
      rw [this, VN, toBytes_nat, ← hv, var, if_pos (by omega)]
    simp -implicitDefEqProofs only [push_cast, seval, er, et]
    exact ⟨rfl, p'.keep⟩
theorem numberText_c (n : Int) (hn : 0 ≤ n ∧ n ≤ 1000000000) (h : AH) : CD Try.prog 61 [.int .i64 n] h (.string (vt n)) h := by
  refine CD.quiet ?_ (low_string _ _)
  refine CC.ofN Try.func61 Try.ntmps61 Try.results61 rfl (by decide) (by kernel_rfl) ?_
  simp -implicitDefEqProofs only [push_cast, seval]
  repeat' (first | with_reducible (first | exact Keep.refl _ _ | assumption | exact byte_lt _ _ | apply Keep.alloc | (refine Keep.set ?_ ?_; rotate_left; · omega) | apply Pre.alloc | apply Pre.set | exact Pre.refl _ | exact le_alloc _ | (refine Pre.keep ?_; assumption) | (refine Pre.n ?_; assumption)) | ((with_reducible (first | refine CD.to (VarText_c _ _) ?_ | refine CQ.pure (fun _ => VarText_c _ _) ?_ | refine bcase_d (fun hb => ?_) (fun hb => ?_) | refine bcase_mk (fun hb => ?_) (fun hb => ?_))) <;> try simp -implicitDefEqProofs only [push_cast, seval]) | with_reducible refine And.intro ?_ ?_ | omega | (simp only [alloc_n, set_n, kill_n]; omega) | (exfalso; omega))
  simp [inB, hn]
end Go.Proofs.Ytfbcedjheempfaa
