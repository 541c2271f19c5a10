/- A part of the proof of the row: contracts of functions that it reaches. Conditions: those that each theorem names. -/
import Derived.Test.YtfbcedjheempfaaL7
import Derived.Test.YtfbcedjheempfaaP2
namespace Go.Proofs.Ytfbcedjheempfaa
open Go Go.Sim Go.Proofs
set_option linter.unusedSimpArgs false
set_option linter.unusedVariables false
set_option maxRecDepth 100000
set_option maxHeartbeats 1000000
theorem SumMore_s (s : Int) (text : ByteArray) (hs : text.size ≤ maxLen) (h : AH) : CD Try.prog 124 [.int .u32 s, .string text] h (.int .u32 (sumFrom text 0 s)) h := by
  have hm := maxLen_eq
  refine CD.quiet ?_ (low_int _ _ _)
  refine CC.ofN Try.func124 Try.ntmps124 Try.results124 rfl (by decide) (by kernel_rfl) ?_
  simp -implicitDefEqProofs only [push_cast, seval]
  refine WC.loopA (by kernel_rfl) [0, 5] [6, 7, 8, 9, 10, 11, 12, 13, 14, 15, 16, 17, 18, 19, 20, 21, 22, 23, 24, 25, 26, 27, 28, 29, 30, 31] (fun a : Int × Nat => [.int .u32 a.1, .int .i64 (a.2 : Nat)]) (fun a h' => (a.2 ≤ text.size ∧ sumFrom text a.2 a.1 = sumFrom text 0 s) ∧ h' = h) (fun a => text.size - a.2) (s, 0) (by kernel_rfl) ⟨⟨Nat.zero_le _, rfl⟩, rfl⟩ ?_
  intro a g h1 hJ
  have hi := hJ.1.1
  have hv := hJ.1.2
  have hh := hJ.2
  clear hJ
  subst hh
  simp -implicitDefEqProofs only [push_cast, seval]
  with_reducible refine bcase_d (fun hb => ?_) (fun hb => ?_)
  · have hlt : a.2 < text.size := by omega
    rw [sumFrom_lt hlt] at hv
    simp -implicitDefEqProofs only [push_cast, seval]
    repeat (with_reducible refine And.intro ?_ ?_; · (first | omega | decide))
    refine WC.loopA (by kernel_rfl) [0, 6] [7, 20, 21, 22, 23, 24, 25, 26, 27, 28, 29, 30, 31] (fun c : Int × Nat => [.int .u32 c.1, .int .i64 (c.2 : Nat)]) (fun c h' => (c.2 ≤ 8 ∧ cbits (8 - c.2) c.1 = sum1 a.1 (byteAt text a.2).toNat) ∧ h' = h1) (fun c => 8 - c.2) (_, 0) (by kernel_rfl) ⟨⟨by show 0 ≤ 8; omega, rfl⟩, rfl⟩ ?_
    intro c g2 h2 hJ
    have hj := hJ.1.1
    have hu := hJ.1.2
    have hh := hJ.2
    clear hJ
    subst hh
    have w1 := wrapSucc (n := c.2) (by omega)
    have w2 := wrapSucc (n := a.2) (by omega)
    simp -implicitDefEqProofs only [push_cast, seval]
    with_reducible refine bcase_d (fun hb2 => ?_) (fun hb2 => ?_)
    · rw [cbits_step (by omega)] at hu
      simp -implicitDefEqProofs only [push_cast, seval]
      repeat (with_reducible refine And.intro ?_ ?_; · (first | omega | decide))
      with_reducible refine bcase_d (fun hb3 => ?_) (fun hb3 => ?_)
      · rw [bit_pos hb3] at hu
        simp -implicitDefEqProofs only [push_cast, seval]
        rw [w1]
        exact ⟨(_, c.2 + 1), by kernel_rfl, ⟨by show c.2 + 1 ≤ 8; omega, hu⟩, by show 8 - (c.2 + 1) < 8 - c.2; omega⟩
      · rw [bit_neg hb3] at hu
        simp -implicitDefEqProofs only [push_cast, seval]
        rw [w1]
        exact ⟨(_, c.2 + 1), by kernel_rfl, ⟨by show c.2 + 1 ≤ 8; omega, hu⟩, by show 8 - (c.2 + 1) < 8 - c.2; omega⟩
    · have h8 : c.2 = 8 := by omega
      rw [h8] at hu
      have hu' : c.1 = sum1 a.1 (byteAt text a.2).toNat := hu
      simp -implicitDefEqProofs only [push_cast, seval]
      rw [w2]
      exact ⟨(c.1, a.2 + 1), by kernel_rfl, ⟨by show a.2 + 1 ≤ text.size; omega, by rw [← hv, hu']⟩, by show text.size - (a.2 + 1) < text.size - a.2; omega⟩
  · rw [sumFrom_end (by omega)] at hv
    simp -implicitDefEqProofs only [push_cast, seval]
    rw [hv]
    exact ⟨rfl, Keep.refl _ _⟩
theorem SumMore_i (s : Int) (text : ByteArray) (hs : text.size ≤ maxLen) (h : AH) : CD Try.prog 125 [.int .u32 s, .string text] h (.int .u32 (sumFrom text 0 s)) h := by
  have hm := maxLen_eq
  refine CD.quiet ?_ (low_int _ _ _)
  refine CC.ofN Try.func125 Try.ntmps125 Try.results125 rfl (by decide) (by kernel_rfl) ?_
  simp -implicitDefEqProofs only [push_cast, seval]
  refine WC.loopA (by kernel_rfl) [0, 5] [6, 7, 8, 9, 10, 11, 12, 13, 14, 15, 16, 17, 18, 19, 20, 21, 22, 23, 24, 25, 26, 27, 28, 29] (fun a : Int × Nat => [.int .u32 a.1, .int .i64 (a.2 : Nat)]) (fun a h' => (a.2 ≤ text.size ∧ sumFrom text a.2 a.1 = sumFrom text 0 s) ∧ h' = h) (fun a => text.size - a.2) (s, 0) (by kernel_rfl) ⟨⟨Nat.zero_le _, rfl⟩, rfl⟩ ?_
  intro a g h1 hJ
  have hi := hJ.1.1
  have hv := hJ.1.2
  have hh := hJ.2
  clear hJ
  subst hh
  simp -implicitDefEqProofs only [push_cast, seval]
  with_reducible refine bcase_d (fun hb => ?_) (fun hb => ?_)
  · have hlt : a.2 < text.size := by omega
    rw [sumFrom_lt hlt] at hv
    simp -implicitDefEqProofs only [push_cast, seval]
    repeat (with_reducible refine And.intro ?_ ?_; · (first | omega | decide))
    refine WC.loopA (by kernel_rfl) [0, 19] [6, 20, 21, 22, 23, 24, 25, 26, 27, 28, 29] (fun c : Int × Nat => [.int .u32 c.1, .int .i64 (c.2 : Nat)]) (fun c h' => (c.2 ≤ 8 ∧ cbits (8 - c.2) c.1 = sum1 a.1 (byteAt text a.2).toNat) ∧ h' = h1) (fun c => 8 - c.2) (_, 0) (by kernel_rfl) ⟨⟨by show 0 ≤ 8; omega, rfl⟩, rfl⟩ ?_
    intro c g2 h2 hJ
    have hj := hJ.1.1
    have hu := hJ.1.2
    have hh := hJ.2
    clear hJ
    subst hh
    have w1 := wrapSucc (n := c.2) (by omega)
    have w2 := wrapSucc (n := a.2) (by omega)
    simp -implicitDefEqProofs only [push_cast, seval]
    with_reducible refine bcase_d (fun hb2 => ?_) (fun hb2 => ?_)
    · rw [cbits_step (by omega)] at hu
      simp -implicitDefEqProofs only [push_cast, seval]
      repeat (with_reducible refine And.intro ?_ ?_; · (first | omega | decide))
      with_reducible refine bcase_d (fun hb3 => ?_) (fun hb3 => ?_)
      · rw [bit_pos hb3] at hu
        simp -implicitDefEqProofs only [push_cast, seval]
        rw [w1]
        exact ⟨(_, c.2 + 1), by kernel_rfl, ⟨by show c.2 + 1 ≤ 8; omega, hu⟩, by show 8 - (c.2 + 1) < 8 - c.2; omega⟩
      · rw [bit_neg hb3] at hu
        simp -implicitDefEqProofs only [push_cast, seval]
        rw [w1]
        exact ⟨(_, c.2 + 1), by kernel_rfl, ⟨by show c.2 + 1 ≤ 8; omega, hu⟩, by show 8 - (c.2 + 1) < 8 - c.2; omega⟩
    · have h8 : c.2 = 8 := by omega
      rw [h8] at hu
      have hu' : c.1 = sum1 a.1 (byteAt text a.2).toNat := hu
      simp -implicitDefEqProofs only [push_cast, seval]
      rw [w2]
      exact ⟨(c.1, a.2 + 1), by kernel_rfl, ⟨by show a.2 + 1 ≤ text.size; omega, by rw [← hv, hu']⟩, by show text.size - (a.2 + 1) < text.size - a.2; omega⟩
  · rw [sumFrom_end (by omega)] at hv
    simp -implicitDefEqProofs only [push_cast, seval]
    rw [hv]
    exact ⟨rfl, Keep.refl _ _⟩
theorem SumOf_s (text : ByteArray) (hs : text.size ≤ maxLen) (h : AH) : CD Try.prog 100 [.string text] h (.int .u32 (crc text)) h := by
  refine CD.quiet ?_ (low_int _ _ _)
  refine CC.ofN Try.func100 Try.ntmps100 Try.results100 rfl (by decide) (by kernel_rfl) ?_
  simp -implicitDefEqProofs only [push_cast, seval]
  repeat' (first | with_reducible (first | exact Keep.refl _ _ | assumption | exact byte_lt _ _ | apply Keep.alloc | (refine Keep.set ?_ ?_; rotate_left; · omega) | apply Pre.alloc | apply Pre.set | exact Pre.refl _ | exact le_alloc _ | (refine Pre.keep ?_; assumption) | (refine Pre.n ?_; assumption)) | ((with_reducible (first | refine CD.to (SumMore_s _ _ ?_ _) ?_ | refine CQ.pure (fun _ => SumMore_s _ _ ?_ _) ?_ | refine bcase_d (fun hb => ?_) (fun hb => ?_) | refine bcase_mk (fun hb => ?_) (fun hb => ?_))) <;> try simp -implicitDefEqProofs only [push_cast, seval]) | with_reducible refine And.intro ?_ ?_ | omega | (simp only [alloc_n, set_n, kill_n]; omega) | (exfalso; omega))
  rfl
theorem SumOf_i (text : ByteArray) (hs : text.size ≤ maxLen) (h : AH) : CD Try.prog 102 [.string text] h (.int .u32 (crc text)) h := by
  refine CD.quiet ?_ (low_int _ _ _)
  refine CC.ofN Try.func102 Try.ntmps102 Try.results102 rfl (by decide) (by kernel_rfl) ?_
  simp -implicitDefEqProofs only [push_cast, seval]
  repeat' (first | with_reducible (first | exact Keep.refl _ _ | assumption | exact byte_lt _ _ | apply Keep.alloc | (refine Keep.set ?_ ?_; rotate_left; · omega) | apply Pre.alloc | apply Pre.set | exact Pre.refl _ | exact le_alloc _ | (refine Pre.keep ?_; assumption) | (refine Pre.n ?_; assumption)) | ((with_reducible (first | refine CD.to (SumMore_i _ _ ?_ _) ?_ | refine CQ.pure (fun _ => SumMore_i _ _ ?_ _) ?_ | refine bcase_d (fun hb => ?_) (fun hb => ?_) | refine bcase_mk (fun hb => ?_) (fun hb => ?_))) <;> try simp -implicitDefEqProofs only [push_cast, seval]) | with_reducible refine And.intro ?_ ?_ | omega | (simp only [alloc_n, set_n, kill_n]; omega) | (exfalso; omega))
  rfl
theorem Four_s (x : Int) (hx : U32 x) (h : AH) : CD Try.prog 99 [.int .u32 x] h (.string (four x)) h := by
  refine CD.quiet ?_ (low_string _ _)
  refine CC.ofN Try.func99 Try.ntmps99 Try.results99 rfl (by decide) (by kernel_rfl) ?_
  simp -implicitDefEqProofs only [push_cast, seval]
  repeat (with_reducible refine And.intro ?_ ?_; · (first | omega | decide))
  rw [sh_byte hx 3 (by decide) 24 rfl, sh_byte hx 2 (by decide) 16 rfl, sh_byte hx 1 (by decide) 8 rfl, sh_byte0 hx]
  first | exact ⟨rfl, (Keep.refl _ _).alloc (Nat.le_refl _)⟩ | exact (Keep.refl _ _).alloc (Nat.le_refl _)
theorem highFirst_c (x : Int) (hx : U32 x) (h : AH) : CD Try.prog 101 [.int .i64 x, .int .i64 4] h (.string (four x)) h := by
  refine CD.quiet ?_ (low_string _ _)
  refine CC.ofN Try.func101 Try.ntmps101 Try.results101 rfl (by decide) (by kernel_rfl) ?_
  simp -implicitDefEqProofs only [push_cast, seval]
  repeat (with_reducible refine And.intro ?_ ?_; · (first | omega | decide))
  rw [show IntKind.i64.wrap 3 = 3 from by decide]
  refine WC.loopA (by kernel_rfl) [0, 6] [11, 12, 13, 14, 15, 16, 17, 18, 19, 20, 21, 22] (fun a : Int × Int × Nat => [.int .i64 a.1, .int .i64 a.2.1]) (fun a h' => (a.2.2 ≤ 4 ∧ a.1 = sh8 a.2.2 x ∧ a.2.1 = 3 - (a.2.2 : Int)) ∧ h'.ob h.n = .cells (hfL x a.2.2) .solo h.n ∧ Pre h h' ∧ h.n < h'.n) (fun a => 4 - a.2.2) (x, 3, 0) (by kernel_rfl) ⟨⟨by show 0 ≤ 4; decide, rfl, rfl⟩, alloc_same _, (Pre.refl _).alloc _, lt_alloc _⟩ ?_
  intro a g h1 hJ
  have hj := hJ.1.1
  have hz := hJ.1.2.1
  have hi := hJ.1.2.2
  have hob := hJ.2.1
  have hp := hJ.2.2.1
  have hlt := hJ.2.2.2
  clear hJ
  have hl := hfL_len x a.2.2
  simp -implicitDefEqProofs only [push_cast, seval]
  with_reducible refine bcase_d (fun hb => ?_) (fun hb => ?_)
  · with_reducible refine nameN (3 - a.2.2) (fun k hk => ?_)
    have e1 : a.2.1 = (k : Int) := by omega
    have e2 : (k + 1 ≤ 4) = True := by simp; omega
    have w1 : IntKind.i64.wrap ((k : Int) - 1) = (k : Int) - 1 := by rw [w64 (by omega) (by omega)]
    rw [e1]
    simp -implicitDefEqProofs only [push_cast, seval, hob, hl, hlt, e2, Nat.mul_one]
    repeat' (first | with_reducible (first | exact Keep.refl _ _ | assumption | exact byte_lt _ _ | apply Keep.alloc | (refine Keep.set ?_ ?_; rotate_left; · omega) | apply Pre.alloc | apply Pre.set | exact Pre.refl _ | exact le_alloc _ | (refine Pre.keep ?_; assumption) | (refine Pre.n ?_; assumption)) | ((with_reducible (first | refine bcase_d (fun hb => ?_) (fun hb => ?_) | refine bcase_mk (fun hb => ?_) (fun hb => ?_))) <;> try simp -implicitDefEqProofs only [push_cast, seval]) | with_reducible refine And.intro ?_ ?_ | omega | (simp only [alloc_n, set_n, kill_n]; omega) | (exfalso; omega))
    rw [w1]
    refine ⟨(a.1.fdiv (2 ^ min 8 IntKind.i64.bits), (k : Int) - 1, a.2.2 + 1), by kernel_rfl, ⟨⟨by show a.2.2 + 1 ≤ 4; omega, ?_, by show (k : Int) - 1 = 3 - ((a.2.2 + 1 : Nat) : Int); omega⟩, ?_, ?_⟩, by show 4 - (a.2.2 + 1) < 4 - a.2.2; omega⟩
    · show _ = sh8 (a.2.2 + 1) x
      rw [hz]; rfl
    · rw [← hfL_set x a.2.2 (by omega), hz, hk]; rfl
    · exact hp.set (Nat.le_refl _) _
  · have h4 : a.2.2 = 4 := by omega
    rw [h4] at hob
    have hb4 := hfL_bytes hx
    have hl4 : (hfL x 4).take 4 = hfL x 4 := rfl
    have hl5 := hfL_len x 4
    simp -implicitDefEqProofs only [push_cast, seval, rd_of hob, hl5, hl4, hb4, List.drop_zero, Nat.reduceLeDiff, if_true]
    exact ⟨rfl, hp.keep⟩
theorem Sealed_s (text : ByteArray) (hs : text.size ≤ maxLen) (h : AH) : CD Try.prog 58 [.string text] h (.tuple #[.string (if text.size ≤ 20000 then sealT text else ⟨#[]⟩), .bool (decide ((text.size : Int) ≤ 20000))]) h := by
  refine CD.quiet ?_ (low_tuple (by simp [low_string, low_bool]))
  have hu := crc_u32 text
  have w1 : IntKind.i64.wrap (crc text) = crc text := by have := hu.1; have := hu.2; rw [w64 (by omega) (by omega)]
  have hz := four_size (crc text)
  refine CC.ofN Try.func58 Try.ntmps58 Try.results58 rfl (by decide) (by kernel_rfl) ?_
  simp -implicitDefEqProofs only [push_cast, seval]
  repeat' (first | with_reducible (first | exact Keep.refl _ _ | assumption | exact byte_lt _ _ | apply Keep.alloc | (refine Keep.set ?_ ?_; rotate_left; · omega) | apply Pre.alloc | apply Pre.set | exact Pre.refl _ | exact le_alloc _ | (refine Pre.keep ?_; assumption) | (refine Pre.n ?_; assumption)) | ((with_reducible (first | refine CD.to (SumOf_s _ ?_ _) ?_ | refine CQ.pure (fun _ => SumOf_s _ ?_ _) ?_ | refine CD.to (Four_s _ ?_ _) ?_ | refine CQ.pure (fun _ => Four_s _ ?_ _) ?_ | refine bcase_d (fun hb => ?_) (fun hb => ?_) | refine bcase_mk (fun hb => ?_) (fun hb => ?_))) <;> try simp -implicitDefEqProofs only [push_cast, seval, w1, hz]) | with_reducible refine And.intro ?_ ?_ | omega | (simp only [alloc_n, set_n, kill_n]; omega) | (exfalso; omega))
  · rw [if_neg (by omega), decide_eq_false (by omega)]
  · rw [if_pos (by omega), decide_eq_true (by omega)]; rfl
theorem Sealed_i (text : ByteArray) (hs : text.size ≤ maxLen) (h : AH) : CD Try.prog 60 [.string text] h (.tuple #[.string (if text.size ≤ 20000 then sealT text else ⟨#[]⟩), .bool (decide ((text.size : Int) ≤ 20000))]) h := by
  refine CD.quiet ?_ (low_tuple (by simp [low_string, low_bool]))
  have hu := crc_u32 text
  have w1 : IntKind.i64.wrap (crc text) = crc text := by have := hu.1; have := hu.2; rw [w64 (by omega) (by omega)]
  have hz := four_size (crc text)
  refine CC.ofN Try.func60 Try.ntmps60 Try.results60 rfl (by decide) (by kernel_rfl) ?_
  simp -implicitDefEqProofs only [push_cast, seval]
  repeat' (first | with_reducible (first | exact Keep.refl _ _ | assumption | exact byte_lt _ _ | apply Keep.alloc | (refine Keep.set ?_ ?_; rotate_left; · omega) | apply Pre.alloc | apply Pre.set | exact Pre.refl _ | exact le_alloc _ | (refine Pre.keep ?_; assumption) | (refine Pre.n ?_; assumption)) | ((with_reducible (first | refine CD.to (SumOf_i _ ?_ _) ?_ | refine CQ.pure (fun _ => SumOf_i _ ?_ _) ?_ | refine CD.to (highFirst_c _ ?_ _) ?_ | refine CQ.pure (fun _ => highFirst_c _ ?_ _) ?_ | refine bcase_d (fun hb => ?_) (fun hb => ?_) | refine bcase_mk (fun hb => ?_) (fun hb => ?_))) <;> try simp -implicitDefEqProofs only [push_cast, seval, w1, hz]) | with_reducible refine And.intro ?_ ?_ | omega | (simp only [alloc_n, set_n, kill_n]; omega) | (exfalso; omega))
  · rw [if_neg (by omega), decide_eq_false (by omega)]
  · rw [if_pos (by omega), decide_eq_true (by omega)]; rfl
end Go.Proofs.Ytfbcedjheempfaa
