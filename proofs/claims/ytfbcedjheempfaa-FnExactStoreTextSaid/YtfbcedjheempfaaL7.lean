/- A part of the proof of the row: contracts of functions that it reaches. Conditions: those that each theorem names. -/
import Derived.Test.YtfbcedjheempfaaL6
namespace Go.Proofs.Ytfbcedjheempfaa
open Go Go.Sim Go.Proofs
set_option linter.unusedSimpArgs false
set_option linter.unusedVariables false
set_option maxRecDepth 100000
set_option maxHeartbeats 1000000
theorem short_c (p : Nat) (s : ByteArray) (a : Nat) (bad : Bool) (hs : s.size ≤ maxLen - 16) (h : AH) (e : h.ob p = rdOb p s a bad) :
    CD Try.prog 89 [.pointer (some ⟨p, 0, none⟩)] h (.string (sT s (if bad then none else rs s a))) (h.set p (rdOb p s (nxT (if bad then none else rs s a) a) (if bad then none else rs s a).isNone)) := by
  refine CD.withBig (fun big => ?_)
  have hp : p < h.n := big.ltOb e (by simp [rdOb])
  refine CD.wrote hp ?_ (low_string _ _) (rdOb_low _ _ _ _ _)
  simp only [rdOb] at e ⊢
  cases bad with
  | true =>
    simp only [if_true, sT_none, nxT_none, Option.isNone_none]
    refine CC.ofN Try.func89 Try.ntmps89 Try.results89 rfl (by decide) (by kernel_rfl) ?_
    simp -implicitDefEqProofs only [push_cast, seval]
    refine WC.draw' (by kernel_rfl) (by kernel_rfl) (.q 0 (.q 1 (.q 2 (.q 3 (.q 4 (.q 5 (.q 6 (.q 7 (.c 8 (.q 9 (.q 10 (.q 11 (.q 12 (.q 13 (.q 14 (.q 15 (.done))))))))))))))))) (by kernel_rfl) ?_
    simp -implicitDefEqProofs only [push_cast, seval, rd_of e, rd1_of e, e, hp]
    repeat' (first | with_reducible (first | exact Keep.refl _ _ | assumption | exact byte_lt _ _ | apply Keep.alloc | (refine Keep.set ?_ ?_; rotate_left; · omega) | apply Pre.alloc | apply Pre.set | exact Pre.refl _ | exact le_alloc _ | (refine Pre.keep ?_; assumption) | (refine Pre.n ?_; assumption)) | ((with_reducible (first | refine CD.to (ReadShort_i _ _ ?_ _) ?_ | refine CQ.pure (fun _ => ReadShort_i _ _ ?_ _) ?_ | refine bcase_d (fun hb => ?_) (fun hb => ?_) | refine bcase_mk (fun hb => ?_) (fun hb => ?_))) <;> try simp -implicitDefEqProofs only [push_cast, seval, rd_of e, rd1_of e, e, hp]) | with_reducible refine And.intro ?_ ?_ | omega | (simp only [alloc_n, set_n, kill_n]; omega) | (exfalso; omega))
  | false =>
    rcases hr : rs s a with _ | ⟨n, x⟩
    · simp only [Bool.false_eq_true, if_false, sT_none, nxT_none, Option.isNone_none]
      refine CC.ofN Try.func89 Try.ntmps89 Try.results89 rfl (by decide) (by kernel_rfl) ?_
      simp -implicitDefEqProofs only [push_cast, seval]
      refine WC.draw' (by kernel_rfl) (by kernel_rfl) (.q 0 (.q 1 (.q 2 (.q 3 (.q 4 (.q 5 (.q 6 (.q 7 (.c 8 (.q 9 (.q 10 (.q 11 (.q 12 (.q 13 (.q 14 (.q 15 (.done))))))))))))))))) (by kernel_rfl) ?_
      simp -implicitDefEqProofs only [push_cast, seval, rd_of e, rd1_of e, e, hp]
      repeat' (first | with_reducible (first | exact Keep.refl _ _ | assumption | exact byte_lt _ _ | apply Keep.alloc | (refine Keep.set ?_ ?_; rotate_left; · omega) | apply Pre.alloc | apply Pre.set | exact Pre.refl _ | exact le_alloc _ | (refine Pre.keep ?_; assumption) | (refine Pre.n ?_; assumption)) | ((with_reducible (first | refine CD.to (ReadShort_i _ _ ?_ _) ?_ | refine CQ.pure (fun _ => ReadShort_i _ _ ?_ _) ?_ | refine bcase_d (fun hb => ?_) (fun hb => ?_) | refine bcase_mk (fun hb => ?_) (fun hb => ?_))) <;> try simp -implicitDefEqProofs only [push_cast, seval, rd_of e, rd1_of e, e, hp, hr]) | with_reducible refine And.intro ?_ ?_ | omega | (simp only [alloc_n, set_n, kill_n]; omega) | (exfalso; omega))
    · simp only [Bool.false_eq_true, if_false, nxT_some, Option.isNone_some]
      have hx : sX (some (n, x)) = ((x + n : Nat) : Int) := rfl
      refine CC.ofN Try.func89 Try.ntmps89 Try.results89 rfl (by decide) (by kernel_rfl) ?_
      simp -implicitDefEqProofs only [push_cast, seval]
      refine WC.draw' (by kernel_rfl) (by kernel_rfl) (.q 0 (.q 1 (.q 2 (.q 3 (.q 4 (.q 5 (.q 6 (.q 7 (.c 8 (.q 9 (.q 10 (.q 11 (.q 12 (.q 13 (.q 14 (.q 15 (.done))))))))))))))))) (by kernel_rfl) ?_
      simp -implicitDefEqProofs only [push_cast, seval, rd_of e, rd1_of e, e, hp]
      repeat' (first | with_reducible (first | exact Keep.refl _ _ | assumption | exact byte_lt _ _ | apply Keep.alloc | (refine Keep.set ?_ ?_; rotate_left; · omega) | apply Pre.alloc | apply Pre.set | exact Pre.refl _ | exact le_alloc _ | (refine Pre.keep ?_; assumption) | (refine Pre.n ?_; assumption)) | ((with_reducible (first | refine CD.to (ReadShort_i _ _ ?_ _) ?_ | refine CQ.pure (fun _ => ReadShort_i _ _ ?_ _) ?_ | refine bcase_d (fun hb => ?_) (fun hb => ?_) | refine bcase_mk (fun hb => ?_) (fun hb => ?_))) <;> try simp -implicitDefEqProofs only [push_cast, seval, rd_of e, rd1_of e, e, hp, hr, hx]) | with_reducible refine And.intro ?_ ?_ | omega | (simp only [alloc_n, set_n, kill_n]; omega) | (exfalso; omega))
theorem l07ReadShort_c (p : Nat) (s : ByteArray) (a : Nat) (bad : Bool) (hs : s.size ≤ maxLen - 16) (h : AH) (e : h.ob p = rdOb p s a bad) :
    CD Try.prog 87 [.pointer (some ⟨p, 0, none⟩)] h (.string (sT s (if bad then none else rs s a))) (h.set p (rdOb p s (nxT (if bad then none else rs s a) a) (if bad then none else rs s a).isNone)) := by
  refine CD.withBig (fun big => ?_)
  have hp : p < h.n := big.ltOb e (by simp [rdOb])
  refine CD.wrote hp ?_ (low_string _ _) (rdOb_low _ _ _ _ _)
  simp only [rdOb] at e ⊢
  cases bad with
  | true =>
    simp only [if_true, sT_none, nxT_none, Option.isNone_none]
    refine CC.ofN Try.func87 Try.ntmps87 Try.results87 rfl (by decide) (by kernel_rfl) ?_
    simp -implicitDefEqProofs only [push_cast, seval]
    refine WC.draw' (by kernel_rfl) (by kernel_rfl) (.q 0 (.q 1 (.q 2 (.q 3 (.q 4 (.q 5 (.q 6 (.q 7 (.c 8 (.q 9 (.q 10 (.q 11 (.q 12 (.q 13 (.q 14 (.q 15 (.done))))))))))))))))) (by kernel_rfl) ?_
    simp -implicitDefEqProofs only [push_cast, seval, rd_of e, rd1_of e, e, hp]
    repeat' (first | with_reducible (first | exact Keep.refl _ _ | assumption | exact byte_lt _ _ | apply Keep.alloc | (refine Keep.set ?_ ?_; rotate_left; · omega) | apply Pre.alloc | apply Pre.set | exact Pre.refl _ | exact le_alloc _ | (refine Pre.keep ?_; assumption) | (refine Pre.n ?_; assumption)) | ((with_reducible (first | refine CD.to (ReadShort_s _ _ ?_ _) ?_ | refine CQ.pure (fun _ => ReadShort_s _ _ ?_ _) ?_ | refine bcase_d (fun hb => ?_) (fun hb => ?_) | refine bcase_mk (fun hb => ?_) (fun hb => ?_))) <;> try simp -implicitDefEqProofs only [push_cast, seval, rd_of e, rd1_of e, e, hp]) | with_reducible refine And.intro ?_ ?_ | omega | (simp only [alloc_n, set_n, kill_n]; omega) | (exfalso; omega))
  | false =>
    rcases hr : rs s a with _ | ⟨n, x⟩
    · simp only [Bool.false_eq_true, if_false, sT_none, nxT_none, Option.isNone_none]
      refine CC.ofN Try.func87 Try.ntmps87 Try.results87 rfl (by decide) (by kernel_rfl) ?_
      simp -implicitDefEqProofs only [push_cast, seval]
      refine WC.draw' (by kernel_rfl) (by kernel_rfl) (.q 0 (.q 1 (.q 2 (.q 3 (.q 4 (.q 5 (.q 6 (.q 7 (.c 8 (.q 9 (.q 10 (.q 11 (.q 12 (.q 13 (.q 14 (.q 15 (.done))))))))))))))))) (by kernel_rfl) ?_
      simp -implicitDefEqProofs only [push_cast, seval, rd_of e, rd1_of e, e, hp]
      repeat' (first | with_reducible (first | exact Keep.refl _ _ | assumption | exact byte_lt _ _ | apply Keep.alloc | (refine Keep.set ?_ ?_; rotate_left; · omega) | apply Pre.alloc | apply Pre.set | exact Pre.refl _ | exact le_alloc _ | (refine Pre.keep ?_; assumption) | (refine Pre.n ?_; assumption)) | ((with_reducible (first | refine CD.to (ReadShort_s _ _ ?_ _) ?_ | refine CQ.pure (fun _ => ReadShort_s _ _ ?_ _) ?_ | refine bcase_d (fun hb => ?_) (fun hb => ?_) | refine bcase_mk (fun hb => ?_) (fun hb => ?_))) <;> try simp -implicitDefEqProofs only [push_cast, seval, rd_of e, rd1_of e, e, hp, hr]) | with_reducible refine And.intro ?_ ?_ | omega | (simp only [alloc_n, set_n, kill_n]; omega) | (exfalso; omega))
    · simp only [Bool.false_eq_true, if_false, nxT_some, Option.isNone_some]
      have hx : sX (some (n, x)) = ((x + n : Nat) : Int) := rfl
      refine CC.ofN Try.func87 Try.ntmps87 Try.results87 rfl (by decide) (by kernel_rfl) ?_
      simp -implicitDefEqProofs only [push_cast, seval]
      refine WC.draw' (by kernel_rfl) (by kernel_rfl) (.q 0 (.q 1 (.q 2 (.q 3 (.q 4 (.q 5 (.q 6 (.q 7 (.c 8 (.q 9 (.q 10 (.q 11 (.q 12 (.q 13 (.q 14 (.q 15 (.done))))))))))))))))) (by kernel_rfl) ?_
      simp -implicitDefEqProofs only [push_cast, seval, rd_of e, rd1_of e, e, hp]
      repeat' (first | with_reducible (first | exact Keep.refl _ _ | assumption | exact byte_lt _ _ | apply Keep.alloc | (refine Keep.set ?_ ?_; rotate_left; · omega) | apply Pre.alloc | apply Pre.set | exact Pre.refl _ | exact le_alloc _ | (refine Pre.keep ?_; assumption) | (refine Pre.n ?_; assumption)) | ((with_reducible (first | refine CD.to (ReadShort_s _ _ ?_ _) ?_ | refine CQ.pure (fun _ => ReadShort_s _ _ ?_ _) ?_ | refine bcase_d (fun hb => ?_) (fun hb => ?_) | refine bcase_mk (fun hb => ?_) (fun hb => ?_))) <;> try simp -implicitDefEqProofs only [push_cast, seval, rd_of e, rd1_of e, e, hp, hr, hx]) | with_reducible refine And.intro ?_ ?_ | omega | (simp only [alloc_n, set_n, kill_n]; omega) | (exfalso; omega))
theorem count_c (p : Nat) (s : ByteArray) (a : Nat) (bad : Bool) (most : Int) (hm : 0 ≤ most) (hs : s.size ≤ maxLen - 16) (h : AH) (e : h.ob p = rdOb p s a bad) :
    CD Try.prog 88 [.pointer (some ⟨p, 0, none⟩), .int .i64 most] h (.int .i64 (if most < oN (if bad then none else rv s a) then 0 else oN (if bad then none else rv s a)))
      (h.set p (rdOb p s (nxN (if bad then none else rv s a) a) ((if bad then none else rv s a).isNone || decide (most < oN (if bad then none else rv s a))))) := by
  refine CD.withBig (fun big => ?_)
  have hp : p < h.n := big.ltOb e (by simp [rdOb])
  refine CD.wrote hp ?_ (low_int _ _ _) (rdOb_low _ _ _ _ _)
  generalize hq : (if bad then none else rv s a) = q
  have hn := number_c p s a bad hs
  rw [hq] at hn
  simp only [rdOb] at hn e ⊢
  by_cases hc : most < oN q
  · rw [if_pos hc, decide_eq_true hc]
    refine CC.ofN Try.func88 Try.ntmps88 Try.results88 rfl (by decide) (by kernel_rfl) ?_
    simp -implicitDefEqProofs only [push_cast, seval]
    repeat' (first | with_reducible (first | exact Keep.refl _ _ | assumption | exact byte_lt _ _ | apply Keep.alloc | (refine Keep.set ?_ ?_; rotate_left; · omega) | apply Pre.alloc | apply Pre.set | exact Pre.refl _ | exact le_alloc _ | (refine Pre.keep ?_; assumption) | (refine Pre.n ?_; assumption)) | ((with_reducible (first | refine CD.to (hn _ e) ?_ | refine CQ.pure (fun _ => hn _ e) ?_ | refine bcase_d (fun hb => ?_) (fun hb => ?_) | refine bcase_mk (fun hb => ?_) (fun hb => ?_))) <;> try simp -implicitDefEqProofs only [push_cast, seval, rd_of e, rd1_of e, e, hp]) | with_reducible refine And.intro ?_ ?_ | omega | (simp only [alloc_n, set_n, kill_n]; omega) | (exfalso; omega))
  · rw [if_neg hc, decide_eq_false hc]
    refine CC.ofN Try.func88 Try.ntmps88 Try.results88 rfl (by decide) (by kernel_rfl) ?_
    simp -implicitDefEqProofs only [push_cast, seval]
    repeat' (first | with_reducible (first | exact Keep.refl _ _ | assumption | exact byte_lt _ _ | apply Keep.alloc | (refine Keep.set ?_ ?_; rotate_left; · omega) | apply Pre.alloc | apply Pre.set | exact Pre.refl _ | exact le_alloc _ | (refine Pre.keep ?_; assumption) | (refine Pre.n ?_; assumption)) | ((with_reducible (first | refine CD.to (hn _ e) ?_ | refine CQ.pure (fun _ => hn _ e) ?_ | refine bcase_d (fun hb => ?_) (fun hb => ?_) | refine bcase_mk (fun hb => ?_) (fun hb => ?_))) <;> try simp -implicitDefEqProofs only [push_cast, seval, rd_of e, rd1_of e, e, hp]) | with_reducible refine And.intro ?_ ?_ | omega | (simp only [alloc_n, set_n, kill_n]; omega) | (exfalso; omega))
theorem done_c (p : Nat) (s : ByteArray) (a : Nat) (bad : Bool) (h : AH) (e : h.ob p = rdOb p s a bad) :
    CD Try.prog 90 [.pointer (some ⟨p, 0, none⟩)] h (.bool (!bad && decide ((a : Int) = s.size))) h := by
  refine CD.withBig (fun big => ?_)
  have hp : p < h.n := big.ltOb e (by simp [rdOb])
  refine CD.quiet ?_ (low_bool _ _)
  simp only [rdOb] at e
  refine CC.ofN Try.func90 Try.ntmps90 Try.results90 rfl (by decide) (by kernel_rfl) ?_
  simp -implicitDefEqProofs only [push_cast, seval]
  refine WC.draw' (by kernel_rfl) (by kernel_rfl) (.q 0 (.q 1 (.q 2 (.q 3 (.q 4 (.q 5 (.q 6 (.q 7 (.q 8 (.q 9 (.q 10 (.q 11 (.q 12 (.q 13 (.q 14 (.q 15 (.q 16 (.q 17 (.done))))))))))))))))))) (by kernel_rfl) ?_
  simp -implicitDefEqProofs only [push_cast, seval, rd_of e, rd1_of e, e, hp]
  repeat' (first | with_reducible (first | exact Keep.refl _ _ | assumption | exact byte_lt _ _ | apply Keep.alloc | (refine Keep.set ?_ ?_; rotate_left; · omega) | apply Pre.alloc | apply Pre.set | exact Pre.refl _ | exact le_alloc _ | (refine Pre.keep ?_; assumption) | (refine Pre.n ?_; assumption)) | ((with_reducible (first | refine bcase_d (fun hb => ?_) (fun hb => ?_) | refine bcase_mk (fun hb => ?_) (fun hb => ?_))) <;> try simp -implicitDefEqProofs only [push_cast, seval, rd_of e, rd1_of e, e, hp]) | with_reducible refine And.intro ?_ ?_ | omega | (simp only [alloc_n, set_n, kill_n]; omega) | (exfalso; omega))
  all_goals simp [*]
theorem one_c (p : Nat) (s : ByteArray) (a : Nat) (bad : Bool) (hs : s.size ≤ maxLen - 16) (h : AH) (e : h.ob p = rdOb p s a bad) :
    CD Try.prog 67 [.pointer (some ⟨p, 0, none⟩)] h (.int .i64 (if bad = false ∧ a < s.size then (bN s a : Int) else 0)) (h.set p (rdOb p s (if bad = false ∧ a < s.size then a + 1 else a) (!decide (bad = false ∧ a < s.size)))) := by
  refine CD.withBig (fun big => ?_)
  have hp : p < h.n := big.ltOb e (by simp [rdOb])
  have hm := maxLen_eq
  refine CD.wrote hp ?_ (low_int _ _ _) (rdOb_low _ _ _ _ _)
  simp only [rdOb] at e ⊢
  by_cases hc : bad = false ∧ a < s.size
  · rw [if_pos hc, if_pos hc, decide_eq_true hc]
    obtain ⟨rfl, ha⟩ := hc
    have w1 : IntKind.i64.wrap ((a : Int) + 1) = ((a + 1 : Nat) : Int) := wrapSucc (by omega)
    have w2 : IntKind.i64.wrap ((a : Int) + 1 - 1) = (a : Int) := by rw [w64 (by omega) (by omega)]; omega
    have w3 : IntKind.i64.wrap ((byteAt s a).toNat : Int) = (byteAt s a).toNat := by have := (byteAt s a).toNat_lt; rw [w64 (by omega) (by omega)]
    refine CC.ofN Try.func67 Try.ntmps67 Try.results67 rfl (by decide) (by kernel_rfl) ?_
    simp -implicitDefEqProofs only [push_cast, seval]
    refine WC.draw' (by kernel_rfl) (by kernel_rfl) (.q 0 (.q 1 (.q 2 (.q 3 (.q 4 (.q 5 (.q 6 (.q 7 (.q 8 (.q 9 (.q 10 (.q 11 (.q 12 (.q 13 (.q 14 (.q 15 (.done))))))))))))))))) (by kernel_rfl) ?_
    simp -implicitDefEqProofs only [push_cast, seval, rd_of e, rd1_of e, e, hp]
    repeat' (first | with_reducible (first | exact Keep.refl _ _ | assumption | exact byte_lt _ _ | apply Keep.alloc | (refine Keep.set ?_ ?_; rotate_left; · omega) | apply Pre.alloc | apply Pre.set | exact Pre.refl _ | exact le_alloc _ | (refine Pre.keep ?_; assumption) | (refine Pre.n ?_; assumption)) | ((with_reducible (first | refine bcase_d (fun hb => ?_) (fun hb => ?_) | refine bcase_mk (fun hb => ?_) (fun hb => ?_))) <;> try simp -implicitDefEqProofs only [push_cast, seval, rd_of e, rd1_of e, e, hp, w1, w2, w3]) | with_reducible refine And.intro ?_ ?_ | omega | (simp only [alloc_n, set_n, kill_n]; omega) | (exfalso; omega))
    refine WC.draw' (by kernel_rfl) (by kernel_rfl) (.q 0 (.q 1 (.q 2 (.q 3 (.q 4 (.q 5 (.q 6 (.q 7 (.q 8 (.q 9 (.q 10 (.q 11 (.done))))))))))))) (by kernel_rfl) ?_
    simp -implicitDefEqProofs only [push_cast, seval, rd_of e, rd1_of e, e, hp, w2, w3]
    repeat' (first | with_reducible (first | exact Keep.refl _ _ | assumption | exact byte_lt _ _ | apply Keep.alloc | (refine Keep.set ?_ ?_; rotate_left; · omega) | apply Pre.alloc | apply Pre.set | exact Pre.refl _ | exact le_alloc _ | (refine Pre.keep ?_; assumption) | (refine Pre.n ?_; assumption)) | ((with_reducible (first | refine bcase_d (fun hb => ?_) (fun hb => ?_) | refine bcase_mk (fun hb => ?_) (fun hb => ?_))) <;> try simp -implicitDefEqProofs only [push_cast, seval, rd_of e, rd1_of e, e, hp, w1, w2, w3]) | with_reducible refine And.intro ?_ ?_ | omega | (simp only [alloc_n, set_n, kill_n]; omega) | (exfalso; omega))
    rfl
  · rw [if_neg hc, if_neg hc, decide_eq_false hc]
    refine CC.ofN Try.func67 Try.ntmps67 Try.results67 rfl (by decide) (by kernel_rfl) ?_
    simp -implicitDefEqProofs only [push_cast, seval]
    refine WC.draw' (by kernel_rfl) (by kernel_rfl) (.q 0 (.q 1 (.q 2 (.q 3 (.q 4 (.q 5 (.q 6 (.q 7 (.q 8 (.q 9 (.q 10 (.q 11 (.q 12 (.q 13 (.q 14 (.q 15 (.done))))))))))))))))) (by kernel_rfl) ?_
    simp -implicitDefEqProofs only [push_cast, seval, rd_of e, rd1_of e, e, hp]
    repeat' (first | with_reducible (first | exact Keep.refl _ _ | assumption | exact byte_lt _ _ | apply Keep.alloc | (refine Keep.set ?_ ?_; rotate_left; · omega) | apply Pre.alloc | apply Pre.set | exact Pre.refl _ | exact le_alloc _ | (refine Pre.keep ?_; assumption) | (refine Pre.n ?_; assumption)) | ((with_reducible (first | refine bcase_d (fun hb => ?_) (fun hb => ?_) | refine bcase_mk (fun hb => ?_) (fun hb => ?_))) <;> try simp -implicitDefEqProofs only [push_cast, seval, rd_of e, rd1_of e, e, hp]) | with_reducible refine And.intro ?_ ?_ | omega | (simp only [alloc_n, set_n, kill_n]; omega) | (exfalso; omega))
    all_goals exact absurd ⟨by assumption, by omega⟩ hc
end Go.Proofs.Ytfbcedjheempfaa
