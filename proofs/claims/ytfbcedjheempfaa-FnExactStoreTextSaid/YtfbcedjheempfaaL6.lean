/- A part of the proof of the row: contracts of functions that it reaches. Conditions: those that each theorem names. -/
import Derived.Test.YtfbcedjheempfaaL5
namespace Go.Proofs.Ytfbcedjheempfaa
open Go Go.Sim Go.Proofs
set_option linter.unusedSimpArgs false
set_option linter.unusedVariables false
set_option maxRecDepth 100000
set_option maxHeartbeats 1000000
theorem ReadShort_i (s : ByteArray) (a : Int) (hs : s.size ≤ maxLen - 16) (h : AH) : CD Try.prog 122 [.string s, .int .i64 a] h (.tuple #[.string (sT s (rs s a)), .int .i64 (sX (rs s a)), .bool (rs s a).isSome]) h := by
  refine CD.quiet ?_ (low_tuple (by simp [low_int, low_bool, low_string]))
  have hm := maxLen_eq
  rcases hr : rv s a with _ | ⟨n, x⟩
  · have e : rs s a = none := by simp [rs, hr]
    rw [e]
    refine CC.ofN Try.func122 Try.ntmps122 Try.results122 rfl (by decide) (by kernel_rfl) ?_
    simp -implicitDefEqProofs only [push_cast, seval]
    repeat' (first | with_reducible (first | exact Keep.refl _ _ | assumption | exact byte_lt _ _ | apply Keep.alloc | (refine Keep.set ?_ ?_; rotate_left; · omega) | apply Pre.alloc | apply Pre.set | exact Pre.refl _ | exact le_alloc _ | (refine Pre.keep ?_; assumption) | (refine Pre.n ?_; assumption)) | ((with_reducible (first | refine CD.to (ReadVar_i _ _ ?_ _) ?_ | refine CQ.pure (fun _ => ReadVar_i _ _ ?_ _) ?_ | refine bcase_d (fun hb => ?_) (fun hb => ?_) | refine bcase_mk (fun hb => ?_) (fun hb => ?_))) <;> try simp -implicitDefEqProofs only [push_cast, seval, hr]) | with_reducible refine And.intro ?_ ?_ | omega | (simp only [alloc_n, set_n, kill_n]; omega) | (exfalso; omega))
  · have hx := rv_some hr
    simp only at hx
    have e : rs s a = if 20000 < n ∨ s.size < x + n then none else some (n, x) := by simp [rs, hr]
    have w1 : IntKind.i64.wrap ((s.size : Int) - (x : Int)) = (s.size : Int) - (x : Int) := by rw [w64 (by omega) (by omega)]
    rw [e]
    by_cases hc : 20000 < n ∨ s.size < x + n
    · rw [if_pos hc]
      refine CC.ofN Try.func122 Try.ntmps122 Try.results122 rfl (by decide) (by kernel_rfl) ?_
      simp -implicitDefEqProofs only [push_cast, seval]
      repeat' (first | with_reducible (first | exact Keep.refl _ _ | assumption | exact byte_lt _ _ | apply Keep.alloc | (refine Keep.set ?_ ?_; rotate_left; · omega) | apply Pre.alloc | apply Pre.set | exact Pre.refl _ | exact le_alloc _ | (refine Pre.keep ?_; assumption) | (refine Pre.n ?_; assumption)) | ((with_reducible (first | refine CD.to (ReadVar_i _ _ ?_ _) ?_ | refine CQ.pure (fun _ => ReadVar_i _ _ ?_ _) ?_ | refine bcase_d (fun hb => ?_) (fun hb => ?_) | refine bcase_mk (fun hb => ?_) (fun hb => ?_))) <;> try simp -implicitDefEqProofs only [push_cast, seval, hr, w1]) | with_reducible refine And.intro ?_ ?_ | omega | (simp only [alloc_n, set_n, kill_n]; omega) | (exfalso; omega))
    · rw [if_neg hc]
      have w2 : IntKind.i64.wrap ((x : Int) + (n : Int)) = (x : Int) + (n : Int) := by rw [w64 (by omega) (by omega)]
      refine CC.ofN Try.func122 Try.ntmps122 Try.results122 rfl (by decide) (by kernel_rfl) ?_
      simp -implicitDefEqProofs only [push_cast, seval]
      repeat' (first | with_reducible (first | exact Keep.refl _ _ | assumption | exact byte_lt _ _ | apply Keep.alloc | (refine Keep.set ?_ ?_; rotate_left; · omega) | apply Pre.alloc | apply Pre.set | exact Pre.refl _ | exact le_alloc _ | (refine Pre.keep ?_; assumption) | (refine Pre.n ?_; assumption)) | ((with_reducible (first | refine CD.to (ReadVar_i _ _ ?_ _) ?_ | refine CQ.pure (fun _ => ReadVar_i _ _ ?_ _) ?_ | refine bcase_d (fun hb => ?_) (fun hb => ?_) | refine bcase_mk (fun hb => ?_) (fun hb => ?_))) <;> try simp -implicitDefEqProofs only [push_cast, seval, hr, w1, w2]) | with_reducible refine And.intro ?_ ?_ | omega | (simp only [alloc_n, set_n, kill_n]; omega) | (exfalso; omega))
      rw [show ((x : Int) + (n : Int)).toNat = x + n by omega]; rfl
theorem ReadShort_s (s : ByteArray) (a : Int) (hs : s.size ≤ maxLen - 16) (h : AH) : CD Try.prog 121 [.string s, .int .i64 a] h (.tuple #[.string (sT s (rs s a)), .int .i64 (sX (rs s a)), .bool (rs s a).isSome]) h := by
  refine CD.quiet ?_ (low_tuple (by simp [low_int, low_bool, low_string]))
  have hm := maxLen_eq
  rcases hr : rv s a with _ | ⟨n, x⟩
  · have e : rs s a = none := by simp [rs, hr]
    rw [e]
    refine CC.ofN Try.func121 Try.ntmps121 Try.results121 rfl (by decide) (by kernel_rfl) ?_
    simp -implicitDefEqProofs only [push_cast, seval]
    repeat' (first | with_reducible (first | exact Keep.refl _ _ | assumption | exact byte_lt _ _ | apply Keep.alloc | (refine Keep.set ?_ ?_; rotate_left; · omega) | apply Pre.alloc | apply Pre.set | exact Pre.refl _ | exact le_alloc _ | (refine Pre.keep ?_; assumption) | (refine Pre.n ?_; assumption)) | ((with_reducible (first | refine CD.to (ReadVar_s _ _ ?_ _) ?_ | refine CQ.pure (fun _ => ReadVar_s _ _ ?_ _) ?_ | refine bcase_d (fun hb => ?_) (fun hb => ?_) | refine bcase_mk (fun hb => ?_) (fun hb => ?_))) <;> try simp -implicitDefEqProofs only [push_cast, seval, hr]) | with_reducible refine And.intro ?_ ?_ | omega | (simp only [alloc_n, set_n, kill_n]; omega) | (exfalso; omega))
  · have hx := rv_some hr
    simp only at hx
    have e : rs s a = if 20000 < n ∨ s.size < x + n then none else some (n, x) := by simp [rs, hr]
    have w1 : IntKind.i64.wrap ((s.size : Int) - (x : Int)) = (s.size : Int) - (x : Int) := by rw [w64 (by omega) (by omega)]
    rw [e]
    by_cases hc : 20000 < n ∨ s.size < x + n
    · rw [if_pos hc]
      refine CC.ofN Try.func121 Try.ntmps121 Try.results121 rfl (by decide) (by kernel_rfl) ?_
      simp -implicitDefEqProofs only [push_cast, seval]
      repeat' (first | with_reducible (first | exact Keep.refl _ _ | assumption | exact byte_lt _ _ | apply Keep.alloc | (refine Keep.set ?_ ?_; rotate_left; · omega) | apply Pre.alloc | apply Pre.set | exact Pre.refl _ | exact le_alloc _ | (refine Pre.keep ?_; assumption) | (refine Pre.n ?_; assumption)) | ((with_reducible (first | refine CD.to (ReadVar_s _ _ ?_ _) ?_ | refine CQ.pure (fun _ => ReadVar_s _ _ ?_ _) ?_ | refine bcase_d (fun hb => ?_) (fun hb => ?_) | refine bcase_mk (fun hb => ?_) (fun hb => ?_))) <;> try simp -implicitDefEqProofs only [push_cast, seval, hr, w1]) | with_reducible refine And.intro ?_ ?_ | omega | (simp only [alloc_n, set_n, kill_n]; omega) | (exfalso; omega))
    · rw [if_neg hc]
      have w2 : IntKind.i64.wrap ((x : Int) + (n : Int)) = (x : Int) + (n : Int) := by rw [w64 (by omega) (by omega)]
      refine CC.ofN Try.func121 Try.ntmps121 Try.results121 rfl (by decide) (by kernel_rfl) ?_
      simp -implicitDefEqProofs only [push_cast, seval]
      repeat' (first | with_reducible (first | exact Keep.refl _ _ | assumption | exact byte_lt _ _ | apply Keep.alloc | (refine Keep.set ?_ ?_; rotate_left; · omega) | apply Pre.alloc | apply Pre.set | exact Pre.refl _ | exact le_alloc _ | (refine Pre.keep ?_; assumption) | (refine Pre.n ?_; assumption)) | ((with_reducible (first | refine CD.to (ReadVar_s _ _ ?_ _) ?_ | refine CQ.pure (fun _ => ReadVar_s _ _ ?_ _) ?_ | refine bcase_d (fun hb => ?_) (fun hb => ?_) | refine bcase_mk (fun hb => ?_) (fun hb => ?_))) <;> try simp -implicitDefEqProofs only [push_cast, seval, hr, w1, w2]) | with_reducible refine And.intro ?_ ?_ | omega | (simp only [alloc_n, set_n, kill_n]; omega) | (exfalso; omega))
      rw [show ((x : Int) + (n : Int)).toNat = x + n by omega]; rfl
theorem number_c (p : Nat) (s : ByteArray) (a : Nat) (bad : Bool) (hs : s.size ≤ maxLen - 16) (h : AH) (e : h.ob p = rdOb p s a bad) :
    CD Try.prog 68 [.pointer (some ⟨p, 0, none⟩)] h (.int .i64 (oN (if bad then none else rv s a))) (h.set p (rdOb p s (nxN (if bad then none else rv s a) a) (if bad then none else rv s a).isNone)) := by
  refine CD.withBig (fun big => ?_)
  have hp : p < h.n := big.ltOb e (by simp [rdOb])
  refine CD.wrote hp ?_ (low_int _ _ _) (rdOb_low _ _ _ _ _)
  simp only [rdOb] at e ⊢
  cases bad with
  | true =>
    simp only [if_true, oN_none, nxN_none, Option.isNone_none]
    refine CC.ofN Try.func68 Try.ntmps68 Try.results68 rfl (by decide) (by kernel_rfl) ?_
    simp -implicitDefEqProofs only [push_cast, seval]
    refine WC.draw' (by kernel_rfl) (by kernel_rfl) (.q 0 (.q 1 (.q 2 (.q 3 (.q 4 (.q 5 (.q 6 (.q 7 (.c 8 (.q 9 (.q 10 (.q 11 (.q 12 (.q 13 (.q 14 (.q 15 (.done))))))))))))))))) (by kernel_rfl) ?_
    simp -implicitDefEqProofs only [push_cast, seval, rd_of e, rd1_of e, e, hp]
    repeat' (first | with_reducible (first | exact Keep.refl _ _ | assumption | exact byte_lt _ _ | apply Keep.alloc | (refine Keep.set ?_ ?_; rotate_left; · omega) | apply Pre.alloc | apply Pre.set | exact Pre.refl _ | exact le_alloc _ | (refine Pre.keep ?_; assumption) | (refine Pre.n ?_; assumption)) | ((with_reducible (first | refine CD.to (ReadVar_i _ _ ?_ _) ?_ | refine CQ.pure (fun _ => ReadVar_i _ _ ?_ _) ?_ | refine bcase_d (fun hb => ?_) (fun hb => ?_) | refine bcase_mk (fun hb => ?_) (fun hb => ?_))) <;> try simp -implicitDefEqProofs only [push_cast, seval, rd_of e, rd1_of e, e, hp]) | with_reducible refine And.intro ?_ ?_ | omega | (simp only [alloc_n, set_n, kill_n]; omega) | (exfalso; omega))
  | false =>
    rcases hr : rv s a with _ | ⟨n, x⟩
    · simp only [Bool.false_eq_true, if_false, oN_none, nxN_none, Option.isNone_none, oN_some, nxN_some, Option.isNone_some]
      refine CC.ofN Try.func68 Try.ntmps68 Try.results68 rfl (by decide) (by kernel_rfl) ?_
      simp -implicitDefEqProofs only [push_cast, seval]
      refine WC.draw' (by kernel_rfl) (by kernel_rfl) (.q 0 (.q 1 (.q 2 (.q 3 (.q 4 (.q 5 (.q 6 (.q 7 (.c 8 (.q 9 (.q 10 (.q 11 (.q 12 (.q 13 (.q 14 (.q 15 (.done))))))))))))))))) (by kernel_rfl) ?_
      simp -implicitDefEqProofs only [push_cast, seval, rd_of e, rd1_of e, e, hp]
      repeat' (first | with_reducible (first | exact Keep.refl _ _ | assumption | exact byte_lt _ _ | apply Keep.alloc | (refine Keep.set ?_ ?_; rotate_left; · omega) | apply Pre.alloc | apply Pre.set | exact Pre.refl _ | exact le_alloc _ | (refine Pre.keep ?_; assumption) | (refine Pre.n ?_; assumption)) | ((with_reducible (first | refine CD.to (ReadVar_i _ _ ?_ _) ?_ | refine CQ.pure (fun _ => ReadVar_i _ _ ?_ _) ?_ | refine bcase_d (fun hb => ?_) (fun hb => ?_) | refine bcase_mk (fun hb => ?_) (fun hb => ?_))) <;> try simp -implicitDefEqProofs only [push_cast, seval, rd_of e, rd1_of e, e, hp, hr]) | with_reducible refine And.intro ?_ ?_ | omega | (simp only [alloc_n, set_n, kill_n]; omega) | (exfalso; omega))
    · simp only [Bool.false_eq_true, if_false, oN_none, nxN_none, Option.isNone_none, oN_some, nxN_some, Option.isNone_some]
      refine CC.ofN Try.func68 Try.ntmps68 Try.results68 rfl (by decide) (by kernel_rfl) ?_
      simp -implicitDefEqProofs only [push_cast, seval]
      refine WC.draw' (by kernel_rfl) (by kernel_rfl) (.q 0 (.q 1 (.q 2 (.q 3 (.q 4 (.q 5 (.q 6 (.q 7 (.c 8 (.q 9 (.q 10 (.q 11 (.q 12 (.q 13 (.q 14 (.q 15 (.done))))))))))))))))) (by kernel_rfl) ?_
      simp -implicitDefEqProofs only [push_cast, seval, rd_of e, rd1_of e, e, hp]
      repeat' (first | with_reducible (first | exact Keep.refl _ _ | assumption | exact byte_lt _ _ | apply Keep.alloc | (refine Keep.set ?_ ?_; rotate_left; · omega) | apply Pre.alloc | apply Pre.set | exact Pre.refl _ | exact le_alloc _ | (refine Pre.keep ?_; assumption) | (refine Pre.n ?_; assumption)) | ((with_reducible (first | refine CD.to (ReadVar_i _ _ ?_ _) ?_ | refine CQ.pure (fun _ => ReadVar_i _ _ ?_ _) ?_ | refine bcase_d (fun hb => ?_) (fun hb => ?_) | refine bcase_mk (fun hb => ?_) (fun hb => ?_))) <;> try simp -implicitDefEqProofs only [push_cast, seval, rd_of e, rd1_of e, e, hp, hr]) | with_reducible refine And.intro ?_ ?_ | omega | (simp only [alloc_n, set_n, kill_n]; omega) | (exfalso; omega))
theorem l07Var_c (p : Nat) (s : ByteArray) (a : Nat) (bad : Bool) (hs : s.size ≤ maxLen - 16) (h : AH) (e : h.ob p = rdOb p s a bad) :
    CD Try.prog 65 [.pointer (some ⟨p, 0, none⟩)] h (.int .i64 (oN (if bad then none else rv s a))) (h.set p (rdOb p s (nxN (if bad then none else rv s a) a) (if bad then none else rv s a).isNone)) := by
  refine CD.withBig (fun big => ?_)
  have hp : p < h.n := big.ltOb e (by simp [rdOb])
  refine CD.wrote hp ?_ (low_int _ _ _) (rdOb_low _ _ _ _ _)
  simp only [rdOb] at e ⊢
  cases bad with
  | true =>
    simp only [if_true, oN_none, nxN_none, Option.isNone_none]
    refine CC.ofN Try.func65 Try.ntmps65 Try.results65 rfl (by decide) (by kernel_rfl) ?_
    simp -implicitDefEqProofs only [push_cast, seval]
    refine WC.draw' (by kernel_rfl) (by kernel_rfl) (.q 0 (.q 1 (.q 2 (.q 3 (.q 4 (.q 5 (.q 6 (.q 7 (.c 8 (.q 9 (.q 10 (.q 11 (.q 12 (.q 13 (.q 14 (.q 15 (.done))))))))))))))))) (by kernel_rfl) ?_
    simp -implicitDefEqProofs only [push_cast, seval, rd_of e, rd1_of e, e, hp]
    repeat' (first | with_reducible (first | exact Keep.refl _ _ | assumption | exact byte_lt _ _ | apply Keep.alloc | (refine Keep.set ?_ ?_; rotate_left; · omega) | apply Pre.alloc | apply Pre.set | exact Pre.refl _ | exact le_alloc _ | (refine Pre.keep ?_; assumption) | (refine Pre.n ?_; assumption)) | ((with_reducible (first | refine CD.to (ReadVar_s _ _ ?_ _) ?_ | refine CQ.pure (fun _ => ReadVar_s _ _ ?_ _) ?_ | refine bcase_d (fun hb => ?_) (fun hb => ?_) | refine bcase_mk (fun hb => ?_) (fun hb => ?_))) <;> try simp -implicitDefEqProofs only [push_cast, seval, rd_of e, rd1_of e, e, hp]) | with_reducible refine And.intro ?_ ?_ | omega | (simp only [alloc_n, set_n, kill_n]; omega) | (exfalso; omega))
  | false =>
    rcases hr : rv s a with _ | ⟨n, x⟩
    · simp only [Bool.false_eq_true, if_false, oN_none, nxN_none, Option.isNone_none, oN_some, nxN_some, Option.isNone_some]
      refine CC.ofN Try.func65 Try.ntmps65 Try.results65 rfl (by decide) (by kernel_rfl) ?_
      simp -implicitDefEqProofs only [push_cast, seval]
      refine WC.draw' (by kernel_rfl) (by kernel_rfl) (.q 0 (.q 1 (.q 2 (.q 3 (.q 4 (.q 5 (.q 6 (.q 7 (.c 8 (.q 9 (.q 10 (.q 11 (.q 12 (.q 13 (.q 14 (.q 15 (.done))))))))))))))))) (by kernel_rfl) ?_
      simp -implicitDefEqProofs only [push_cast, seval, rd_of e, rd1_of e, e, hp]
      repeat' (first | with_reducible (first | exact Keep.refl _ _ | assumption | exact byte_lt _ _ | apply Keep.alloc | (refine Keep.set ?_ ?_; rotate_left; · omega) | apply Pre.alloc | apply Pre.set | exact Pre.refl _ | exact le_alloc _ | (refine Pre.keep ?_; assumption) | (refine Pre.n ?_; assumption)) | ((with_reducible (first | refine CD.to (ReadVar_s _ _ ?_ _) ?_ | refine CQ.pure (fun _ => ReadVar_s _ _ ?_ _) ?_ | refine bcase_d (fun hb => ?_) (fun hb => ?_) | refine bcase_mk (fun hb => ?_) (fun hb => ?_))) <;> try simp -implicitDefEqProofs only [push_cast, seval, rd_of e, rd1_of e, e, hp, hr]) | with_reducible refine And.intro ?_ ?_ | omega | (simp only [alloc_n, set_n, kill_n]; omega) | (exfalso; omega))
    · simp only [Bool.false_eq_true, if_false, oN_none, nxN_none, Option.isNone_none, oN_some, nxN_some, Option.isNone_some]
      refine CC.ofN Try.func65 Try.ntmps65 Try.results65 rfl (by decide) (by kernel_rfl) ?_
      simp -implicitDefEqProofs only [push_cast, seval]
      refine WC.draw' (by kernel_rfl) (by kernel_rfl) (.q 0 (.q 1 (.q 2 (.q 3 (.q 4 (.q 5 (.q 6 (.q 7 (.c 8 (.q 9 (.q 10 (.q 11 (.q 12 (.q 13 (.q 14 (.q 15 (.done))))))))))))))))) (by kernel_rfl) ?_
      simp -implicitDefEqProofs only [push_cast, seval, rd_of e, rd1_of e, e, hp]
      repeat' (first | with_reducible (first | exact Keep.refl _ _ | assumption | exact byte_lt _ _ | apply Keep.alloc | (refine Keep.set ?_ ?_; rotate_left; · omega) | apply Pre.alloc | apply Pre.set | exact Pre.refl _ | exact le_alloc _ | (refine Pre.keep ?_; assumption) | (refine Pre.n ?_; assumption)) | ((with_reducible (first | refine CD.to (ReadVar_s _ _ ?_ _) ?_ | refine CQ.pure (fun _ => ReadVar_s _ _ ?_ _) ?_ | refine bcase_d (fun hb => ?_) (fun hb => ?_) | refine bcase_mk (fun hb => ?_) (fun hb => ?_))) <;> try simp -implicitDefEqProofs only [push_cast, seval, rd_of e, rd1_of e, e, hp, hr]) | with_reducible refine And.intro ?_ ?_ | omega | (simp only [alloc_n, set_n, kill_n]; omega) | (exfalso; omega))
end Go.Proofs.Ytfbcedjheempfaa
