import Derived.Test.YtfbcedjheempfaaTy
import Derived.KernelRfl
namespace Go.Proofs.Ytfbcedjheempfaa
open Go Go.Sim Go.Proofs
set_option linter.unusedSimpArgs false
set_option maxRecDepth 100000
theorem within_c (a b c : Int) (h : AH) : CC Try.prog 51 [.int .i64 a, .int .i64 b, .int .i64 c] h fun v h' => v = .bool (decide (b ≤ a) && decide (a ≤ c)) ∧ h' = h := by
  refine CC.of' Try.func51 Try.ntmps51 Try.results51 rfl (by decide) (by kernel_rfl) ?_
  simp (config := {implicitDefEqProofs := false}) only [push_cast, List.replicate_succ, List.replicate_zero, Nat.reduceAdd, Nat.reduceSub, Nat.reduceMul, Nat.reduceLeDiff, ne_eq, Nat.reduceEqDiff, not_false_eq_true, all1]
  by_cases h1 : b ≤ a <;> simp [h1]
theorem l01In_c (a b c : Int) (h : AH) : CC Try.prog 50 [.int .i64 a, .int .i64 b, .int .i64 c] h fun v h' => v = .bool (decide (b ≤ a) && decide (a ≤ c)) ∧ h' = h := by
  refine CC.of' Try.func50 Try.ntmps50 Try.results50 rfl (by decide) (by kernel_rfl) ?_
  simp (config := {implicitDefEqProofs := false}) only [push_cast, List.replicate_succ, List.replicate_zero, Nat.reduceAdd, Nat.reduceSub, Nat.reduceMul, Nat.reduceLeDiff, ne_eq, Nat.reduceEqDiff, not_false_eq_true, all1]
  by_cases h1 : b ≤ a <;> simp [h1]
theorem isWorker_c (a : Int) (h : AH) : CC Try.prog 52 [.int .i64 a] h fun v h' => v = .bool (decide (1 ≤ a) && decide (a ≤ 3)) ∧ h' = h := by
  refine CC.of' Try.func52 Try.ntmps52 Try.results52 rfl (by decide) (by kernel_rfl) ?_
  simp (config := {implicitDefEqProofs := false}) only [push_cast, List.replicate_succ, List.replicate_zero, Nat.reduceAdd, Nat.reduceSub, Nat.reduceMul, Nat.reduceLeDiff, ne_eq, Nat.reduceEqDiff, not_false_eq_true, all1]
  refine (within_c _ _ _ _).mono ?_
  rintro _ _ ⟨rfl, rfl⟩
  simp (config := {implicitDefEqProofs := false}) only [push_cast, List.replicate_succ, List.replicate_zero, Nat.reduceAdd, Nat.reduceSub, Nat.reduceMul, Nat.reduceLeDiff, ne_eq, Nat.reduceEqDiff, not_false_eq_true, all1]
theorem szMessage_c (k w t y : Int) (s : ByteArray) (l : Int) (h : AH) (hs : s.size ≤ maxLen) (hl : 0 ≤ l ∧ l ≤ 1048576) : CC Try.prog 12 [.agg #[.int .i64 k, .int .i64 w, .int .i64 t, .int .i64 y, .string s], .int .i64 l] h fun v h' => v = .int .i64 (if l - s.size < 0 then -1 else l - s.size) ∧ Pre h h' := by
  refine CC.of' Try.func12 Try.ntmps12 Try.results12 rfl (by decide) (by kernel_rfl) ?_
  simp (config := {implicitDefEqProofs := false}) only [push_cast, List.replicate_succ, List.replicate_zero, Nat.reduceAdd, Nat.reduceSub, Nat.reduceMul, Nat.reduceLeDiff, ne_eq, Nat.reduceEqDiff, not_false_eq_true, all1]
  have := bigSize s hs
  rw [w64 (by omega) (by omega)]
  exact ⟨fun e => ⟨by rw [if_pos e], Pre.alloc (Pre.refl _) _⟩, fun e => ⟨by rw [if_neg e], Pre.alloc (Pre.refl _) _⟩⟩
theorem toMessage_c (k w t y : Int) (s : ByteArray) (h : AH) : CC Try.prog 14 [.agg #[.int .i64 k, .int .i64 w, .int .i64 t, .int .i64 y, .string s]] h fun v h' => v = .agg #[.int .i64 k, .int .i64 w, .int .i64 t, .int .i64 y, .string s] ∧ Pre h h' := by
  refine CC.of' Try.func14 Try.ntmps14 Try.results14 rfl (by decide) (by kernel_rfl) ?_
  simp (config := {implicitDefEqProofs := false}) only [push_cast, List.replicate_succ, List.replicate_zero, Nat.reduceAdd, Nat.reduceSub, Nat.reduceMul, Nat.reduceLeDiff, ne_eq, Nat.reduceEqDiff, not_false_eq_true, all1]
  refine ⟨by simp [one], ?_⟩
  repeat' (first | exact Pre.refl _ | apply Pre.alloc | apply Pre.set)
  all_goals (simp only [n_alloc, n_set]; omega)
theorem MessageOk_i (k w t y : Int) (s : ByteArray) (h : AH) : CC Try.prog 15 [.agg #[.int .i64 k, .int .i64 w, .int .i64 t, .int .i64 y, .string s]] h fun v h' => v = .bool (decide (1 ≤ k) && decide (k ≤ 4) && (decide (1 ≤ w) && decide (w ≤ 3)) && (decide (0 ≤ t) && decide (t ≤ 20)) && (decide (0 ≤ y) && decide (y ≤ 1000000000)) && decide ((s.size : Int) ≤ 15000) && (decide (k = 2) || decide (k = 3) || decide (s = { data := #[] }))) ∧ Pre h h' := by
  refine CC.of' Try.func15 Try.ntmps15 Try.results15 rfl (by decide) (by kernel_rfl) ?_
  simp (config := {implicitDefEqProofs := false}) only [push_cast, List.replicate_succ, List.replicate_zero, Nat.reduceAdd, Nat.reduceSub, Nat.reduceMul, Nat.reduceLeDiff, ne_eq, Nat.reduceEqDiff, not_false_eq_true, all1]
  repeat' (first
    | (refine (within_c _ _ _ _).mono ?_; rintro _ _ ⟨rfl, rfl⟩; simp (config := {implicitDefEqProofs := false}) only [push_cast, List.replicate_succ, List.replicate_zero, Nat.reduceAdd, Nat.reduceSub, Nat.reduceMul, Nat.reduceLeDiff, ne_eq, Nat.reduceEqDiff, not_false_eq_true, all1])
    | (refine (isWorker_c _ _).mono ?_; rintro _ _ ⟨rfl, rfl⟩; simp (config := {implicitDefEqProofs := false}) only [push_cast, List.replicate_succ, List.replicate_zero, Nat.reduceAdd, Nat.reduceSub, Nat.reduceMul, Nat.reduceLeDiff, ne_eq, Nat.reduceEqDiff, not_false_eq_true, all1])
    | (refine bcase_mk (fun _ => ?_) (fun _ => ?_) <;> simp (config := {implicitDefEqProofs := false}) only [push_cast, List.replicate_succ, List.replicate_zero, Nat.reduceAdd, Nat.reduceSub, Nat.reduceMul, Nat.reduceLeDiff, ne_eq, Nat.reduceEqDiff, not_false_eq_true, all1])
    | (refine And.intro ?_ ?_ <;> intro _))
  all_goals (refine ⟨?_, ?_⟩; · simp_all; try omega)
  all_goals (repeat' (first | exact Pre.refl _ | apply Pre.alloc | apply Pre.set))
theorem MessageOk_s (k w t y : Int) (s : ByteArray) (h : AH) : CC Try.prog 13 [.agg #[.int .i64 k, .int .i64 w, .int .i64 t, .int .i64 y, .string s]] h fun v h' => v = .bool (decide (1 ≤ k) && decide (k ≤ 4) && (decide (1 ≤ w) && decide (w ≤ 3)) && (decide (0 ≤ t) && decide (t ≤ 20)) && (decide (0 ≤ y) && decide (y ≤ 1000000000)) && decide ((s.size : Int) ≤ 15000) && (decide (k = 2) || decide (k = 3) || decide (s = { data := #[] }))) ∧ Pre h h' := by
  refine CC.of' Try.func13 Try.ntmps13 Try.results13 rfl (by decide) (by kernel_rfl) ?_
  simp (config := {implicitDefEqProofs := false}) only [push_cast, List.replicate_succ, List.replicate_zero, Nat.reduceAdd, Nat.reduceSub, Nat.reduceMul, Nat.reduceLeDiff, ne_eq, Nat.reduceEqDiff, not_false_eq_true, all1]
  repeat' (first
    | (refine (l01In_c _ _ _ _).mono ?_; rintro _ _ ⟨rfl, rfl⟩; simp (config := {implicitDefEqProofs := false}) only [push_cast, List.replicate_succ, List.replicate_zero, Nat.reduceAdd, Nat.reduceSub, Nat.reduceMul, Nat.reduceLeDiff, ne_eq, Nat.reduceEqDiff, not_false_eq_true, all1])
    | (refine bcase_mk (fun _ => ?_) (fun _ => ?_) <;> simp (config := {implicitDefEqProofs := false}) only [push_cast, List.replicate_succ, List.replicate_zero, Nat.reduceAdd, Nat.reduceSub, Nat.reduceMul, Nat.reduceLeDiff, ne_eq, Nat.reduceEqDiff, not_false_eq_true, all1])
    | (refine And.intro ?_ ?_ <;> intro _))
  all_goals (refine ⟨?_, ?_⟩; · simp_all; try omega)
  all_goals (repeat' (first | exact Pre.refl _ | apply Pre.alloc | apply Pre.set))
theorem law_c (k w t y : Int) (s : ByteArray) (hs : s.size ≤ maxLen) (h : AH) : CE Try.prog 3 [.agg #[.int .i64 k, .int .i64 w, .int .i64 t, .int .i64 y, .string s]] h fun v _ => v = .bool true := by
  refine CE.of' Try.func3 Try.ntmps3 Try.results3 rfl (by kernel_rfl) ?_
  simp (config := {implicitDefEqProofs := false}) only [push_cast, List.replicate_succ, List.replicate_zero, Nat.reduceAdd, Nat.reduceSub, Nat.reduceMul, Nat.reduceLeDiff, ne_eq, Nat.reduceEqDiff, not_false_eq_true, all1]
  refine (szMessage_c k w t y s 1048576 _ hs (by omega)).mono ?_
  rintro _ h1 ⟨rfl, p1⟩
  have e1 : h1.ob h.n = .cells [.int .i64 k, .int .i64 w, .int .i64 t, .int .i64 y, .string s] .solo h.n := (p1.ob _ (lt_alloc _)).trans (alloc_same _)
  have l1 : h.n < h1.n := p1.lt (lt_alloc _)
  simp (config := {implicitDefEqProofs := false}) only [push_cast, List.replicate_succ, List.replicate_zero, Nat.reduceAdd, Nat.reduceSub, Nat.reduceMul, Nat.reduceLeDiff, ne_eq, Nat.reduceEqDiff, not_false_eq_true, all1, e1]
  refine ⟨fun _ => trivial, fun _ => ?_⟩
  refine (toMessage_c k w t y s _).mono ?_
  rintro _ h2 ⟨rfl, p2⟩
  simp (config := {implicitDefEqProofs := false}) only [push_cast, List.replicate_succ, List.replicate_zero, Nat.reduceAdd, Nat.reduceSub, Nat.reduceMul, Nat.reduceLeDiff, ne_eq, Nat.reduceEqDiff, not_false_eq_true, all1]
  refine (MessageOk_s k w t y s _).mono ?_
  rintro _ h3 ⟨rfl, p3⟩
  have e3 : h3.ob h.n = .cells [.int .i64 k, .int .i64 w, .int .i64 t, .int .i64 y, .string s] .solo h.n := by rw [(p2.trans p3).ob _ l1, e1]
  simp (config := {implicitDefEqProofs := false}) only [push_cast, List.replicate_succ, List.replicate_zero, Nat.reduceAdd, Nat.reduceSub, Nat.reduceMul, Nat.reduceLeDiff, ne_eq, Nat.reduceEqDiff, not_false_eq_true, all1, e3]
  refine (toMessage_c k w t y s _).mono ?_
  rintro _ h4 ⟨rfl, p4⟩
  simp (config := {implicitDefEqProofs := false}) only [push_cast, List.replicate_succ, List.replicate_zero, Nat.reduceAdd, Nat.reduceSub, Nat.reduceMul, Nat.reduceLeDiff, ne_eq, Nat.reduceEqDiff, not_false_eq_true, all1]
  refine (MessageOk_i k w t y s _).mono ?_
  rintro _ h5 ⟨rfl, p5⟩
  simp (config := {implicitDefEqProofs := false}) only [push_cast, List.replicate_succ, List.replicate_zero, Nat.reduceAdd, Nat.reduceSub, Nat.reduceMul, Nat.reduceLeDiff, ne_eq, Nat.reduceEqDiff, not_false_eq_true, all1, beq_self_eq_true, Bool.not_true, Bool.not_false]
end Go.Proofs.Ytfbcedjheempfaa
