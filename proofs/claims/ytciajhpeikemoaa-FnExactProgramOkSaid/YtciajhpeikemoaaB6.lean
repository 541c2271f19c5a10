/- Parts of the proof of the row: the ground, contracts of the functions that it reaches (L102, L103, L104, L105, L106, L107, L75, L76, L108, L109, L110, L111, L112). Conditions: those that each theorem names. -/
import Derived.Test.YtciajhpeikemoaaB5
namespace Go.Proofs.Ytciajhpeikemoaa
open Go Go.Sim Go.Proofs
set_option linter.unusedSimpArgs false
set_option linter.unusedVariables false
set_option maxRecDepth 100000
set_option maxHeartbeats 1000000
theorem Index_c (l : List ByteArray) (v : Value) (s : ByteArray) (h : AH) (r : RdV h v 1 encS l) (hl : l.length ≤ 1048576) :
    CC Try.prog 213 [v, .string s] h (fun r h' => (∃ n : Int, r = .int .i64 n ∧ (0 ≤ n ↔ l.any (fun t => decide (t = s)) = true)) ∧ Pre h h') := by
  refine CC.withBig (fun big => ?_)
  obtain ⟨A, c, rfl, hR⟩ := r.rde (fun _ => rfl)
  refine CC.ofN Try.func213 Try.ntmps213 Try.results213 rfl (by decide) (by kernel_rfl) ?_
  simp (maxSteps := 1000000) -implicitDefEqProofs only [push_cast, seval]
  refine WC.loopA (by kernel_rfl) [8] [4, 5, 9, 10, 11, 12, 13, 14, 15, 16, 17, 18] (fun i : Nat => [.int .i64 i]) (fun i h' => (i ≤ l.length ∧ ∀ j (hj : j < l.length), j < i → l[j] ≠ s) ∧ Pre h h') (fun i => l.length - i) 0 (by kernel_rfl) ⟨⟨Nat.zero_le _, fun j hj h0 => by omega⟩, Pre.refl _⟩ ?_
  intro i g h1 hJ
  have hi := hJ.1.1
  have hj := hJ.1.2
  have p1 := hJ.2
  clear hJ
  simp (maxSteps := 1000000) -implicitDefEqProofs only [push_cast, seval]
  with_reducible refine bcase_d (fun hb => ?_) (fun hb => ?_)
  · have hi' : i < l.length := by omega
    have hno : l[i] ≠ s → ∀ j (hj : j < l.length), j < i + 1 → l[j] ≠ s := fun e j hj1 hj2 => by
      by_cases e2 : j = i
      · subst e2; exact e
      · exact hj j hj1 (by omega)
    have hyes : l[i] = s → l.any (fun t => decide (t = s)) = true := fun e => List.any_eq_true.2 ⟨_, List.getElem_mem hi', by simp [e]⟩
    with_reducible refine hR.use big p1 hi' (fun id off eA hlt hr => ?_)
    subst eA
    generalize l[i] = T at *
    simp only [encS, Nat.mul_one] at hr
    have r0 := rd_1 hr
    simp (maxSteps := 1000000) -implicitDefEqProofs only [push_cast, seval, hr, r0, hlt, Nat.mul_one]
    repeat (with_reducible refine And.intro ?_ ?_; · (first | omega | decide))
    with_reducible refine bcase_d (fun hT => ?_) (fun hT => ?_)
    · simp (maxSteps := 1000000) -implicitDefEqProofs only [push_cast, seval]
      exact ⟨⟨_, rfl, by simp [hyes hT.symm]⟩, p1⟩
    · simp (maxSteps := 1000000) -implicitDefEqProofs only [push_cast, seval]
      rw [wrapSucc (by omega)]
      exact ⟨i + 1, by kernel_rfl, ⟨⟨by omega, hno (fun e => hT e.symm)⟩, p1⟩, by omega⟩
  have ei : i = l.length := by omega
  subst ei
  simp (maxSteps := 1000000) -implicitDefEqProofs only [push_cast, seval]
  refine ⟨⟨_, rfl, ?_⟩, p1⟩
  have : l.any (fun t => decide (t = s)) = false := List.any_eq_false.2 (fun x hx => by
    obtain ⟨j, hj1, rfl⟩ := List.getElem_of_mem hx
    simpa using hj j hj1 hj1)
  rw [this]
  simp
theorem Contains_c (l : List ByteArray) (v : Value) (s : ByteArray) (h : AH) (r : RdV h v 1 encS l) (hl : l.length ≤ 1048576) :
    CD Try.prog 185 [v, .string s] h (.bool (l.any (fun t => decide (t = s)))) h := by
  refine CD.quiet ?_ (low_bool _ _)
  refine CC.ofN Try.func185 Try.ntmps185 Try.results185 rfl (by decide) (by kernel_rfl) ?_
  simp (maxSteps := 1000000) -implicitDefEqProofs only [push_cast, seval]
  with_reducible refine CC.mono (Index_c l v s h r hl) (fun v h1 hv => ?_)
  with_reducible refine Exists.elim hv.1 (fun n hw => ?_)
  have e1 := hw.1
  have e2 := hw.2
  have p1 := hv.2
  clear hv hw
  subst e1
  simp (maxSteps := 1000000) -implicitDefEqProofs only [push_cast, seval]
  refine ⟨?_, p1.keep⟩
  congr 1
  rw [Bool.eq_iff_iff, decide_eq_true_eq]
  exact e2
theorem RdV.litS (l : List ByteArray) (c : Nat) (h : AH) : RdV (h.alloc (.cells (l.map encS).flatten .solo h.n)) (.slice (some ⟨h.n, 0, none⟩) l.length c) 1 encS l := by
  have o : Own (h.alloc (.cells (l.map encS).flatten .solo h.n)) h.n 0 l.length 1 (l.map encS).flatten := Own.new _ _ _ (flat_len (k := 1) l (fun _ => rfl))
  exact .inr ⟨_, _, _, rfl, o.rdAll, o.lt⟩
theorem _root_.Go.Sim.RdV.at0 {α : Type} {h : AH} {id off n c k : Nat} {enc : α → List Value} {l : List α} (r : RdV h (.slice (some ⟨id, off, none⟩) n c) k enc l) (hl : ∀ x, (enc x).length = k) {i : Nat} (hi : i < l.length) : id < h.n ∧ rd h id (off + i * k) k = some (enc l[i]) := by
  rcases r with ⟨c, e, _⟩ | ⟨id', off', c', e, q, hlt⟩
  · injection e with e1; cases e1
  · injection e with e1
    injection e1 with e1
    injection e1 with e1 e2
    subst e1 e2
    exact ⟨hlt, chunk_of (n := 0) (fun x _ => hl x) q hi⟩
theorem isWordKept_c (s : ByteArray) (h : AH) : CD Try.prog 159 [.string s] h (.bool (kept.any (fun t => decide (t = s)))) h := by
  refine CD.quiet ?_ (low_bool _ _)
  have hk : RdV (h.alloc (.cells [.string ⟨#[66, 69, 71, 73, 78]⟩, .string ⟨#[69, 78, 68]⟩, .string ⟨#[112, 114, 105, 110, 116]⟩, .string ⟨#[110, 101, 120, 116]⟩, .string ⟨#[100, 117, 109, 112]⟩, .string ⟨#[105, 102]⟩, .string ⟨#[101, 108, 115, 101]⟩, .string ⟨#[78, 70]⟩, .string ⟨#[78, 82]⟩, .string ⟨#[108, 101, 110, 103, 116, 104]⟩] .solo h.n)) (.slice (some ⟨h.n, 0, none⟩) 10 1) 1 encS kept := RdV.litS kept 1 h
  refine CC.ofN Try.func159 Try.ntmps159 Try.results159 rfl (by decide) (by kernel_rfl) ?_
  simp (maxSteps := 1000000) -implicitDefEqProofs only [push_cast, seval]
  with_reducible refine CD.to (Contains_c kept _ s _ hk (by decide)) ?_
  simp (maxSteps := 1000000) -implicitDefEqProofs only [push_cast, seval]
  exact ((Pre.refl h).alloc _).keep
theorem isName_c (s : ByteArray) (hs : s.size ≤ maxLen) (h : AH) : CD Try.prog 113 [.string s] h (.bool (nameOk s)) h := by
  refine CD.quiet ?_ (low_bool _ _)
  refine CC.ofN Try.func113 Try.ntmps113 Try.results113 rfl (by decide) (by kernel_rfl) ?_
  simp (maxSteps := 1000000) -implicitDefEqProofs only [push_cast, seval]
  with_reducible refine CD.to (isLetters_c s hs _) ?_
  unfold nameOk
  cases hl : letters s
  · simp (maxSteps := 1000000) -implicitDefEqProofs only [push_cast, seval]
    exact Keep.refl _ _
  · simp (maxSteps := 1000000) -implicitDefEqProofs only [push_cast, seval]
    with_reducible refine CD.to (isWordKept_c s _) ?_
    simp (maxSteps := 1000000) -implicitDefEqProofs only [push_cast, seval]
    exact Keep.refl _ _
def kept2 : List ByteArray := [⟨#[66, 69, 71, 73, 78]⟩, ⟨#[69, 78, 68]⟩, ⟨#[112, 114, 105, 110, 116]⟩, ⟨#[110, 101, 120, 116]⟩, ⟨#[100, 117, 109, 112]⟩, ⟨#[105, 102]⟩, ⟨#[101, 108, 115, 101]⟩, ⟨#[108, 101, 110, 103, 116, 104]⟩, ⟨#[78, 70]⟩, ⟨#[78, 82]⟩]
theorem kept2_any (p : ByteArray → Bool) : kept2.any p = kept.any p := by
  simp only [kept2, kept, List.any_cons, List.any_nil, Bool.or_false]
  cases p ⟨#[78, 70]⟩ <;> cases p ⟨#[78, 82]⟩ <;> cases p ⟨#[108, 101, 110, 103, 116, 104]⟩ <;> simp
theorem l06Name_c (s : ByteArray) (hs : s.size ≤ maxLen) (h : AH) : CD Try.prog 156 [.string s] h (.bool (nameOk s)) h := by
  refine CD.withBig (fun big => ?_)
  refine CD.quiet ?_ (low_bool _ _)
  have hk : RdV (h.alloc (.cells [.string ⟨#[66, 69, 71, 73, 78]⟩, .string ⟨#[69, 78, 68]⟩, .string ⟨#[112, 114, 105, 110, 116]⟩, .string ⟨#[110, 101, 120, 116]⟩, .string ⟨#[100, 117, 109, 112]⟩, .string ⟨#[105, 102]⟩, .string ⟨#[101, 108, 115, 101]⟩, .string ⟨#[108, 101, 110, 103, 116, 104]⟩, .string ⟨#[78, 70]⟩, .string ⟨#[78, 82]⟩] .solo h.n)) (.slice (some ⟨h.n, 0, none⟩) 10 1) 1 encS kept2 := RdV.litS kept2 1 h
  have pA : Pre h (h.alloc (.cells [.string ⟨#[66, 69, 71, 73, 78]⟩, .string ⟨#[69, 78, 68]⟩, .string ⟨#[112, 114, 105, 110, 116]⟩, .string ⟨#[110, 101, 120, 116]⟩, .string ⟨#[100, 117, 109, 112]⟩, .string ⟨#[105, 102]⟩, .string ⟨#[101, 108, 115, 101]⟩, .string ⟨#[108, 101, 110, 103, 116, 104]⟩, .string ⟨#[78, 70]⟩, .string ⟨#[78, 82]⟩] .solo h.n)) := (Pre.refl h).alloc _
  have c0 : (h.alloc (.cells [.string ⟨#[66, 69, 71, 73, 78]⟩, .string ⟨#[69, 78, 68]⟩, .string ⟨#[112, 114, 105, 110, 116]⟩, .string ⟨#[110, 101, 120, 116]⟩, .string ⟨#[100, 117, 109, 112]⟩, .string ⟨#[105, 102]⟩, .string ⟨#[101, 108, 115, 101]⟩, .string ⟨#[108, 101, 110, 103, 116, 104]⟩, .string ⟨#[78, 70]⟩, .string ⟨#[78, 82]⟩] .solo h.n)).ob h.n = _ := alloc_same _
  have n0 : (h.alloc (.cells [.string ⟨#[66, 69, 71, 73, 78]⟩, .string ⟨#[69, 78, 68]⟩, .string ⟨#[112, 114, 105, 110, 116]⟩, .string ⟨#[110, 101, 120, 116]⟩, .string ⟨#[100, 117, 109, 112]⟩, .string ⟨#[105, 102]⟩, .string ⟨#[101, 108, 115, 101]⟩, .string ⟨#[108, 101, 110, 103, 116, 104]⟩, .string ⟨#[78, 70]⟩, .string ⟨#[78, 82]⟩] .solo h.n)).n = h.n + 1 := rfl
  rw [maxLen_eq] at hs
  refine CC.ofN Try.func156 Try.ntmps156 Try.results156 rfl (by decide) (by kernel_rfl) ?_
  simp (maxSteps := 1000000) -implicitDefEqProofs only [push_cast, seval]
  generalize (h.alloc (.cells [.string ⟨#[66, 69, 71, 73, 78]⟩, .string ⟨#[69, 78, 68]⟩, .string ⟨#[112, 114, 105, 110, 116]⟩, .string ⟨#[110, 101, 120, 116]⟩, .string ⟨#[100, 117, 109, 112]⟩, .string ⟨#[105, 102]⟩, .string ⟨#[101, 108, 115, 101]⟩, .string ⟨#[108, 101, 110, 103, 116, 104]⟩, .string ⟨#[78, 70]⟩, .string ⟨#[78, 82]⟩] .solo h.n)) = h0 at *
  refine WC.loopA (by kernel_rfl) [4] [2, 7, 8, 9, 10, 11, 12, 13, 14, 15, 16, 17, 18] (fun i : Nat => [.int .i64 i]) (fun i h' => (i ≤ 10 ∧ ∀ j (hj : j < kept2.length), j < i → kept2[j] ≠ s) ∧ Pre h0 h') (fun i => 10 - i) 0 (by kernel_rfl) ⟨⟨Nat.zero_le _, fun j hj h0 => by omega⟩, Pre.refl _⟩ ?_
  intro i g h1 hJ
  have hi := hJ.1.1
  have hj := hJ.1.2
  have p1 := hJ.2
  clear hJ
  simp (maxSteps := 1000000) -implicitDefEqProofs only [push_cast, seval]
  with_reducible refine bcase_d (fun hb => ?_) (fun hb => ?_)
  · have hi' : i < kept2.length := by show i < 10; omega
    have hno : kept2[i] ≠ s → ∀ j (hj : j < kept2.length), j < i + 1 → kept2[j] ≠ s := fun e j hj1 hj2 => by
      by_cases e2 : j = i
      · subst e2; exact e
      · exact hj j hj1 (by omega)
    have hyes : kept2[i] = s → nameOk s = false := fun e => by
      have : kept.any (fun t => decide (t = s)) = true := by
        rw [← kept2_any]
        exact List.any_eq_true.2 ⟨_, List.getElem_mem hi', by simp [e]⟩
      rw [nameOk, this]; simp
    have hR := (hk.pre p1).at0 (fun _ => rfl) hi'
    have hlt := hR.1
    have hr := hR.2
    clear hR
    generalize kept2[i] = T at *
    simp only [encS, Nat.mul_one, Nat.zero_add] at hr
    have r0 := rd_1 hr
    simp (maxSteps := 1000000) -implicitDefEqProofs only [push_cast, seval, hr, r0, hlt, Nat.mul_one]
    repeat (with_reducible refine And.intro ?_ ?_; · (first | omega | decide))
    with_reducible refine bcase_d (fun hT => ?_) (fun hT => ?_)
    · simp (maxSteps := 1000000) -implicitDefEqProofs only [push_cast, seval]
      rw [hyes hT]
      exact ⟨rfl, (pA.trans p1).keep⟩
    · simp (maxSteps := 1000000) -implicitDefEqProofs only [push_cast, seval]
      rw [wrapSucc (by omega)]
      exact ⟨i + 1, by kernel_rfl, ⟨⟨by omega, hno hT⟩, p1⟩, by omega⟩
  have ei : i = 10 := by omega
  subst ei
  have hk0 : kept.any (fun t => decide (t = s)) = false := by
    rw [← kept2_any]
    exact List.any_eq_false.2 (fun x hx => by
      obtain ⟨j, hj1, rfl⟩ := List.getElem_of_mem hx
      simpa using hj j hj1 hj1)
  clear hj hk
  simp (maxSteps := 1000000) -implicitDefEqProofs only [push_cast, seval]
  refine WC.loopA (by kernel_rfl) [5] [2, 19, 20, 21, 22, 23, 24, 25, 26, 27, 28, 29] (fun i : Nat => [.int .i64 i]) (fun i h' => (i ≤ s.size ∧ ∀ j, j < i → letter (byteAt s j).toNat = true) ∧ Pre h1 h') (fun i => s.size - i) 0 (by kernel_rfl) ⟨⟨Nat.zero_le _, fun j hj => by omega⟩, Pre.refl _⟩ ?_
  intro i g2 h2 hJ
  have hi2 := hJ.1.1
  have hj := hJ.1.2
  have p2 := hJ.2
  clear hJ
  simp (maxSteps := 1000000) -implicitDefEqProofs only [push_cast, seval]
  repeat' (first | with_reducible (first | exact Keep.refl _ _ | assumption | exact byte_lt _ _ | apply Keep.alloc | (refine Keep.set ?_ ?_; rotate_left; · omega) | apply Pre.alloc | apply Pre.set | exact Pre.refl _ | exact le_alloc _ | (refine Pre.keep ?_; assumption) | (refine Pre.n ?_; assumption)) | ((with_reducible (first | refine CD.to (l05Letter_c _ _) ?_ | refine CQ.pure (fun _ => l05Letter_c _ _) ?_ | refine CD.to (l01In_c _ _ _ _) ?_ | refine CQ.pure (fun _ => l01In_c _ _ _ _) ?_ | refine bcase_d (fun hb => ?_) (fun hb => ?_) | refine bcase_mk (fun hb => ?_) (fun hb => ?_))) <;> try simp (maxSteps := 1000000) -implicitDefEqProofs only [push_cast, seval]) | with_reducible refine And.intro ?_ ?_ | omega | (simp only [alloc_n, set_n, kill_n]; omega) | (exfalso; omega))
  all_goals first
    | exact ((pA.trans p1).trans p2).keep
    | (rw [wrapSucc (by omega)]
       exact ⟨i + 1, by kernel_rfl, ⟨⟨by omega, fun j hj' => (Nat.lt_succ_iff_lt_or_eq.1 hj').elim (hj j) (fun e => by subst e; exact hb)⟩, p2⟩, by omega⟩)
    | (rw [nameOk, show letters s = false by simp only [letters, allAt_false (s := s) (i := i) (by omega) hb]; rfl]; rfl)
    | (have : allAt s letter = true := allAt_iff.2 (fun j hj' => hj j (by omega))
       rw [nameOk, hk0]
       simp [letters, this])
end Go.Proofs.Ytciajhpeikemoaa
namespace Go.Proofs.Ytciajhpeikemoaa
open Go Go.Sim Go.Proofs
set_option linter.unusedSimpArgs false
set_option linter.unusedVariables false
set_option maxRecDepth 100000
set_option maxHeartbeats 1000000
theorem isExpr_c (op : Int) (h : AH) : CD Try.prog 116 [.int .i64 op] h (.bool (isEx op)) h := by
  refine CD.quiet ?_ (low_bool _ _)
  refine CC.ofN Try.func116 Try.ntmps116 Try.results116 rfl (by decide) (by kernel_rfl) ?_
  simp (maxSteps := 1000000) -implicitDefEqProofs only [push_cast, seval]
  repeat' (first | with_reducible (first | exact Keep.refl _ _ | assumption | exact byte_lt _ _ | apply Keep.alloc | (refine Keep.set ?_ ?_; rotate_left; · omega) | apply Pre.alloc | apply Pre.set | exact Pre.refl _ | exact le_alloc _ | (refine Pre.keep ?_; assumption) | (refine Pre.n ?_; assumption)) | ((with_reducible (first | refine CD.to (within_c _ _ _ _) ?_ | refine CQ.pure (fun _ => within_c _ _ _ _) ?_ | refine bcase_d (fun hb => ?_) (fun hb => ?_) | refine bcase_mk (fun hb => ?_) (fun hb => ?_))) <;> try simp (maxSteps := 1000000) -implicitDefEqProofs only [push_cast, seval]) | with_reducible refine And.intro ?_ ?_ | omega | (simp only [alloc_n, set_n, kill_n]; omega) | (exfalso; omega))
  rfl
theorem l06Ex_c (op : Int) (h : AH) : CD Try.prog 54 [.int .i64 op] h (.bool (isEx op)) h := by
  refine CD.quiet ?_ (low_bool _ _)
  refine CC.ofN Try.func54 Try.ntmps54 Try.results54 rfl (by decide) (by kernel_rfl) ?_
  simp (maxSteps := 1000000) -implicitDefEqProofs only [push_cast, seval]
  repeat' (first | with_reducible (first | exact Keep.refl _ _ | assumption | exact byte_lt _ _ | apply Keep.alloc | (refine Keep.set ?_ ?_; rotate_left; · omega) | apply Pre.alloc | apply Pre.set | exact Pre.refl _ | exact le_alloc _ | (refine Pre.keep ?_; assumption) | (refine Pre.n ?_; assumption)) | ((with_reducible (first | refine CD.to (l01In_c _ _ _ _) ?_ | refine CQ.pure (fun _ => l01In_c _ _ _ _) ?_ | refine bcase_d (fun hb => ?_) (fun hb => ?_) | refine bcase_mk (fun hb => ?_) (fun hb => ?_))) <;> try simp (maxSteps := 1000000) -implicitDefEqProofs only [push_cast, seval]) | with_reducible refine And.intro ?_ ?_ | omega | (simp only [alloc_n, set_n, kill_n]; omega) | (exfalso; omega))
  rfl
theorem op_split (op : Int) : (op = 1 ∨ op = 2 ∨ op = 3 ∨ op = 4 ∨ op = 5 ∨ op = 8 ∨ op = 9 ∨ op = 10 ∨ op = 11 ∨ op = 12 ∨ op = 13 ∨ op = 14 ∨ op = 15 ∨ op = 16 ∨ op = 17 ∨ op = 18 ∨ op = 19 ∨ op = 20 ∨ op = 21 ∨ op = 22 ∨ op = 24 ∨ op = 25) ∨ (op ≠ 1 ∧ op ≠ 2 ∧ op ≠ 3 ∧ op ≠ 4 ∧ op ≠ 5 ∧ op ≠ 8 ∧ op ≠ 9 ∧ op ≠ 10 ∧ op ≠ 11 ∧ op ≠ 12 ∧ op ≠ 13 ∧ op ≠ 14 ∧ op ≠ 15 ∧ op ≠ 16 ∧ op ≠ 17 ∧ op ≠ 18 ∧ op ≠ 19 ∧ op ≠ 20 ∧ op ≠ 21 ∧ op ≠ 22 ∧ op ≠ 24 ∧ op ≠ 25) := by omega
theorem kidRange_c (op : Int) (h : AH) : CD Try.prog 115 [.int .i64 op] h (.tuple #[.int .i64 (rangeP op).1, .int .i64 (rangeP op).2]) h := by
  refine CD.quiet ?_ (low_tuple (by simp [low_int]))
  rcases op_split op with hc | ⟨n1, n2, n3, n4, n5, n8, n9, n10, n11, n12, n13, n14, n15, n16, n17, n18, n19, n20, n21, n22, n24, n25⟩
  · rcases hc with rfl | rfl | rfl | rfl | rfl | rfl | rfl | rfl | rfl | rfl | rfl | rfl | rfl | rfl | rfl | rfl | rfl | rfl | rfl | rfl | rfl | rfl
    all_goals
      refine CC.ofN Try.func115 Try.ntmps115 Try.results115 rfl (by decide) (by kernel_rfl) ?_
      simp (maxSteps := 1000000) -implicitDefEqProofs only [push_cast, seval]
      exact ⟨rfl, Keep.refl _ _⟩
  · have e : rangeP op = (0, 0) := by simp [rangeP, manyP, *]
    rw [e]
    refine CC.ofN Try.func115 Try.ntmps115 Try.results115 rfl (by decide) (by kernel_rfl) ?_
    simp (maxSteps := 1000000) -implicitDefEqProofs only [push_cast, seval, decide_eq_false n4, decide_eq_false n5, decide_eq_false n8, decide_eq_false n9, decide_eq_false n10, decide_eq_false n11, decide_eq_false n12, decide_eq_false n13, decide_eq_false n14, decide_eq_false n15, decide_eq_false n16, decide_eq_false n17, decide_eq_false n18, decide_eq_false n19, decide_eq_false n20, decide_eq_false n21, decide_eq_false n22, decide_eq_false n24]
    exact Keep.refl _ _
theorem l06Many_c (op : Int) (h : AH) : CD Try.prog 107 [.int .i64 op] h (.tuple #[.int .i64 (manyP op).1, .int .i64 (manyP op).2]) h := by
  refine CD.quiet ?_ (low_tuple (by simp [low_int]))
  rcases op_split op with hc | ⟨n1, n2, n3, n4, n5, n8, n9, n10, n11, n12, n13, n14, n15, n16, n17, n18, n19, n20, n21, n22, n24, n25⟩
  · rcases hc with rfl | rfl | rfl | rfl | rfl | rfl | rfl | rfl | rfl | rfl | rfl | rfl | rfl | rfl | rfl | rfl | rfl | rfl | rfl | rfl | rfl | rfl
    all_goals
      refine CC.ofN Try.func107 Try.ntmps107 Try.results107 rfl (by decide) (by kernel_rfl) ?_
      simp (maxSteps := 1000000) -implicitDefEqProofs only [push_cast, seval]
      exact ⟨rfl, Keep.refl _ _⟩
  · have e : manyP op = (0, 0) := by simp [rangeP, manyP, *]
    rw [e]
    refine CC.ofN Try.func107 Try.ntmps107 Try.results107 rfl (by decide) (by kernel_rfl) ?_
    simp (maxSteps := 1000000) -implicitDefEqProofs only [push_cast, seval, decide_eq_false n4, decide_eq_false n5, decide_eq_false n8, decide_eq_false n9, decide_eq_false n10, decide_eq_false n11, decide_eq_false n12, decide_eq_false n13, decide_eq_false n14, decide_eq_false n15, decide_eq_false n16, decide_eq_false n17, decide_eq_false n18, decide_eq_false n19, decide_eq_false n20, decide_eq_false n21, decide_eq_false n22, decide_eq_false n24]
    exact Keep.refl _ _
end Go.Proofs.Ytciajhpeikemoaa
namespace Go.Proofs.Ytciajhpeikemoaa
open Go Go.Sim Go.Proofs
set_option linter.unusedSimpArgs false
set_option linter.unusedVariables false
set_option maxRecDepth 100000
set_option maxHeartbeats 1000000
theorem text_empty (t : ByteArray) : (t = ⟨#[]⟩) = (t.size = 0) := propext ⟨fun e => by rw [e]; rfl, fun e => ByteArray.ext (Array.eq_empty_of_size_eq_zero e)⟩
theorem textFits_c (op : Int) (s : ByteArray) (kv : Value) (h : AH) (y1 : Sim.one kv = true) (y2 : kv.cells = #[kv]) (hs : s.size ≤ 1048576) :
    CD Try.prog 58 [.agg #[.int .i64 op, .string s, kv]] h (.bool (textP op s)) h := by
  refine CD.withBig (fun big => ?_)
  refine CD.quiet ?_ (low_bool _ _)
  have hm : s.size ≤ maxLen := by rw [maxLen_eq]; omega
  rcases op_split op with hc | ⟨n1, n2, n3, n4, n5, n8, n9, n10, n11, n12, n13, n14, n15, n16, n17, n18, n19, n20, n21, n22, n24, n25⟩
  · rcases hc with rfl | rfl | rfl | rfl | rfl | rfl | rfl | rfl | rfl | rfl | rfl | rfl | rfl | rfl | rfl | rfl | rfl | rfl | rfl | rfl | rfl | rfl
    all_goals
      refine CC.ofN Try.func58 Try.ntmps58 Try.results58 rfl (by decide) (by kernel_rfl) ?_
      simp (maxSteps := 1000000) -implicitDefEqProofs only [push_cast, seval, y1, y2]
      first
        | (refine ⟨rfl, ?_⟩; exact ((Pre.refl h).alloc _).keep)
        | (with_reducible refine CD.to (allFigures_c s 1 6 hm _) ?_
           simp (maxSteps := 1000000) -implicitDefEqProofs only [push_cast, seval]
           refine ⟨rfl, ?_⟩; exact ((Pre.refl h).alloc _).keep)
        | (with_reducible refine CD.to (isQuotable_c s hm _) ?_
           simp (maxSteps := 1000000) -implicitDefEqProofs only [push_cast, seval]
           refine ⟨rfl, ?_⟩; exact ((Pre.refl h).alloc _).keep)
        | (with_reducible refine CD.to (isName_c s hm _) ?_
           simp (maxSteps := 1000000) -implicitDefEqProofs only [push_cast, seval]
           refine ⟨rfl, ?_⟩; exact ((Pre.refl h).alloc _).keep)
        | skip
    with_reducible refine CC.mono (ReadPattern_i s _ hm) (fun v h3 hv => ?_)
    have p3 := hv.1
    with_reducible refine Exists.elim hv.2.form (fun rv hf => ?_)
    have ev := hf.1
    have z1 := hf.2.1
    have z2 := hf.2.2
    clear hf hv
    subst ev
    have g0 : h3.ob h.n = _ := (p3.ob h.n (lt_alloc _)).trans (alloc_same _)
    have l0 : h.n < h3.n := Nat.lt_of_lt_of_le (lt_alloc _) p3.n
    have pF : Pre h ((h3.alloc (AOb.cells [Value.slice none 0 0] .solo h3.n)).set h3.n (AOb.cells [rv] .solo h3.n)) := ((((Pre.refl h).alloc _).trans p3).alloc _).set (by have := p3.n; have : h.n + 1 ≤ h3.n := this; omega) _
    have tp : textP 16 s = ((readP s).isSome && plain s 47) := by simp [textP]
    rw [tp]
    simp (maxSteps := 1000000) -implicitDefEqProofs only [push_cast, seval, g0, rd_of g0, rd1_of g0, l0, z1, z2]
    cases hG : (readP s).isSome
    · simp (maxSteps := 1000000) -implicitDefEqProofs only [push_cast, seval, g0, rd_of g0, rd1_of g0, l0, z1, z2]
      exact pF.keep
    · simp (maxSteps := 1000000) -implicitDefEqProofs only [push_cast, seval, g0, rd_of g0, rd1_of g0, l0, z1, z2]
      with_reducible refine CD.to (ContainsAny_c s _ 47 10 rfl (by decide) (by decide) (by omega) _) ?_
      simp (maxSteps := 1000000) -implicitDefEqProofs only [push_cast, seval]
      exact ⟨rfl, pF.keep⟩
  · have e : textP op s = decide (s = ⟨#[]⟩) := by simp [textP, *]
    rw [e]
    refine CC.ofN Try.func58 Try.ntmps58 Try.results58 rfl (by decide) (by kernel_rfl) ?_
    simp (maxSteps := 1000000) -implicitDefEqProofs only [push_cast, seval, y1, y2, decide_eq_false n1, decide_eq_false n2, decide_eq_false n3, decide_eq_false n4, decide_eq_false n16, decide_eq_false n18, decide_eq_false n19, decide_eq_false n20, decide_eq_false n21, decide_eq_false n25]
    exact ((Pre.refl h).alloc _).keep
theorem l06Text_c (op : Int) (s : ByteArray) (kv : Value) (h : AH) (y1 : Sim.one kv = true) (y2 : kv.cells = #[kv]) (hs : s.size ≤ 1048576) :
    CD Try.prog 108 [.agg #[.int .i64 op, .string s, kv]] h (.bool (textP op s)) h := by
  refine CD.withBig (fun big => ?_)
  refine CD.quiet ?_ (low_bool _ _)
  have hm : s.size ≤ maxLen := by rw [maxLen_eq]; omega
  rcases op_split op with hc | ⟨n1, n2, n3, n4, n5, n8, n9, n10, n11, n12, n13, n14, n15, n16, n17, n18, n19, n20, n21, n22, n24, n25⟩
  · rcases hc with rfl | rfl | rfl | rfl | rfl | rfl | rfl | rfl | rfl | rfl | rfl | rfl | rfl | rfl | rfl | rfl | rfl | rfl | rfl | rfl | rfl | rfl
    all_goals
      refine CC.ofN Try.func108 Try.ntmps108 Try.results108 rfl (by decide) (by kernel_rfl) ?_
      simp (maxSteps := 1000000) -implicitDefEqProofs only [push_cast, seval, y1, y2]
      first
        | (refine ⟨rfl, ?_⟩; exact ((Pre.refl h).alloc _).keep)
        | (with_reducible refine CD.to (IsNum_c s hm _) ?_
           simp (maxSteps := 1000000) -implicitDefEqProofs only [push_cast, seval]
           refine ⟨rfl, ?_⟩; exact ((Pre.refl h).alloc _).keep)
        | (with_reducible refine CD.to (l06Plain_c s 30 34 34 30 rfl rfl hm _) ?_
           simp (maxSteps := 1000000) -implicitDefEqProofs only [push_cast, seval]
           refine ⟨rfl, ?_⟩; exact ((Pre.refl h).alloc _).keep)
        | (with_reducible refine CD.to (l06Name_c s hm _) ?_
           simp (maxSteps := 1000000) -implicitDefEqProofs only [push_cast, seval]
           refine ⟨rfl, ?_⟩; exact ((Pre.refl h).alloc _).keep)
        | skip
    with_reducible refine CC.mono (ReadPattern_s s _ hm) (fun v h3 hv => ?_)
    have p3 := hv.1
    with_reducible refine Exists.elim hv.2.form (fun rv hf => ?_)
    have ev := hf.1
    have z1 := hf.2.1
    have z2 := hf.2.2
    clear hf hv
    subst ev
    have g0 : h3.ob h.n = _ := (p3.ob h.n (lt_alloc _)).trans (alloc_same _)
    have l0 : h.n < h3.n := Nat.lt_of_lt_of_le (lt_alloc _) p3.n
    have pF : Pre h ((h3.alloc (AOb.cells [Value.slice none 0 0] .solo h3.n)).set h3.n (AOb.cells [rv] .solo h3.n)) := ((((Pre.refl h).alloc _).trans p3).alloc _).set (by have := p3.n; have : h.n + 1 ≤ h3.n := this; omega) _
    have tp : textP 16 s = ((readP s).isSome && plain s 47) := by simp [textP]
    rw [tp]
    simp (maxSteps := 1000000) -implicitDefEqProofs only [push_cast, seval, g0, rd_of g0, rd1_of g0, l0, z1, z2]
    cases hG : (readP s).isSome
    · simp (maxSteps := 1000000) -implicitDefEqProofs only [push_cast, seval, g0, rd_of g0, rd1_of g0, l0, z1, z2]
      exact pF.keep
    · simp (maxSteps := 1000000) -implicitDefEqProofs only [push_cast, seval, g0, rd_of g0, rd1_of g0, l0, z1, z2]
      with_reducible refine CD.to (l06Plain_c s 24 47 47 24 rfl rfl hm _) ?_
      simp (maxSteps := 1000000) -implicitDefEqProofs only [push_cast, seval]
      refine ⟨?_, pF.keep⟩
      rw [decide_eq_true (readP_small hG)]
      rfl
  · have e : textP op s = decide (s = ⟨#[]⟩) := by simp [textP, *]
    rw [e]
    refine CC.ofN Try.func108 Try.ntmps108 Try.results108 rfl (by decide) (by kernel_rfl) ?_
    simp (maxSteps := 1000000) -implicitDefEqProofs only [push_cast, seval, y1, y2, decide_eq_false n1, decide_eq_false n2, decide_eq_false n3, decide_eq_false n4, decide_eq_false n16, decide_eq_false n18, decide_eq_false n19, decide_eq_false n20, decide_eq_false n21, decide_eq_false n25]
    exact ((Pre.refl h).alloc _).keep
end Go.Proofs.Ytciajhpeikemoaa
namespace Go.Proofs.Ytciajhpeikemoaa
open Go Go.Sim Go.Proofs
set_option linter.unusedSimpArgs false
set_option linter.unusedVariables false
set_option maxRecDepth 100000
set_option maxHeartbeats 1000000
theorem getD_eq {α : Type} (l : List α) (i : Nat) (d : α) (h : i < l.length) : l.getD i d = l[i] := by simp [List.getD_eq_getElem?_getD, h]
theorem nodeOp_at (L : List (Nd × Value)) (z : Int) (k : Nat) (hk : k < L.length) (e : z = k) : nodeOp (L.map Prod.fst) z = L[k].1.op := by
  subst e
  unfold nodeOp
  rw [Int.toNat_natCast, getD_eq _ _ _ (by rw [List.length_map]; exact hk), List.getElem_map]
theorem allN_true {n : Nat} {p : Nat → Bool} (h : ∀ i, i < n → p i = true) : allN n p = true := by
  simp only [allN, List.all_eq_true, List.mem_range]; exact h
theorem allN_false {n : Nat} {p : Nat → Bool} {i : Nat} (hi : i < n) (e : p i = false) : allN n p = false := by
  simp only [allN, List.all_eq_false, List.mem_range]
  exact ⟨i, hi, by rw [e]; decide⟩
theorem kidsAhead_z (v : Value) (l : List Int) (at_ : Nat) (h : AH) (r : RdV h v 1 encZ l) (hl : l.length ≤ 1048576) (ha : at_ ≤ 1048576) :
    CD Try.prog 57 [v, .int .i64 (at_ : Nat)] h (.bool (allN l.length fun k => inB (l.getD k 0) 0 ((at_ : Int) - 1))) h := by
  refine CD.withBig (fun big => ?_)
  refine CD.quiet ?_ (low_bool _ _)
  obtain ⟨A, c, rfl, hR⟩ := r.rde (fun _ => rfl)
  refine CC.ofN Try.func57 Try.ntmps57 Try.results57 rfl (by decide) (by kernel_rfl) ?_
  simp (maxSteps := 1000000) -implicitDefEqProofs only [push_cast, seval]
  refine WC.loopA (by kernel_rfl) [9] [4, 6, 10, 11, 12, 13, 14, 15, 16, 17, 18] (fun i : Nat => [.int .i64 i]) (fun i h' => (i ≤ l.length ∧ ∀ k, k < i → inB (l.getD k 0) 0 ((at_ : Int) - 1) = true) ∧ Pre h h') (fun i => l.length - i) 0 (by kernel_rfl) ⟨⟨Nat.zero_le _, fun k hk => by omega⟩, Pre.refl _⟩ ?_
  intro i g h1 hJ
  have hi := hJ.1.1
  have hj := hJ.1.2
  have p1 := hJ.2
  clear hJ
  simp (maxSteps := 1000000) -implicitDefEqProofs only [push_cast, seval]
  with_reducible refine bcase_d (fun hb => ?_) (fun hb => ?_)
  · have hi' : i < l.length := by omega
    have hg := getD_eq l i 0 hi'
    with_reducible refine hR.use big p1 hi' (fun id off eA hlt hr => ?_)
    subst eA
    rw [← hg] at hr
    generalize hZ : l.getD i 0 = Z at *
    simp only [encZ] at hr
    have r0 := rd_1 hr
    simp (maxSteps := 1000000) -implicitDefEqProofs only [push_cast, seval, hr, r0, hlt]
    refine And.intro (by omega) (And.intro (by omega) ?_)
    rw [show IntKind.i64.wrap ((at_ : Int) - 1) = (at_ : Int) - 1 by rw [w64 (by omega) (by omega)]]
    with_reducible refine CD.to (within_c _ _ _ _) ?_
    cases hin : inB Z 0 ((at_ : Int) - 1)
    · simp (maxSteps := 1000000) -implicitDefEqProofs only [push_cast, seval]
      refine ⟨?_, p1.keep⟩
      rw [allN_false hi' (by rw [hZ]; exact hin)]
    · simp (maxSteps := 1000000) -implicitDefEqProofs only [push_cast, seval]
      rw [wrapSucc (by omega)]
      exact ⟨i + 1, by kernel_rfl, ⟨⟨by omega, fun k hk => (Nat.lt_succ_iff_lt_or_eq.1 hk).elim (hj k) (fun e => by subst e; rw [hZ]; exact hin)⟩, p1⟩, by omega⟩
  · have ei : i = l.length := by omega
    subst ei
    simp (maxSteps := 1000000) -implicitDefEqProofs only [push_cast, seval]
    rw [allN_true hj]
    exact ⟨rfl, p1.keep⟩
theorem kidsFit_c (L : List (Nd × Value)) (R : List Ru) (vN vR kv : Value) (x : Nd) (h : AH) (w : RdG h vN vR L R) (r : RdV h kv 1 encZ x.kids) (hl : x.kids.length ≤ 1048576) (hn : L.length ≤ 1048576) (hin : ∀ k, k < x.kids.length → ∃ m : Nat, x.kids.getD k 0 = m ∧ m < L.length) :
    CD Try.prog 59 [.agg #[vN, vR], .agg #[.int .i64 x.op, .string x.text, kv]] h (.bool ((allN x.kids.length fun k => kidP x.op k (nodeOp (L.map Prod.fst) (x.kids.getD k 0))) && inB x.kids.length (manyP x.op).1 (manyP x.op).2)) h := by
  refine CD.withBig (fun big => ?_)
  refine CD.quiet ?_ (low_bool _ _)
  have y1 := w.nodes.one
  have y2 := w.rules.one
  obtain ⟨A, c, rfl, hR⟩ := r.rde (fun _ => rfl)
  obtain ⟨B, d, rfl, hN⟩ := w.nodes.rde encD_len
  have hcs : (x.op = 22) ∨ (x.op ≠ 22 ∧ x.op = 24) ∨ (x.op ≠ 22 ∧ x.op ≠ 24) := by omega
  refine CC.ofN Try.func59 Try.ntmps59 Try.results59 rfl (by decide) (by kernel_rfl) ?_
  simp (maxSteps := 1000000) -implicitDefEqProofs only [push_cast, seval, y1, y2]
  with_reducible refine CD.to (kidRange_c _ _) ?_
  simp (maxSteps := 1000000) -implicitDefEqProofs only [push_cast, seval, y1, y2]
  have p0 : Pre h ((h.alloc (.cells [.slice B L.length d, vR] .solo h.n)).alloc (.cells [.int .i64 x.op, .string x.text, .slice A x.kids.length c] .solo (h.n + 1))) := ((Pre.refl h).alloc _).alloc _
  have c0 : ((h.alloc (.cells [.slice B L.length d, vR] .solo h.n)).alloc (.cells [.int .i64 x.op, .string x.text, .slice A x.kids.length c] .solo (h.n + 1))).ob h.n = .cells [.slice B L.length d, vR] .solo h.n := (by (try simp (maxSteps := 1000000) -implicitDefEqProofs only [push_cast, seval, rdOb]); try rfl)
  have c1 : ((h.alloc (.cells [.slice B L.length d, vR] .solo h.n)).alloc (.cells [.int .i64 x.op, .string x.text, .slice A x.kids.length c] .solo (h.n + 1))).ob (h.n + 1) = .cells [.int .i64 x.op, .string x.text, .slice A x.kids.length c] .solo (h.n + 1) := (by (try simp (maxSteps := 1000000) -implicitDefEqProofs only [push_cast, seval, rdOb]); try rfl)
  have n0 : ((h.alloc (.cells [.slice B L.length d, vR] .solo h.n)).alloc (.cells [.int .i64 x.op, .string x.text, .slice A x.kids.length c] .solo (h.n + 1))).n = h.n + 2 := rfl
  generalize ((h.alloc (.cells [.slice B L.length d, vR] .solo h.n)).alloc (.cells [.int .i64 x.op, .string x.text, .slice A x.kids.length c] .solo (h.n + 1))) = h0 at *
  have l0 : h.n < h0.n := by omega
  have l1 : h.n + 1 < h0.n := by omega
  refine WC.loopA (by kernel_rfl) [19] [4, 7, 8, 9, 20, 21, 22, 23, 24, 25, 26, 27, 28, 29, 30, 31, 32, 33, 34, 35, 36, 37, 38, 39, 40, 41, 42, 43, 44, 45, 46, 47, 48, 49, 50, 51, 52, 53, 54] (fun i : Nat => [.int .i64 i]) (fun i h' => (i ≤ x.kids.length ∧ ∀ k, k < i → kidP x.op k (nodeOp (L.map Prod.fst) (x.kids.getD k 0)) = true) ∧ Pre h0 h') (fun i => x.kids.length - i) 0 (by kernel_rfl) ⟨⟨Nat.zero_le _, fun k hk => by omega⟩, Pre.refl _⟩ ?_
  intro i g h1 hJ
  have hi := hJ.1.1
  have hj := hJ.1.2
  have p1 := hJ.2
  clear hJ
  have pre1 := p0.trans p1
  have d0 : h1.ob h.n = _ := (p1.ob _ l0).trans c0
  have d1 : h1.ob (h.n + 1) = _ := (p1.ob _ l1).trans c1
  have m0 : h.n < h1.n := Nat.lt_of_lt_of_le l0 p1.n
  have m1 : h.n + 1 < h1.n := Nat.lt_of_lt_of_le l1 p1.n
  simp (maxSteps := 1000000) -implicitDefEqProofs only [push_cast, seval, d0, rd_of d0, rd1_of d0, d1, rd_of d1, rd1_of d1, m0, m1]
  with_reducible refine bcase_d (fun hb => ?_) (fun hb => ?_)
  · have hi' : i < x.kids.length := by omega
    have hg := getD_eq x.kids i 0 hi'
    have hm := hin i hi'
    with_reducible refine Exists.elim hm (fun m hm => ?_)
    have em := hm.1
    have hm' := hm.2
    clear hm
    have hop := nodeOp_at L _ m hm' em
    with_reducible refine hR.use big pre1 hi' (fun id off eA hlt hr => ?_)
    with_reducible refine hN.use big pre1 hm' (fun id2 off2 eB hlt2 hr2 => ?_)
    subst eA
    subst eB
    rw [← hg, em] at hr
    have hno : kidP x.op i (L[m].1.op) = false → (allN x.kids.length fun k => kidP x.op k (nodeOp (L.map Prod.fst) (x.kids.getD k 0))) = false := fun e => allN_false hi' (by rw [hop]; exact e)
    have hyes : kidP x.op i (L[m].1.op) = true → ∀ k, k < i + 1 → kidP x.op k (nodeOp (L.map Prod.fst) (x.kids.getD k 0)) = true := fun e k hk => (Nat.lt_succ_iff_lt_or_eq.1 hk).elim (hj k) (fun e2 => by subst e2; rw [hop]; exact e)
    simp only [encZ] at hr
    simp only [encD] at hr2
    have r0 := rd_1 hr
    have q0 := (rd_3 hr2).1
    generalize L[m].1.op = O at *
    simp (maxSteps := 1000000) -implicitDefEqProofs only [push_cast, seval, d0, rd_of d0, rd1_of d0, d1, rd_of d1, rd1_of d1, m0, m1, hr, r0, hlt, q0, hlt2]
    repeat (with_reducible refine And.intro ?_ ?_; · (first | omega | decide))
    repeat' (first | with_reducible (first | exact Keep.refl _ _ | assumption | exact byte_lt _ _ | apply Keep.alloc | (refine Keep.set ?_ ?_; rotate_left; · omega) | apply Pre.alloc | apply Pre.set | exact Pre.refl _ | exact le_alloc _ | (refine Pre.keep ?_; assumption) | (refine Pre.n ?_; assumption)) | ((with_reducible (first | refine CD.to (isExpr_c _ _) ?_ | refine CQ.pure (fun _ => isExpr_c _ _) ?_ | refine bcase_d (fun hb => ?_) (fun hb => ?_) | refine bcase_mk (fun hb => ?_) (fun hb => ?_))) <;> try simp (maxSteps := 1000000) -implicitDefEqProofs only [push_cast, seval, d0, rd_of d0, rd1_of d0, d1, rd_of d1, rd1_of d1, m0, m1, hr, r0, hlt, q0, hlt2]) | with_reducible refine And.intro ?_ ?_ | omega | (simp only [alloc_n, set_n, kill_n]; omega) | (exfalso; omega))
    all_goals first
      | exact pre1.keep
      | (rw [hno (by simp only [kidP]; grind)]; rfl)
      | (rw [wrapSucc (by omega)]
         exact ⟨i + 1, by kernel_rfl, ⟨⟨by omega, hyes (by simp only [kidP]; grind)⟩, p1⟩, by omega⟩)
  · have ei : i = x.kids.length := by omega
    subst ei
    rw [allN_true hj]
    simp (maxSteps := 1000000) -implicitDefEqProofs only [push_cast, seval, d0, rd_of d0, rd1_of d0, d1, rd_of d1, rd1_of d1, m0, m1]
    repeat' (first | with_reducible (first | exact Keep.refl _ _ | assumption | exact byte_lt _ _ | apply Keep.alloc | (refine Keep.set ?_ ?_; rotate_left; · omega) | apply Pre.alloc | apply Pre.set | exact Pre.refl _ | exact le_alloc _ | (refine Pre.keep ?_; assumption) | (refine Pre.n ?_; assumption)) | ((with_reducible (first | refine CD.to (within_c _ _ _ _) ?_ | refine CQ.pure (fun _ => within_c _ _ _ _) ?_ | refine bcase_d (fun hb => ?_) (fun hb => ?_) | refine bcase_mk (fun hb => ?_) (fun hb => ?_))) <;> try simp (maxSteps := 1000000) -implicitDefEqProofs only [push_cast, seval, d0, rd_of d0, rd1_of d0, d1, rd_of d1, rd1_of d1, m0, m1]) | with_reducible refine And.intro ?_ ?_ | omega | (simp only [alloc_n, set_n, kill_n]; omega) | (exfalso; omega))
    all_goals (simp only [manyP]; simp [*])
theorem inB_nat {z : Int} {n : Nat} (e : inB z 0 ((n : Int) - 1) = true) : ∃ m : Nat, z = m ∧ m < n := by
  simp only [inB, Bool.and_eq_true, decide_eq_true_eq] at e
  exact ⟨z.toNat, by omega, by omega⟩
theorem ruleFits_c (L : List (Nd × Value)) (R : List Ru) (vN vR : Value) (wh cd ac : Int) (h : AH) (w : RdG h vN vR L R) (hn : L.length ≤ 1048576) :
    CD Try.prog 60 [.agg #[vN, vR], .agg #[.int .i64 wh, .int .i64 cd, .int .i64 ac]] h (.bool (ruleP (L.map Prod.fst) ⟨wh, cd, ac⟩)) h := by
  refine CD.withBig (fun big => ?_)
  refine CD.quiet ?_ (low_bool _ _)
  have y1 := w.nodes.one
  have y2 := w.rules.one
  obtain ⟨B, d, rfl, hN⟩ := w.nodes.rde encD_len
  have hlen : (L.map Prod.fst).length = L.length := List.length_map _
  have eP : ruleP (L.map Prod.fst) ⟨wh, cd, ac⟩ = (inB wh 1 3 && inB ac 0 ((L.length : Int) - 1) && decide (nodeOp (L.map Prod.fst) ac = 24) && (decide (cd = -1) || (decide (wh = 2) && inB cd 0 ((L.length : Int) - 1) && isEx (nodeOp (L.map Prod.fst) cd)))) := by rw [ruleP, hlen]
  rw [eP]
  have hw1 : IntKind.i64.wrap ((L.length : Int) - 1) = (L.length : Int) - 1 := by rw [w64 (by omega) (by omega)]
  have p0 : Pre h ((h.alloc (.cells [.slice B L.length d, vR] .solo h.n)).alloc (.cells [.int .i64 wh, .int .i64 cd, .int .i64 ac] .solo (h.n + 1))) := ((Pre.refl h).alloc _).alloc _
  have c0 : ((h.alloc (.cells [.slice B L.length d, vR] .solo h.n)).alloc (.cells [.int .i64 wh, .int .i64 cd, .int .i64 ac] .solo (h.n + 1))).ob h.n = .cells [.slice B L.length d, vR] .solo h.n := (by (try simp (maxSteps := 1000000) -implicitDefEqProofs only [push_cast, seval, rdOb]); try rfl)
  have c1 : ((h.alloc (.cells [.slice B L.length d, vR] .solo h.n)).alloc (.cells [.int .i64 wh, .int .i64 cd, .int .i64 ac] .solo (h.n + 1))).ob (h.n + 1) = .cells [.int .i64 wh, .int .i64 cd, .int .i64 ac] .solo (h.n + 1) := (by (try simp (maxSteps := 1000000) -implicitDefEqProofs only [push_cast, seval, rdOb]); try rfl)
  have n0 : ((h.alloc (.cells [.slice B L.length d, vR] .solo h.n)).alloc (.cells [.int .i64 wh, .int .i64 cd, .int .i64 ac] .solo (h.n + 1))).n = h.n + 2 := rfl
  cases hW : inB wh 1 3
  · refine CC.ofN Try.func60 Try.ntmps60 Try.results60 rfl (by decide) (by kernel_rfl) ?_
    simp (maxSteps := 1000000) -implicitDefEqProofs only [push_cast, seval, y1, y2]
    with_reducible refine CD.to (within_c _ _ _ _) ?_
    rw [hW]
    simp (maxSteps := 1000000) -implicitDefEqProofs only [push_cast, seval, y1, y2]
    exact p0.keep
  cases hA : inB ac 0 ((L.length : Int) - 1)
  · refine CC.ofN Try.func60 Try.ntmps60 Try.results60 rfl (by decide) (by kernel_rfl) ?_
    simp (maxSteps := 1000000) -implicitDefEqProofs only [push_cast, seval, y1, y2]
    with_reducible refine CD.to (within_c _ _ _ _) ?_
    rw [hW]
    simp (maxSteps := 1000000) -implicitDefEqProofs only [push_cast, seval, y1, y2, hw1]
    with_reducible refine CD.to (within_c _ _ _ _) ?_
    rw [hA]
    simp (maxSteps := 1000000) -implicitDefEqProofs only [push_cast, seval, y1, y2]
    exact p0.keep
  obtain ⟨m, em, hm⟩ := inB_nat hA
  subst em
  have ho := nodeOp_at L m m hm rfl
  refine hN.use big p0 hm (fun id2 off2 eB hlt2 hr2 => ?_)
  subst eB
  rw [ho]
  simp only [encD] at hr2
  have q0 := (rd_3 hr2).1
  generalize L[m].1.op = O at *
  refine CC.ofN Try.func60 Try.ntmps60 Try.results60 rfl (by decide) (by kernel_rfl) ?_
  simp (maxSteps := 1000000) -implicitDefEqProofs only [push_cast, seval, y1, y2]
  with_reducible refine CD.to (within_c _ _ _ _) ?_
  rw [hW]
  simp (maxSteps := 1000000) -implicitDefEqProofs only [push_cast, seval, y1, y2, hw1]
  with_reducible refine CD.to (within_c _ _ _ _) ?_
  rw [hA]
  simp (maxSteps := 1000000) -implicitDefEqProofs only [push_cast, seval, y1, y2, hr2, hlt2, q0]
  repeat (with_reducible refine And.intro ?_ ?_; · (first | omega | decide))
  simp (maxSteps := 1000000) -implicitDefEqProofs only [push_cast, seval, y1, y2, hr2, hlt2, q0, hw1]
  with_reducible refine bcase_d (fun hO => ?_) (fun hO => ?_)
  rotate_left
  · simp (maxSteps := 1000000) -implicitDefEqProofs only [push_cast, seval]
    rw [decide_eq_false hO]
    exact ⟨rfl, p0.keep⟩
  rw [decide_eq_true hO]
  simp (maxSteps := 1000000) -implicitDefEqProofs only [push_cast, seval, y1, y2]
  with_reducible refine bcase_d (fun hC => ?_) (fun hC => ?_)
  · simp (maxSteps := 1000000) -implicitDefEqProofs only [push_cast, seval]
    rw [decide_eq_true hC]
    exact ⟨rfl, p0.keep⟩
  rw [decide_eq_false hC]
  simp (maxSteps := 1000000) -implicitDefEqProofs only [push_cast, seval, y1, y2]
  with_reducible refine bcase_d (fun hW2 => ?_) (fun hW2 => ?_)
  rotate_left
  · simp (maxSteps := 1000000) -implicitDefEqProofs only [push_cast, seval]
    rw [decide_eq_false hW2]
    exact ⟨rfl, p0.keep⟩
  rw [decide_eq_true hW2]
  simp (maxSteps := 1000000) -implicitDefEqProofs only [push_cast, seval, y1, y2, hw1]
  with_reducible refine CD.to (within_c _ _ _ _) ?_
  cases hB : inB cd 0 ((L.length : Int) - 1)
  · simp (maxSteps := 1000000) -implicitDefEqProofs only [push_cast, seval]
    exact p0.keep
  have hm2 := inB_nat hB
  with_reducible refine Exists.elim hm2 (fun m2 hm2 => ?_)
  have em2 := hm2.1
  have hm2' := hm2.2
  clear hm2
  subst em2
  have ho2 := nodeOp_at L m2 m2 hm2' rfl
  with_reducible refine hN.use big p0 hm2' (fun id3 off3 eB hlt3 hr3 => ?_)
  with_reducible injection eB with eB
  with_reducible injection eB with e1 e2
  subst e1 e2
  rw [ho2]
  simp only [encD] at hr3
  have q3 := (rd_3 hr3).1
  generalize L[m2].1.op = O2 at *
  simp (maxSteps := 1000000) -implicitDefEqProofs only [push_cast, seval, y1, y2, hr3, hlt3, q3, hw1]
  repeat (with_reducible refine And.intro ?_ ?_; · (first | omega | decide))
  simp (maxSteps := 1000000) -implicitDefEqProofs only [push_cast, seval, y1, y2, hr3, hlt3, q3, hw1]
  repeat' (first | with_reducible (first | exact Keep.refl _ _ | assumption | exact byte_lt _ _ | apply Keep.alloc | (refine Keep.set ?_ ?_; rotate_left; · omega) | apply Pre.alloc | apply Pre.set | exact Pre.refl _ | exact le_alloc _ | (refine Pre.keep ?_; assumption) | (refine Pre.n ?_; assumption)) | ((with_reducible (first | refine CD.to (isExpr_c _ _) ?_ | refine CQ.pure (fun _ => isExpr_c _ _) ?_ | refine bcase_d (fun hb => ?_) (fun hb => ?_) | refine bcase_mk (fun hb => ?_) (fun hb => ?_))) <;> try simp (maxSteps := 1000000) -implicitDefEqProofs only [push_cast, seval, y1, y2, hr3, hlt3, q3, hw1]) | with_reducible refine And.intro ?_ ?_ | omega | (simp only [alloc_n, set_n, kill_n]; omega) | (exfalso; omega))
end Go.Proofs.Ytciajhpeikemoaa
namespace Go.Proofs.Ytciajhpeikemoaa
open Go Go.Sim Go.Proofs
set_option linter.unusedSimpArgs false
set_option linter.unusedVariables false
set_option maxRecDepth 100000
set_option maxHeartbeats 1000000
structure SzG (L : List (Nd × Value)) (R : List Ru) : Prop where
  n : L.length ≤ 1048576
  r : R.length ≤ 1048576
  text : ∀ x ∈ L, x.1.text.size ≤ 1048576
  kids : ∀ x ∈ L, x.1.kids.length ≤ 1048576
theorem allN_and (n : Nat) (p q : Nat → Bool) : (allN n fun k => p k && q k) = (allN n p && allN n q) := by
  rw [Bool.eq_iff_iff]
  simp only [allN, List.all_eq_true, List.mem_range, Bool.and_eq_true]
  exact ⟨fun h => ⟨fun k hk => (h k hk).1, fun k hk => (h k hk).2⟩, fun h k hk => ⟨h.1 k hk, h.2 k hk⟩⟩
theorem nodeP_i (N : List Nd) (i : Nat) (x : Nd) : nodeP N i x = (inB x.op 1 25 && (allN x.kids.length fun k => inB (x.kids.getD k 0) 0 ((i : Int) - 1)) && textP x.op x.text && ((allN x.kids.length fun k => kidP x.op k (nodeOp N (x.kids.getD k 0))) && inB x.kids.length (manyP x.op).1 (manyP x.op).2)) := by
  rw [nodeP, allN_and]
  generalize inB x.op 1 25 = a
  generalize textP x.op x.text = b
  generalize inB (x.kids.length : Int) (manyP x.op).1 (manyP x.op).2 = c
  generalize (allN x.kids.length fun k => inB (x.kids.getD k 0) 0 ((i : Int) - 1)) = d
  generalize (allN x.kids.length fun k => kidP x.op k (nodeOp N (x.kids.getD k 0))) = e
  cases a <;> cases b <;> cases c <;> cases d <;> cases e <;> rfl
theorem programOk_split (L : List (Nd × Value)) (R : List Ru) : programOk ⟨L.map Prod.fst, R⟩ = (decide (L.length ≤ 200) && decide (R.length ≤ 12) && allN L.length (fun i => nodeP (L.map Prod.fst) i ((L.map Prod.fst).getD i ⟨0, ⟨#[]⟩, []⟩)) && R.all (ruleP (L.map Prod.fst))) := by
  rw [programOk, List.length_map]
theorem getD_map (L : List (Nd × Value)) (i : Nat) (h : i < L.length) : (L.map Prod.fst).getD i ⟨0, ⟨#[]⟩, []⟩ = L[i].1 := by
  rw [getD_eq _ _ _ (by rw [List.length_map]; exact h), List.getElem_map]
theorem program_no_node {L : List (Nd × Value)} {R : List Ru} {i : Nat} (h : i < L.length) (e : nodeP (L.map Prod.fst) i L[i].1 = false) : programOk ⟨L.map Prod.fst, R⟩ = false := by
  rw [programOk_split, allN_false (i := i) h (by rw [getD_map L i h]; exact e)]; simp
theorem program_no_rule {L : List (Nd × Value)} {R : List Ru} {i : Nat} (h : i < R.length) (e : ruleP (L.map Prod.fst) R[i] = false) : programOk ⟨L.map Prod.fst, R⟩ = false := by
  rw [programOk_split, List.all_eq_false.2 ⟨_, List.getElem_mem h, by simp [e]⟩]; simp
theorem program_rest {L : List (Nd × Value)} {R : List Ru} (hn : ∀ i (h : i < L.length), nodeP (L.map Prod.fst) i L[i].1 = true) (hr : ∀ i (h : i < R.length), ruleP (L.map Prod.fst) R[i] = true) : programOk ⟨L.map Prod.fst, R⟩ = (decide (L.length ≤ 200) && decide (R.length ≤ 12)) := by
  rw [programOk_split, allN_true (fun i hi => by rw [getD_map L i hi]; exact hn i hi), List.all_eq_true.2 (fun x hx => by obtain ⟨i, hi, rfl⟩ := List.getElem_of_mem hx; exact hr i hi)]
  simp
theorem ahead_in {kids : List Int} {i n : Nat} (hi : i < n) (e : (allN kids.length fun k => inB (kids.getD k 0) 0 ((i : Int) - 1)) = true) : ∀ k, k < kids.length → ∃ m : Nat, kids.getD k 0 = m ∧ m < n := fun k hk => by
  simp only [allN, List.all_eq_true, List.mem_range] at e
  obtain ⟨m, e1, e2⟩ := inB_nat (e k hk)
  exact ⟨m, e1, by omega⟩
theorem ProgramOk_i (L : List (Nd × Value)) (R : List Ru) (vN vR : Value) (h : AH) (w : RdG h vN vR L R) (hz : SzG L R) :
    CD Try.prog 22 [.agg #[vN, vR]] h (.bool (programOk ⟨L.map Prod.fst, R⟩)) h := by
  refine CD.withBig (fun big => ?_)
  refine CD.quiet ?_ (low_bool _ _)
  have zn := hz.n
  have zr := hz.r
  have y1 := w.nodes.one
  have y2 := w.rules.one
  have w0 := w
  obtain ⟨B, d, rfl, hN⟩ := w.nodes.rde encD_len
  obtain ⟨C, c, rfl, hR⟩ := w.rules.rde (fun _ => rfl)
  refine CC.ofN Try.func22 Try.ntmps22 Try.results22 rfl (by decide) (by kernel_rfl) ?_
  simp (maxSteps := 1000000) -implicitDefEqProofs only [push_cast, seval]
  have p0 : Pre h (h.alloc (.cells [.slice B L.length d, .slice C R.length c] .solo h.n)) := (Pre.refl h).alloc _
  have c0 : (h.alloc (.cells [.slice B L.length d, .slice C R.length c] .solo h.n)).ob h.n = _ := alloc_same _
  have n0 : (h.alloc (.cells [.slice B L.length d, .slice C R.length c] .solo h.n)).n = h.n + 1 := rfl
  generalize (h.alloc (.cells [.slice B L.length d, .slice C R.length c] .solo h.n)) = h0 at *
  have l0 : h.n < h0.n := by omega
  refine WC.loopA (by kernel_rfl) [10] [2, 3, 4, 11, 12, 13, 14, 15, 16, 17, 18, 19, 20, 21, 22, 23, 24, 25, 26, 27, 28, 29, 30, 31, 32, 33, 34, 35, 36, 37] (fun i : Nat => [.int .i64 i]) (fun i h' => (i ≤ L.length ∧ ∀ k (hk : k < L.length), k < i → nodeP (L.map Prod.fst) k L[k].1 = true) ∧ Pre h0 h') (fun i => L.length - i) 0 (by kernel_rfl) ⟨⟨Nat.zero_le _, fun k hk h0 => by omega⟩, Pre.refl _⟩ ?_
  intro i g h1 hJ
  have hi := hJ.1.1
  have hj := hJ.1.2
  have p1 := hJ.2
  clear hJ
  have pre1 := p0.trans p1
  have c1 : h1.ob h.n = _ := (p1.ob _ l0).trans c0
  have l1 : h.n < h1.n := Nat.lt_of_lt_of_le l0 p1.n
  simp (maxSteps := 1000000) -implicitDefEqProofs only [push_cast, seval, c1, rd_of c1, rd1_of c1, l1]
  with_reducible refine bcase_d (fun hb => ?_) (fun hb => ?_)
  · have hi' : i < L.length := by omega
    have tz := hz.text _ (List.getElem_mem hi')
    have kz := hz.kids _ (List.getElem_mem hi')
    have kr := w0.kids _ (List.getElem_mem hi')
    have hno := fun e => program_no_node (R := R) hi' e
    have hyes : nodeP (L.map Prod.fst) i L[i].1 = true → ∀ k (hk : k < L.length), k < i + 1 → nodeP (L.map Prod.fst) k L[k].1 = true := fun e k hk h2 => by
      by_cases e2 : k = i
      · subst e2; exact e
      · exact hj k hk (by omega)
    rw [nodeP_i] at hno hyes
    with_reducible refine hN.use big pre1 hi' (fun id off eA hlt hr => ?_)
    subst eA
    simp only [encD] at hr
    have r0 := (rd_3 hr).1
    have r1 := (rd_3 hr).2.1
    have r2 := (rd_3 hr).2.2
    generalize hXv : L[i].2 = kv at *
    generalize hXn : L[i].1 = X at *
    have y3 := kr.one
    have y4 := rdv_cells kr
    simp (maxSteps := 1000000) -implicitDefEqProofs only [push_cast, seval, hr, r0, r1, r2, hlt, y3, y4]
    repeat (with_reducible refine And.intro ?_ ?_; · (first | omega | decide))
    have pp : Pre h1 ((h1.alloc (.cells [.int .i64 0, .string ⟨#[]⟩, .slice none 0 0] .solo h1.n)).set h1.n (.cells [.int .i64 X.op, .string X.text, kv] .solo h1.n)) := ((Pre.refl h1).alloc _).set (Nat.le_refl _) _
    have e1 : ((h1.alloc (.cells [.int .i64 0, .string ⟨#[]⟩, .slice none 0 0] .solo h1.n)).set h1.n (.cells [.int .i64 X.op, .string X.text, kv] .solo h1.n)).ob h1.n = _ := set_same _ _
    have m1 : ((h1.alloc (.cells [.int .i64 0, .string ⟨#[]⟩, .slice none 0 0] .solo h1.n)).set h1.n (.cells [.int .i64 X.op, .string X.text, kv] .solo h1.n)).n = h1.n + 1 := rfl
    generalize ((h1.alloc (.cells [.int .i64 0, .string ⟨#[]⟩, .slice none 0 0] .solo h1.n)).set h1.n (.cells [.int .i64 X.op, .string X.text, kv] .solo h1.n)) = h2 at *
    have e0 := (pp.ob h.n l1).trans c1
    have lx : h1.n < h2.n := by omega
    have lp : h.n < h2.n := by omega
    have pre2 := pre1.trans pp
    with_reducible refine CD.to (within_c _ _ _ _) ?_
    cases hW : inB X.op 1 25
    · simp (maxSteps := 1000000) -implicitDefEqProofs only [push_cast, seval]
      rw [hno (by rw [hW]; rfl)]
      exact ⟨rfl, pre2.keep⟩
    simp (maxSteps := 1000000) -implicitDefEqProofs only [push_cast, seval, e1, rd_of e1, rd1_of e1, e0, rd_of e0, rd1_of e0, lx, lp, y3, y4]
    with_reducible refine CD.to (kidsAhead_z kv X.kids i h2 (kr.pre pre2) kz (by omega)) ?_
    cases hA : allN X.kids.length fun k => inB (X.kids.getD k 0) 0 ((i : Int) - 1)
    · simp (maxSteps := 1000000) -implicitDefEqProofs only [push_cast, seval]
      rw [hno (by rw [hW, hA]; rfl)]
      exact ⟨rfl, pre2.keep⟩
    simp (maxSteps := 1000000) -implicitDefEqProofs only [push_cast, seval, e1, rd_of e1, rd1_of e1, e0, rd_of e0, rd1_of e0, lx, lp, y3, y4]
    with_reducible refine CD.to (textFits_c X.op X.text kv h2 y3 y4 tz) ?_
    cases hT : textP X.op X.text
    · simp (maxSteps := 1000000) -implicitDefEqProofs only [push_cast, seval]
      rw [hno (by rw [hW, hA, hT]; rfl)]
      exact ⟨rfl, pre2.keep⟩
    simp (maxSteps := 1000000) -implicitDefEqProofs only [push_cast, seval, e1, rd_of e1, rd1_of e1, e0, rd_of e0, rd1_of e0, lx, lp, y3, y4, y1, y2]
    with_reducible refine CD.to (kidsFit_c L R _ _ kv X h2 (w0.pre pre2) (kr.pre pre2) kz zn (ahead_in hi' hA)) ?_
    rw [hW, hA, hT, Bool.true_and, Bool.true_and, Bool.true_and] at hno hyes
    cases hK : (allN X.kids.length fun k => kidP X.op k (nodeOp (L.map Prod.fst) (X.kids.getD k 0))) && inB X.kids.length (manyP X.op).1 (manyP X.op).2
    · simp (maxSteps := 1000000) -implicitDefEqProofs only [push_cast, seval]
      rw [hno hK]
      exact ⟨rfl, pre2.keep⟩
    · simp (maxSteps := 1000000) -implicitDefEqProofs only [push_cast, seval]
      rw [wrapSucc (by omega)]
      exact ⟨i + 1, by kernel_rfl, ⟨⟨by omega, hyes hK⟩, p1.trans pp⟩, by omega⟩
  have ei : i = L.length := by omega
  subst ei
  simp (maxSteps := 1000000) -implicitDefEqProofs only [push_cast, seval, c1, rd_of c1, rd1_of c1, l1]
  refine WC.loopA (by kernel_rfl) [41] [2, 6, 42, 43, 44, 45, 46, 47, 48, 49] (fun i : Nat => [.int .i64 i]) (fun i h' => (i ≤ R.length ∧ ∀ k (hk : k < R.length), k < i → ruleP (L.map Prod.fst) R[k] = true) ∧ Pre h1 h') (fun i => R.length - i) 0 (by kernel_rfl) ⟨⟨Nat.zero_le _, fun k hk h0 => by omega⟩, Pre.refl _⟩ ?_
  clear hb hi
  intro i g2 h2 hJ
  have hi := hJ.1.1
  have hj2 := hJ.1.2
  have p2 := hJ.2
  clear hJ
  have pre2 := pre1.trans p2
  have c2 : h2.ob h.n = _ := (p2.ob _ l1).trans c1
  have l2 : h.n < h2.n := Nat.lt_of_lt_of_le l1 p2.n
  simp (maxSteps := 1000000) -implicitDefEqProofs only [push_cast, seval, c2, rd_of c2, rd1_of c2, l2]
  with_reducible refine bcase_d (fun hb => ?_) (fun hb => ?_)
  · have hi' : i < R.length := by omega
    have hno := fun e => program_no_rule (L := L) hi' e
    have hyes : ruleP (L.map Prod.fst) R[i] = true → ∀ k (hk : k < R.length), k < i + 1 → ruleP (L.map Prod.fst) R[k] = true := fun e k hk h2 => by
      by_cases e2 : k = i
      · subst e2; exact e
      · exact hj2 k hk (by omega)
    with_reducible refine hR.use big pre2 hi' (fun id off eA hlt hr => ?_)
    subst eA
    simp only [encU] at hr
    have r0 := (rd_3 hr).1
    have r1 := (rd_3 hr).2.1
    have r2 := (rd_3 hr).2.2
    generalize hXn : R[i] = X at *
    simp (maxSteps := 1000000) -implicitDefEqProofs only [push_cast, seval, hr, r0, r1, r2, hlt]
    repeat (with_reducible refine And.intro ?_ ?_; · (first | omega | decide))
    have pp : Pre h2 ((h2.alloc (.cells [.int .i64 0, .int .i64 0, .int .i64 0] .solo h2.n)).set h2.n (.cells [.int .i64 X.when_, .int .i64 X.cond, .int .i64 X.act] .solo h2.n)) := ((Pre.refl h2).alloc _).set (Nat.le_refl _) _
    have e1 : ((h2.alloc (.cells [.int .i64 0, .int .i64 0, .int .i64 0] .solo h2.n)).set h2.n (.cells [.int .i64 X.when_, .int .i64 X.cond, .int .i64 X.act] .solo h2.n)).ob h2.n = _ := set_same _ _
    have m1 : ((h2.alloc (.cells [.int .i64 0, .int .i64 0, .int .i64 0] .solo h2.n)).set h2.n (.cells [.int .i64 X.when_, .int .i64 X.cond, .int .i64 X.act] .solo h2.n)).n = h2.n + 1 := rfl
    generalize ((h2.alloc (.cells [.int .i64 0, .int .i64 0, .int .i64 0] .solo h2.n)).set h2.n (.cells [.int .i64 X.when_, .int .i64 X.cond, .int .i64 X.act] .solo h2.n)) = h3 at *
    have e0 := (pp.ob h.n l2).trans c2
    have lx : h2.n < h3.n := by omega
    have lp : h.n < h3.n := by omega
    have pre3 := pre2.trans pp
    simp (maxSteps := 1000000) -implicitDefEqProofs only [push_cast, seval, e1, rd_of e1, rd1_of e1, e0, rd_of e0, rd1_of e0, lx, lp, y1, y2]
    with_reducible refine CD.to (ruleFits_c L R _ _ X.when_ X.cond X.act h3 (w0.pre pre3) zn) ?_
    cases hK : ruleP (L.map Prod.fst) ⟨X.when_, X.cond, X.act⟩
    · simp (maxSteps := 1000000) -implicitDefEqProofs only [push_cast, seval]
      rw [hno hK]
      exact ⟨rfl, pre3.keep⟩
    · simp (maxSteps := 1000000) -implicitDefEqProofs only [push_cast, seval]
      rw [wrapSucc (by omega)]
      exact ⟨i + 1, by kernel_rfl, ⟨⟨by omega, hyes hK⟩, p2.trans pp⟩, by omega⟩
  have ei : i = R.length := by omega
  subst ei
  rw [program_rest (fun i hi => hj i hi hi) (fun i hi => hj2 i hi hi)]
  simp (maxSteps := 1000000) -implicitDefEqProofs only [push_cast, seval, c2, rd_of c2, rd1_of c2, l2]
  repeat' (first | with_reducible (first | exact Keep.refl _ _ | assumption | exact byte_lt _ _ | apply Keep.alloc | (refine Keep.set ?_ ?_; rotate_left; · omega) | apply Pre.alloc | apply Pre.set | exact Pre.refl _ | exact le_alloc _ | (refine Pre.keep ?_; assumption) | (refine Pre.n ?_; assumption)) | ((with_reducible (first | refine bcase_d (fun hb => ?_) (fun hb => ?_) | refine bcase_mk (fun hb => ?_) (fun hb => ?_))) <;> try simp (maxSteps := 1000000) -implicitDefEqProofs only [push_cast, seval, c2, rd_of c2, rd1_of c2, l2]) | with_reducible refine And.intro ?_ ?_ | omega | (simp only [alloc_n, set_n, kill_n]; omega) | (exfalso; omega))
  all_goals (congr 1; rw [Bool.eq_iff_iff]; simp; omega)
end Go.Proofs.Ytciajhpeikemoaa
namespace Go.Proofs.Ytciajhpeikemoaa
open Go Go.Sim Go.Proofs
set_option linter.unusedSimpArgs false
set_option linter.unusedVariables false
set_option maxRecDepth 100000
set_option maxHeartbeats 1000000
theorem kidP_s (op : Int) (k : Nat) (kop : Int) : kidP op k kop = !(((decide (op = 24) || (decide (op = 22) && decide (0 < k))) == isEx kop) || (decide (op = 22) && decide (kop = 22))) := by
  have e : isEx 22 = false := by decide
  unfold kidP
  by_cases h1 : op = 22
  · subst h1
    by_cases h2 : 0 < k
    · by_cases h3 : kop = 22
      · subst h3; simp [h2, e]
      · cases hx : isEx kop <;> simp [h2, h3, hx]
    · by_cases h3 : kop = 22
      · subst h3; simp [h2, e]
      · cases hx : isEx kop <;> simp [h2, h3, hx]
  · by_cases h2 : op = 24
    · subst h2
      cases hx : isEx kop <;> simp [hx]
    · cases hx : isEx kop <;> simp [h1, h2, hx]
theorem l06Node_c (L : List (Nd × Value)) (R : List Ru) (vN vR : Value) (i : Nat) (h : AH) (w : RdG h vN vR L R) (hz : SzG L R) (hi : i < L.length) :
    CD Try.prog 53 [.agg #[vN, vR], .int .i64 (i : Nat)] h (.bool (nodeP (L.map Prod.fst) i L[i].1)) h := by
  refine CD.withBig (fun big => ?_)
  refine CD.quiet ?_ (low_bool _ _)
  have zn := hz.n
  have y1 := w.nodes.one
  have y2 := w.rules.one
  have w0 := w
  obtain ⟨B, d, rfl, hN⟩ := w.nodes.rde encD_len
  have tz := hz.text _ (List.getElem_mem hi)
  have kz := hz.kids _ (List.getElem_mem hi)
  have kr := w0.kids _ (List.getElem_mem hi)
  have p0 : Pre h (h.alloc (.cells [.slice B L.length d, vR] .solo h.n)) := (Pre.refl h).alloc _
  have c0 : (h.alloc (.cells [.slice B L.length d, vR] .solo h.n)).ob h.n = _ := alloc_same _
  have n0 : (h.alloc (.cells [.slice B L.length d, vR] .solo h.n)).n = h.n + 1 := rfl
  refine hN.use big p0 hi (fun id off eA hlt hr => ?_)
  subst eA
  simp only [encD] at hr
  have r0 := (rd_3 hr).1
  have r1 := (rd_3 hr).2.1
  have r2 := (rd_3 hr).2.2
  generalize hXv : L[i].2 = kv at *
  generalize hXn : L[i].1 = X at *
  have y3 := kr.one
  have y4 := rdv_cells kr
  have hw1 : IntKind.i64.wrap ((i : Int) - 1) = (i : Int) - 1 := by rw [w64 (by omega) (by omega)]
  refine CC.ofN Try.func53 Try.ntmps53 Try.results53 rfl (by decide) (by kernel_rfl) ?_
  simp (maxSteps := 1000000) -implicitDefEqProofs only [push_cast, seval, y1, y2]
  generalize (h.alloc (.cells [.slice (some ⟨id, off, none⟩) L.length d, vR] .solo h.n)) = h0 at *
  have l0 : h.n < h0.n := by omega
  simp (maxSteps := 1000000) -implicitDefEqProofs only [push_cast, seval, c0, rd_of c0, rd1_of c0, l0, hr, r0, r1, r2, hlt, y3, y4]
  repeat (with_reducible refine And.intro ?_ ?_; · (first | omega | decide))
  have pp : Pre h0 ((h0.alloc (.cells [.int .i64 0, .string ⟨#[]⟩, .slice none 0 0] .solo h0.n)).set h0.n (.cells [.int .i64 X.op, .string X.text, kv] .solo h0.n)) := ((Pre.refl h0).alloc _).set (Nat.le_refl _) _
  have e1 : ((h0.alloc (.cells [.int .i64 0, .string ⟨#[]⟩, .slice none 0 0] .solo h0.n)).set h0.n (.cells [.int .i64 X.op, .string X.text, kv] .solo h0.n)).ob h0.n = _ := set_same _ _
  have m1 : ((h0.alloc (.cells [.int .i64 0, .string ⟨#[]⟩, .slice none 0 0] .solo h0.n)).set h0.n (.cells [.int .i64 X.op, .string X.text, kv] .solo h0.n)).n = h0.n + 1 := rfl
  generalize ((h0.alloc (.cells [.int .i64 0, .string ⟨#[]⟩, .slice none 0 0] .solo h0.n)).set h0.n (.cells [.int .i64 X.op, .string X.text, kv] .solo h0.n)) = h1 at *
  have c1 := (pp.ob h.n l0).trans c0
  have lx : h0.n < h1.n := by omega
  have l1 : h.n < h1.n := by omega
  have pre1 := p0.trans pp
  with_reducible refine CD.to (l06Many_c X.op h1) ?_
  simp (maxSteps := 1000000) -implicitDefEqProofs only [push_cast, seval, c1, rd_of c1, rd1_of c1, e1, rd_of e1, rd1_of e1, l1, lx, y3, y4]
  with_reducible refine CD.to (l01In_c _ _ _ _) ?_
  rw [nodeP]
  cases hW : inB X.op 1 25
  · simp (maxSteps := 1000000) -implicitDefEqProofs only [push_cast, seval]
    exact pre1.keep
  simp (maxSteps := 1000000) -implicitDefEqProofs only [push_cast, seval, c1, rd_of c1, rd1_of c1, e1, rd_of e1, rd1_of e1, l1, lx, y3, y4]
  with_reducible refine CD.to (l06Text_c X.op X.text kv h1 y3 y4 tz) ?_
  cases hT : textP X.op X.text
  · simp (maxSteps := 1000000) -implicitDefEqProofs only [push_cast, seval]
    exact pre1.keep
  obtain ⟨A, c, rfl, hR⟩ := kr.rde (fun _ => rfl)
  simp (maxSteps := 1000000) -implicitDefEqProofs only [push_cast, seval, c1, rd_of c1, rd1_of c1, e1, rd_of e1, rd1_of e1, l1, lx]
  with_reducible refine CD.to (l01In_c _ _ _ _) ?_
  cases hM : inB X.kids.length (manyP X.op).1 (manyP X.op).2
  · simp (maxSteps := 1000000) -implicitDefEqProofs only [push_cast, seval]
    exact pre1.keep
  simp (maxSteps := 1000000) -implicitDefEqProofs only [push_cast, seval, c1, rd_of c1, rd1_of c1, e1, rd_of e1, rd1_of e1, l1, lx]
  refine WC.loopA (by kernel_rfl) [8] [4, 9, 10, 40, 41, 42, 43, 44, 45, 46, 47, 48, 49, 50, 51, 52, 53, 54, 55, 56, 57, 58, 59, 60, 61, 62, 63, 64, 65, 66, 67, 68, 69, 70, 71, 72, 73, 74, 75, 76, 77, 78, 79, 80, 81, 82, 83, 84, 85, 86, 87, 88, 89, 90] (fun k : Nat => [.int .i64 k]) (fun k h' => (k ≤ X.kids.length ∧ ∀ j, j < k → (inB (X.kids.getD j 0) 0 ((i : Int) - 1) && kidP X.op j (nodeOp (L.map Prod.fst) (X.kids.getD j 0))) = true) ∧ Pre h1 h') (fun k => X.kids.length - k) 0 (by kernel_rfl) ⟨⟨Nat.zero_le _, fun k hk => by omega⟩, Pre.refl _⟩ ?_
  intro k g h2 hJ
  have hk := hJ.1.1
  have hj := hJ.1.2
  have p2 := hJ.2
  clear hJ
  have pre2 := pre1.trans p2
  have c2 := (p2.ob _ l1).trans c1
  have e2 := (p2.ob _ lx).trans e1
  have l2 : h.n < h2.n := Nat.lt_of_lt_of_le l1 p2.n
  have lx2 : h0.n < h2.n := Nat.lt_of_lt_of_le lx p2.n
  simp (maxSteps := 1000000) -implicitDefEqProofs only [push_cast, seval, c2, rd_of c2, rd1_of c2, e2, rd_of e2, rd1_of e2, l2, lx2]
  with_reducible refine bcase_d (fun hb => ?_) (fun hb => ?_)
  rotate_left
  · have ek : k = X.kids.length := by omega
    subst ek
    simp (maxSteps := 1000000) -implicitDefEqProofs only [push_cast, seval]
    rw [allN_true hj]
    exact ⟨rfl, pre2.keep⟩
  have hk' : k < X.kids.length := by omega
  have hg := getD_eq X.kids k 0 hk'
  with_reducible refine hR.use big pre2 hk' (fun id3 off3 eA hlt3 hr3 => ?_)
  subst eA
  rw [← hg] at hr3
  have hno : (inB (X.kids.getD k 0) 0 ((i : Int) - 1) && kidP X.op k (nodeOp (L.map Prod.fst) (X.kids.getD k 0))) = false → (allN X.kids.length fun j => inB (X.kids.getD j 0) 0 ((i : Int) - 1) && kidP X.op j (nodeOp (L.map Prod.fst) (X.kids.getD j 0))) = false := fun e => allN_false hk' e
  have hyes : (inB (X.kids.getD k 0) 0 ((i : Int) - 1) && kidP X.op k (nodeOp (L.map Prod.fst) (X.kids.getD k 0))) = true → ∀ j, j < k + 1 → (inB (X.kids.getD j 0) 0 ((i : Int) - 1) && kidP X.op j (nodeOp (L.map Prod.fst) (X.kids.getD j 0))) = true := fun e j hj2 => (Nat.lt_succ_iff_lt_or_eq.1 hj2).elim (hj j) (fun e2 => by subst e2; exact e)
  generalize hZ : X.kids.getD k 0 = Z at *
  simp only [encZ] at hr3
  have q0 := rd_1 hr3
  simp (maxSteps := 1000000) -implicitDefEqProofs only [push_cast, seval, c2, rd_of c2, rd1_of c2, e2, rd_of e2, rd1_of e2, l2, lx2, hr3, q0, hlt3]
  repeat (with_reducible refine And.intro ?_ ?_; · (first | omega | decide))
  simp (maxSteps := 1000000) -implicitDefEqProofs only [push_cast, seval, c2, rd_of c2, rd1_of c2, e2, rd_of e2, rd1_of e2, l2, lx2, hr3, q0, hlt3, hw1]
  with_reducible refine CD.to (l01In_c _ _ _ _) ?_
  cases hin : inB Z 0 ((i : Int) - 1)
  · simp (maxSteps := 1000000) -implicitDefEqProofs only [push_cast, seval]
    rw [hno (by rw [hin]; rfl)]
    exact ⟨rfl, pre2.keep⟩
  have hm := inB_nat hin
  with_reducible refine Exists.elim hm (fun m hm => ?_)
  have em := hm.1
  have hm' : m < L.length := by have := hm.2; omega
  clear hm
  subst em
  have hop := nodeOp_at L m m hm' rfl
  with_reducible refine hN.use big pre2 hm' (fun id4 off4 eB hlt4 hr4 => ?_)
  with_reducible injection eB with eB
  with_reducible injection eB with e3 e4
  subst e3 e4
  simp only [encD] at hr4
  have q4 := (rd_3 hr4).1
  rw [hop, hin, Bool.true_and, kidP_s] at hno hyes
  generalize L[m].1.op = O at *
  simp (maxSteps := 1000000) -implicitDefEqProofs only [push_cast, seval]
  refine WC.draw' (by kernel_rfl) (by kernel_rfl) (.q 0 (.q 1 (.q 2 (.q 3 (.q 4 (.q 5 (.q 6 (.q 7 (.q 8 (.q 9 (.q 10 (.done)))))))))))) (by kernel_rfl) ?_
  simp (maxSteps := 1000000) -implicitDefEqProofs only [push_cast, seval, c2, rd_of c2, rd1_of c2, e2, rd_of e2, rd1_of e2, l2, lx2, hr3, q0, hlt3, hr4, q4, hlt4]
  repeat (with_reducible refine And.intro ?_ ?_; · (first | omega | decide))
  repeat' (first | with_reducible (first | exact Keep.refl _ _ | assumption | exact byte_lt _ _ | apply Keep.alloc | (refine Keep.set ?_ ?_; rotate_left; · omega) | apply Pre.alloc | apply Pre.set | exact Pre.refl _ | exact le_alloc _ | (refine Pre.keep ?_; assumption) | (refine Pre.n ?_; assumption)) | ((with_reducible (first | refine CD.to (l06Ex_c _ _) ?_ | refine CQ.pure (fun _ => l06Ex_c _ _) ?_ | refine bcase_d (fun hb => ?_) (fun hb => ?_) | refine bcase_mk (fun hb => ?_) (fun hb => ?_))) <;> try simp (maxSteps := 1000000) -implicitDefEqProofs only [push_cast, seval, c2, rd_of c2, rd1_of c2, e2, rd_of e2, rd1_of e2, l2, lx2, hr3, q0, hlt3, hr4, q4, hlt4]) | with_reducible refine And.intro ?_ ?_ | omega | (simp only [alloc_n, set_n, kill_n]; omega) | (exfalso; omega))
  all_goals first
    | exact pre2.keep
    | (rw [hno (by simp_all)]; done)
    | (rw [wrapSucc (by omega)]
       exact ⟨k + 1, by kernel_rfl, ⟨⟨by omega, hyes (by grind)⟩, p2⟩, by omega⟩)
theorem ProgramOk_s (L : List (Nd × Value)) (R : List Ru) (vN vR : Value) (h : AH) (w : RdG h vN vR L R) (hz : SzG L R) :
    CD Try.prog 20 [.agg #[vN, vR]] h (.bool (programOk ⟨L.map Prod.fst, R⟩)) h := by
  refine CD.withBig (fun big => ?_)
  refine CD.quiet ?_ (low_bool _ _)
  have zn := hz.n
  have zr := hz.r
  have y1 := w.nodes.one
  have y2 := w.rules.one
  have w0 := w
  obtain ⟨B, d, rfl, hN⟩ := w.nodes.rde encD_len
  obtain ⟨C, c, rfl, hR⟩ := w.rules.rde (fun _ => rfl)
  have hw1 : IntKind.i64.wrap ((L.length : Int) - 1) = (L.length : Int) - 1 := by rw [w64 (by omega) (by omega)]
  have p0 : Pre h (h.alloc (.cells [.slice B L.length d, .slice C R.length c] .solo h.n)) := (Pre.refl h).alloc _
  have c0 : (h.alloc (.cells [.slice B L.length d, .slice C R.length c] .solo h.n)).ob h.n = _ := alloc_same _
  have n0 : (h.alloc (.cells [.slice B L.length d, .slice C R.length c] .solo h.n)).n = h.n + 1 := rfl
  by_cases hs : L.length ≤ 200 ∧ R.length ≤ 12
  rotate_left
  · have eF : programOk ⟨L.map Prod.fst, R⟩ = false := by
      rw [programOk_split]
      by_cases h1 : L.length ≤ 200
      · rw [decide_eq_false (show ¬ R.length ≤ 12 by omega)]; simp
      · rw [decide_eq_false h1]; simp
    rw [eF]
    refine CC.ofN Try.func20 Try.ntmps20 Try.results20 rfl (by decide) (by kernel_rfl) ?_
    simp (maxSteps := 1000000) -implicitDefEqProofs only [push_cast, seval]
    repeat' (first | with_reducible (first | exact Keep.refl _ _ | assumption | exact byte_lt _ _ | apply Keep.alloc | (refine Keep.set ?_ ?_; rotate_left; · omega) | apply Pre.alloc | apply Pre.set | exact Pre.refl _ | exact le_alloc _ | (refine Pre.keep ?_; assumption) | (refine Pre.n ?_; assumption)) | ((with_reducible (first | refine bcase_d (fun hb => ?_) (fun hb => ?_) | refine bcase_mk (fun hb => ?_) (fun hb => ?_))) <;> try simp (maxSteps := 1000000) -implicitDefEqProofs only [push_cast, seval]) | with_reducible refine And.intro ?_ ?_ | omega | (simp only [alloc_n, set_n, kill_n]; omega) | (exfalso; omega))
  have hs1 := hs.1
  have hs2 := hs.2
  refine CC.ofN Try.func20 Try.ntmps20 Try.results20 rfl (by decide) (by kernel_rfl) ?_
  simp (maxSteps := 1000000) -implicitDefEqProofs only [push_cast, seval]
  generalize (h.alloc (.cells [.slice B L.length d, .slice C R.length c] .solo h.n)) = h0 at *
  have l0 : h.n < h0.n := by omega
  with_reducible refine bcase_d (fun hb => ?_) (fun hb => ?_)
  · exfalso; omega
  simp (maxSteps := 1000000) -implicitDefEqProofs only [push_cast, seval, c0, rd_of c0, rd1_of c0, l0]
  with_reducible refine bcase_d (fun hb => ?_) (fun hb => ?_)
  · exfalso; omega
  simp (maxSteps := 1000000) -implicitDefEqProofs only [push_cast, seval]
  refine WC.loopA (by kernel_rfl) [3] [2, 16, 17, 18, 19, 20, 21, 22, 23, 24, 25, 26] (fun i : Nat => [.int .i64 i]) (fun i h' => (i ≤ L.length ∧ ∀ k (hk : k < L.length), k < i → nodeP (L.map Prod.fst) k L[k].1 = true) ∧ Pre h0 h') (fun i => L.length - i) 0 (by kernel_rfl) ⟨⟨Nat.zero_le _, fun k hk h0 => by omega⟩, Pre.refl _⟩ ?_
  intro i g h1 hJ
  have hi := hJ.1.1
  have hj := hJ.1.2
  have p1 := hJ.2
  clear hJ
  have pre1 := p0.trans p1
  have c1 : h1.ob h.n = _ := (p1.ob _ l0).trans c0
  have l1 : h.n < h1.n := Nat.lt_of_lt_of_le l0 p1.n
  simp (maxSteps := 1000000) -implicitDefEqProofs only [push_cast, seval, c1, rd_of c1, rd1_of c1, l1]
  with_reducible refine bcase_d (fun hb => ?_) (fun hb => ?_)
  · have hi' : i < L.length := by omega
    have hno := fun e => program_no_node (R := R) hi' e
    have hyes : nodeP (L.map Prod.fst) i L[i].1 = true → ∀ k (hk : k < L.length), k < i + 1 → nodeP (L.map Prod.fst) k L[k].1 = true := fun e k hk h2 => by
      by_cases e2 : k = i
      · subst e2; exact e
      · exact hj k hk (by omega)
    simp (maxSteps := 1000000) -implicitDefEqProofs only [push_cast, seval, c1, rd_of c1, rd1_of c1, l1]
    with_reducible refine CD.to (l06Node_c L R _ _ i h1 (w0.pre pre1) hz hi') ?_
    cases hK : nodeP (L.map Prod.fst) i L[i].1
    · simp (maxSteps := 1000000) -implicitDefEqProofs only [push_cast, seval]
      rw [hno hK]
      exact ⟨rfl, pre1.keep⟩
    · simp (maxSteps := 1000000) -implicitDefEqProofs only [push_cast, seval]
      rw [wrapSucc (by omega)]
      exact ⟨i + 1, by kernel_rfl, ⟨⟨by omega, hyes hK⟩, p1⟩, by omega⟩
  have ei : i = L.length := by omega
  subst ei
  simp (maxSteps := 1000000) -implicitDefEqProofs only [push_cast, seval, c1, rd_of c1, rd1_of c1, l1]
  refine WC.loopA (by kernel_rfl) [4] [2, 5, 27, 28, 29, 30, 31, 32, 33, 34, 35, 36, 37, 38, 39, 40, 41, 42, 43, 44, 45, 46, 47, 48, 49, 50, 51, 52, 53, 54, 55, 56, 57, 58, 59, 60, 61, 62, 63, 64, 65, 66, 67, 68, 69, 70, 71, 72, 73, 74, 75, 76, 77, 78, 79, 80, 81, 82, 83, 84, 85, 86, 87, 88, 89, 90, 91] (fun i : Nat => [.int .i64 i]) (fun i h' => (i ≤ R.length ∧ ∀ k (hk : k < R.length), k < i → ruleP (L.map Prod.fst) R[k] = true) ∧ Pre h1 h') (fun i => R.length - i) 0 (by kernel_rfl) ⟨⟨Nat.zero_le _, fun k hk h0 => by omega⟩, Pre.refl _⟩ ?_
  clear hb hi
  intro i g2 h2 hJ
  have hi := hJ.1.1
  have hj2 := hJ.1.2
  have p2 := hJ.2
  clear hJ
  have pre2 := pre1.trans p2
  have c2 : h2.ob h.n = _ := (p2.ob _ l1).trans c1
  have l2 : h.n < h2.n := Nat.lt_of_lt_of_le l1 p2.n
  simp (maxSteps := 1000000) -implicitDefEqProofs only [push_cast, seval, c2, rd_of c2, rd1_of c2, l2]
  with_reducible refine bcase_d (fun hb => ?_) (fun hb => ?_)
  rotate_left
  · have ei : i = R.length := by omega
    subst ei
    rw [program_rest (fun i hi => hj i hi hi) (fun i hi => hj2 i hi hi), decide_eq_true hs1, decide_eq_true hs2]
    simp (maxSteps := 1000000) -implicitDefEqProofs only [push_cast, seval]
    exact pre2.keep
  have hi' : i < R.length := by omega
  have hno := fun e => program_no_rule (L := L) hi' e
  have hyes : ruleP (L.map Prod.fst) R[i] = true → ∀ k (hk : k < R.length), k < i + 1 → ruleP (L.map Prod.fst) R[k] = true := fun e k hk h2 => by
    by_cases e2 : k = i
    · subst e2; exact e
    · exact hj2 k hk (by omega)
  with_reducible refine hR.use big pre2 hi' (fun id off eA hlt hr => ?_)
  subst eA
  simp only [encU] at hr
  have r0 := (rd_3 hr).1
  have r1 := (rd_3 hr).2.1
  have r2 := (rd_3 hr).2.2
  have eX : R[i] = ⟨R[i].when_, R[i].cond, R[i].act⟩ := rfl
  rw [eX] at hno hyes
  generalize R[i].when_ = wh at *
  generalize R[i].cond = cd at *
  generalize R[i].act = ac at *
  have hlen : (L.map Prod.fst).length = L.length := List.length_map _
  have eP : ruleP (L.map Prod.fst) ⟨wh, cd, ac⟩ = (inB wh 1 3 && inB ac 0 ((L.length : Int) - 1) && decide (nodeOp (L.map Prod.fst) ac = 24) && (decide (cd = -1) || (decide (wh = 2) && inB cd 0 ((L.length : Int) - 1) && isEx (nodeOp (L.map Prod.fst) cd)))) := by rw [ruleP, hlen]
  rw [eP] at hno hyes
  clear eP eX
  simp (maxSteps := 1000000) -implicitDefEqProofs only [push_cast, seval, c2, rd_of c2, rd1_of c2, l2, hr, r0, r1, r2, hlt]
  repeat (with_reducible refine And.intro ?_ ?_; · (first | omega | decide))
  have pp : Pre h2 ((h2.alloc (.cells [.int .i64 0, .int .i64 0, .int .i64 0] .solo h2.n)).set h2.n (.cells [.int .i64 wh, .int .i64 cd, .int .i64 ac] .solo h2.n)) := ((Pre.refl h2).alloc _).set (Nat.le_refl _) _
  have e1 : ((h2.alloc (.cells [.int .i64 0, .int .i64 0, .int .i64 0] .solo h2.n)).set h2.n (.cells [.int .i64 wh, .int .i64 cd, .int .i64 ac] .solo h2.n)).ob h2.n = _ := set_same _ _
  have m1 : ((h2.alloc (.cells [.int .i64 0, .int .i64 0, .int .i64 0] .solo h2.n)).set h2.n (.cells [.int .i64 wh, .int .i64 cd, .int .i64 ac] .solo h2.n)).n = h2.n + 1 := rfl
  generalize ((h2.alloc (.cells [.int .i64 0, .int .i64 0, .int .i64 0] .solo h2.n)).set h2.n (.cells [.int .i64 wh, .int .i64 cd, .int .i64 ac] .solo h2.n)) = h3 at *
  have e0 := (pp.ob h.n l2).trans c2
  have lx : h2.n < h3.n := by omega
  have lp : h.n < h3.n := by omega
  have pre3 := pre2.trans pp
  have p3 := p2.trans pp
  with_reducible refine CD.to (l01In_c _ _ _ _) ?_
  cases hW : inB wh 1 3
  · simp (maxSteps := 1000000) -implicitDefEqProofs only [push_cast, seval]
    rw [hno (by rw [hW]; rfl)]
    exact ⟨rfl, pre3.keep⟩
  simp (maxSteps := 1000000) -implicitDefEqProofs only [push_cast, seval, e1, rd_of e1, rd1_of e1, e0, rd_of e0, rd1_of e0, lx, lp, hw1]
  with_reducible refine CD.to (l01In_c _ _ _ _) ?_
  cases hA : inB ac 0 ((L.length : Int) - 1)
  · simp (maxSteps := 1000000) -implicitDefEqProofs only [push_cast, seval]
    rw [hno (by rw [hW, hA]; rfl)]
    exact ⟨rfl, pre3.keep⟩
  have hm := inB_nat hA
  with_reducible refine Exists.elim hm (fun m hm => ?_)
  have em := hm.1
  have hm' := hm.2
  clear hm
  subst em
  have hop := nodeOp_at L m m hm' rfl
  with_reducible refine hN.use big pre3 hm' (fun id4 off4 eB hlt4 hr4 => ?_)
  subst eB
  simp only [encD] at hr4
  have q4 := (rd_3 hr4).1
  rw [hop] at hno hyes
  generalize L[m].1.op = O at *
  simp (maxSteps := 1000000) -implicitDefEqProofs only [push_cast, seval, e1, rd_of e1, rd1_of e1, e0, rd_of e0, rd1_of e0, lx, lp, hr4, q4, hlt4]
  repeat (with_reducible refine And.intro ?_ ?_; · (first | omega | decide))
  simp (maxSteps := 1000000) -implicitDefEqProofs only [push_cast, seval, e1, rd_of e1, rd1_of e1, e0, rd_of e0, rd1_of e0, lx, lp, hr4, q4, hlt4]
  with_reducible refine bcase_d (fun hO => ?_) (fun hO => ?_)
  rotate_left
  · simp (maxSteps := 1000000) -implicitDefEqProofs only [push_cast, seval]
    rw [hno (by rw [hW, hA, decide_eq_false hO]; rfl)]
    exact ⟨rfl, pre3.keep⟩
  rw [hW, hA, decide_eq_true hO] at hno hyes
  simp (maxSteps := 1000000) -implicitDefEqProofs only [push_cast, seval, e1, rd_of e1, rd1_of e1, e0, rd_of e0, rd1_of e0, lx, lp, hr4, q4, hlt4]
  with_reducible refine bcase_d (fun hC => ?_) (fun hC => ?_)
  · simp (maxSteps := 1000000) -implicitDefEqProofs only [push_cast, seval, e1, rd_of e1, rd1_of e1, e0, rd_of e0, rd1_of e0, lx, lp]
    rw [wrapSucc (by omega)]
    exact ⟨i + 1, by kernel_rfl, ⟨⟨by omega, hyes (by rw [decide_eq_true hC]; rfl)⟩, p3⟩, by omega⟩
  rw [decide_eq_false hC] at hno hyes
  simp (maxSteps := 1000000) -implicitDefEqProofs only [push_cast, seval, e1, rd_of e1, rd1_of e1, e0, rd_of e0, rd1_of e0, lx, lp, hr4, q4, hlt4]
  with_reducible refine bcase_d (fun hW2 => ?_) (fun hW2 => ?_)
  rotate_left
  · simp (maxSteps := 1000000) -implicitDefEqProofs only [push_cast, seval]
    rw [hno (by rw [decide_eq_false hW2]; rfl)]
    exact ⟨rfl, pre3.keep⟩
  rw [decide_eq_true hW2] at hno hyes
  simp (maxSteps := 1000000) -implicitDefEqProofs only [push_cast, seval, e1, rd_of e1, rd1_of e1, e0, rd_of e0, rd1_of e0, lx, lp, hr4, q4, hlt4, hw1]
  with_reducible refine CD.to (l01In_c _ _ _ _) ?_
  cases hB : inB cd 0 ((L.length : Int) - 1)
  · simp (maxSteps := 1000000) -implicitDefEqProofs only [push_cast, seval]
    rw [hno (by rw [hB]; rfl)]
    exact ⟨rfl, pre3.keep⟩
  have hm2 := inB_nat hB
  with_reducible refine Exists.elim hm2 (fun m2 hm2 => ?_)
  have em2 := hm2.1
  have hm2' := hm2.2
  clear hm2
  subst em2
  have ho2 := nodeOp_at L m2 m2 hm2' rfl
  with_reducible refine hN.use big pre3 hm2' (fun id3 off3 eB hlt3 hr3 => ?_)
  with_reducible injection eB with eB
  with_reducible injection eB with e5 e6
  subst e5 e6
  simp only [encD] at hr3
  have q3 := (rd_3 hr3).1
  rw [ho2, hB] at hno hyes
  generalize L[m2].1.op = O2 at *
  simp (maxSteps := 1000000) -implicitDefEqProofs only [push_cast, seval, e1, rd_of e1, rd1_of e1, e0, rd_of e0, rd1_of e0, lx, lp, hr3, hlt3, q3]
  repeat (with_reducible refine And.intro ?_ ?_; · (first | omega | decide))
  simp (maxSteps := 1000000) -implicitDefEqProofs only [push_cast, seval, e1, rd_of e1, rd1_of e1, e0, rd_of e0, rd1_of e0, lx, lp, hr3, hlt3, q3]
  with_reducible refine CD.to (l06Ex_c _ _) ?_
  cases hE : isEx O2
  · simp (maxSteps := 1000000) -implicitDefEqProofs only [push_cast, seval]
    rw [hno (by rw [hE]; rfl)]
    exact ⟨rfl, pre3.keep⟩
  · simp (maxSteps := 1000000) -implicitDefEqProofs only [push_cast, seval]
    rw [wrapSucc (by omega)]
    exact ⟨i + 1, by kernel_rfl, ⟨⟨by omega, hyes (by rw [hE]; rfl)⟩, p3⟩, by omega⟩
end Go.Proofs.Ytciajhpeikemoaa
namespace Go.Proofs.Ytciajhpeikemoaa
open Go Go.Sim Go.Proofs
set_option linter.unusedSimpArgs false
set_option linter.unusedVariables false
set_option maxRecDepth 100000
set_option maxHeartbeats 1000000
/-- A new slice's cells, of which the first are filled. -/
def Filled {α : Type} (k : Nat) (enc : α → List Value) (l : List α) (cs : List Value) (i : Nat) : Prop := cs.length = l.length * k ∧ ∀ j (hj : j < l.length), j < i → (cs.drop (j * k)).take k = enc l[j]
theorem Filled.put {α : Type} {k : Nat} {enc : α → List Value} {l : List α} {cs : List Value} {i : Nat} (w : Filled k enc l cs i) (hi : i < l.length) (hk : (enc l[i]).length = k) : Filled k enc l (putL cs (i * k) (enc l[i])) (i + 1) := by
  refine ⟨by rw [putL_length, w.1], fun j hj hji => ?_⟩
  have hb : i * k + k ≤ cs.length := by rw [w.1, ← Nat.succ_mul]; exact Nat.mul_le_mul_right k hi
  by_cases e : j = i
  · subst e
    apply List.ext_getElem?
    intro m
    rw [List.getElem?_take]
    by_cases hm : m < k
    · rw [if_pos hm, List.getElem?_drop, putL_in _ _ _ m (by omega) (by omega), List.getElem?_eq_getElem]
    · rw [if_neg hm, List.getElem?_eq_none (by omega)]
  · have hji' : j < i := by omega
    rw [← w.2 j hj hji']
    have hq : j * k + k ≤ i * k := by rw [← Nat.succ_mul]; exact Nat.mul_le_mul_right k hji'
    apply List.ext_getElem?
    intro m
    rw [List.getElem?_take, List.getElem?_take]
    by_cases hm : m < k
    · rw [if_pos hm, if_pos hm, List.getElem?_drop, List.getElem?_drop, putL_out _ _ _ _ (.inl (by omega))]
    · rw [if_neg hm, if_neg hm]
theorem Filled.zero {α : Type} {k : Nat} {enc : α → List Value} {l : List α} (z : List Value) : Filled k enc l (zerosL (l.length * k) z) 0 := ⟨zerosL_length _ _, fun j _ h => absurd h (Nat.not_lt_zero j)⟩
theorem Filled.readAt {α : Type} {k : Nat} {enc : α → List Value} {l : List α} {cs : List Value} (w : Filled k enc l cs l.length) {h : AH} {i : Nat} {st : Sim.Stat} {ln : Nat} (e : h.ob i = .cells cs st ln) : RdE h (some ⟨i, 0, none⟩) k enc l := fun j hj => by
  refine ⟨i, 0, rfl, ?_⟩
  rw [rd_of e, rdO_cells, Nat.zero_add, w.2 j hj hj]
  have : j * k + k ≤ cs.length := by rw [w.1, ← Nat.succ_mul]; exact Nat.mul_le_mul_right k hj
  simp [this]
theorem Filled.read {α : Type} {k : Nat} {enc : α → List Value} {l : List α} {cs : List Value} (w : Filled k enc l cs l.length) (h : AH) : RdE (h.alloc (.cells cs .solo h.n)) (some ⟨h.n, 0, none⟩) k enc l := fun i hi => by
  refine ⟨h.n, 0, rfl, ?_⟩
  rw [rd_alloc_same, rdO_cells, Nat.zero_add, w.2 i hi hi]
  have : i * k + k ≤ cs.length := by rw [w.1, ← Nat.succ_mul]; exact Nat.mul_le_mul_right k hi
  simp [this]
theorem alloc_set {h : AH} (o o' : AOb) : (h.alloc o).set h.n o' = h.alloc o' := by
  unfold AH.set AH.alloc
  simp only
  congr 1
  funext j
  split <;> rfl
theorem toInstr_c (x : Ins) (h : AH) : CD Try.prog 176 [.agg #[.int .i64 x.op, .int .i64 x.arg]] h (.agg #[.int .i64 x.op, .int .i64 x.arg]) h := by
  refine CD.quiet ?_ (low_agg (by simp [low_int]))
  refine CC.ofN Try.func176 Try.ntmps176 Try.results176 rfl (by decide) (by kernel_rfl) ?_
  simp (maxSteps := 1000000) -implicitDefEqProofs only [push_cast, seval]
  repeat' (first | with_reducible (first | exact Keep.refl _ _ | assumption | exact byte_lt _ _ | apply Keep.alloc | (refine Keep.set ?_ ?_; rotate_left; · omega) | apply Pre.alloc | apply Pre.set | exact Pre.refl _ | exact le_alloc _ | (refine Pre.keep ?_; assumption) | (refine Pre.n ?_; assumption)) | ((with_reducible (first | refine bcase_d (fun hb => ?_) (fun hb => ?_) | refine bcase_mk (fun hb => ?_) (fun hb => ?_))) <;> try simp (maxSteps := 1000000) -implicitDefEqProofs only [push_cast, seval]) | with_reducible refine And.intro ?_ ?_ | omega | (simp only [alloc_n, set_n, kill_n]; omega) | (exfalso; omega))
theorem toStringS_c (vs : List ByteArray) (A : Option Addr) (ca : Nat) (h : AH) (hR : RdE h A 1 encS vs) (hn : vs.length < 274877906944) :
    CC Try.prog 91 [.slice A vs.length ca] h (fun v h' => ∃ cs, v = .slice (some ⟨h.n, 0, none⟩) vs.length 1 ∧ h' = h.alloc (.cells cs .solo h.n) ∧ Filled 1 encS vs cs vs.length) := by
  refine CC.withBig (fun big => ?_)
  refine CC.ofN Try.func91 Try.ntmps91 Try.results91 rfl (by decide) (by kernel_rfl) ?_
  simp (maxSteps := 1000000) -implicitDefEqProofs only [push_cast, seval]
  repeat (with_reducible refine And.intro ?_ ?_; · (first | omega | decide))
  refine WC.loopA (by kernel_rfl) [4] [8, 9, 10, 11, 12, 13, 14, 15, 16, 17, 18, 19, 20] (fun a : Nat × List Value => [.int .i64 (a.1 : Nat)]) (fun a h' => h' = h.alloc (.cells a.2 .solo h.n) ∧ a.1 ≤ vs.length ∧ Filled 1 encS vs a.2 a.1) (fun a => vs.length - a.1) (0, List.replicate (vs.length * 1) (.string ⟨#[]⟩)) (by kernel_rfl) ⟨rfl, Nat.zero_le _, by simp, fun j _ h => absurd h (Nat.not_lt_zero j)⟩ ?_
  intro a g h1 hJ
  have hh := hJ.1
  have hi := hJ.2.1
  have hf := hJ.2.2
  clear hJ
  subst hh
  have pb : Pre h (h.alloc (.cells a.2 .solo h.n)) := (Pre.refl _).alloc _
  simp (maxSteps := 1000000) -implicitDefEqProofs only [push_cast, seval]
  with_reducible refine bcase_d (fun hb => ?_) (fun hb => ?_)
  · have hi' : a.1 < vs.length := by omega
    with_reducible refine hR.use big pb hi' (fun id off eA hlt hr => ?_)
    subst eA
    simp only [encS, Nat.mul_one] at hr
    have r0 := rd_1 hr
    have hc := hf.1
    have hf' := hf.put hi' rfl
    simp only [encS] at hf'
    have hbd : a.1 + 1 ≤ vs.length * 1 := by omega
    simp (maxSteps := 1000000) -implicitDefEqProofs only [push_cast, seval, hr, r0, hlt, Nat.mul_one]
    repeat' (first | with_reducible (first | exact Keep.refl _ _ | assumption | exact byte_lt _ _ | apply Keep.alloc | (refine Keep.set ?_ ?_; rotate_left; · omega) | apply Pre.alloc | apply Pre.set | exact Pre.refl _ | exact le_alloc _ | (refine Pre.keep ?_; assumption) | (refine Pre.n ?_; assumption)) | ((with_reducible (first | refine bcase_d (fun hb => ?_) (fun hb => ?_) | refine bcase_mk (fun hb => ?_) (fun hb => ?_))) <;> try simp (maxSteps := 1000000) -implicitDefEqProofs only [push_cast, seval, hr, r0, hlt, Nat.mul_one, hc, hbd]) | with_reducible refine And.intro ?_ ?_ | omega | (simp only [alloc_n, set_n, kill_n]; omega) | (exfalso; omega))
    rw [wrapSucc (by omega)]
    refine ⟨(a.1 + 1, putL a.2 (a.1 * 1) [.string vs[a.1]]), by kernel_rfl, ⟨?_, ?_, hf'⟩, ?_⟩
    · simp only [putL, alloc_set, Nat.mul_one]
    · show a.1 + 1 ≤ vs.length
      omega
    · show vs.length - (a.1 + 1) < vs.length - a.1
      omega
  · have hn : a.1 = vs.length := by omega
    rw [hn] at hf
    simp (maxSteps := 1000000) -implicitDefEqProofs only [push_cast, seval]
    repeat' (first | with_reducible (first | exact Keep.refl _ _ | assumption | exact byte_lt _ _ | apply Keep.alloc | (refine Keep.set ?_ ?_; rotate_left; · omega) | apply Pre.alloc | apply Pre.set | exact Pre.refl _ | exact le_alloc _ | (refine Pre.keep ?_; assumption) | (refine Pre.n ?_; assumption)) | ((with_reducible (first | refine bcase_d (fun hb => ?_) (fun hb => ?_) | refine bcase_mk (fun hb => ?_) (fun hb => ?_))) <;> try simp (maxSteps := 1000000) -implicitDefEqProofs only [push_cast, seval]) | with_reducible refine And.intro ?_ ?_ | omega | (simp only [alloc_n, set_n, kill_n]; omega) | (exfalso; omega))
    exact ⟨_, rfl, hf⟩
theorem toInstrS_c (vs : List Ins) (A : Option Addr) (ca : Nat) (h : AH) (hR : RdE h A 2 encN vs) (hn : vs.length < 274877906944) :
    CC Try.prog 140 [.slice A vs.length ca] h (fun v h' => ∃ cs, v = .slice (some ⟨h.n, 0, none⟩) vs.length 2 ∧ h' = h.alloc (.cells cs .solo h.n) ∧ Filled 2 encN vs cs vs.length) := by
  refine CC.withBig (fun big => ?_)
  refine CC.ofN Try.func140 Try.ntmps140 Try.results140 rfl (by decide) (by kernel_rfl) ?_
  simp (maxSteps := 1000000) -implicitDefEqProofs only [push_cast, seval]
  repeat (with_reducible refine And.intro ?_ ?_; · (first | omega | decide))
  refine WC.loopA (by kernel_rfl) [4] [8, 9, 10, 11, 12, 13, 14, 15, 16, 17, 18, 19, 20, 21] (fun a : Nat × List Value => [.int .i64 (a.1 : Nat)]) (fun a h' => h' = h.alloc (.cells a.2 .solo h.n) ∧ a.1 ≤ vs.length ∧ Filled 2 encN vs a.2 a.1) (fun a => vs.length - a.1) (0, zerosL (vs.length * 2) [.int .i64 0, .int .i64 0]) (by kernel_rfl) ⟨rfl, Nat.zero_le _, Filled.zero _⟩ ?_
  intro a g h1 hJ
  have hh := hJ.1
  have hi := hJ.2.1
  have hf := hJ.2.2
  clear hJ
  subst hh
  have pb : Pre h (h.alloc (.cells a.2 .solo h.n)) := (Pre.refl _).alloc _
  simp (maxSteps := 1000000) -implicitDefEqProofs only [push_cast, seval]
  with_reducible refine bcase_d (fun hb => ?_) (fun hb => ?_)
  · have hi' : a.1 < vs.length := by omega
    with_reducible refine hR.use big pb hi' (fun id off eA hlt hr => ?_)
    subst eA
    simp only [encN] at hr
    have hc := hf.1
    have hf' := hf.put hi' rfl
    simp only [encN] at hf'
    simp (maxSteps := 1000000) -implicitDefEqProofs only [push_cast, seval, hr, hlt]
    repeat' (first | with_reducible (first | exact Keep.refl _ _ | assumption | exact byte_lt _ _ | apply Keep.alloc | (refine Keep.set ?_ ?_; rotate_left; · omega) | apply Pre.alloc | apply Pre.set | exact Pre.refl _ | exact le_alloc _ | (refine Pre.keep ?_; assumption) | (refine Pre.n ?_; assumption)) | ((with_reducible (first | refine CD.to (toInstr_c _ _) ?_ | refine CQ.pure (fun _ => toInstr_c _ _) ?_ | refine bcase_d (fun hb => ?_) (fun hb => ?_) | refine bcase_mk (fun hb => ?_) (fun hb => ?_))) <;> try simp (maxSteps := 1000000) -implicitDefEqProofs only [push_cast, seval, hr, hlt]) | with_reducible refine And.intro ?_ ?_ | omega | (simp only [alloc_n, set_n, kill_n]; omega) | (exfalso; omega))
    rw [wrapSucc (by omega)]
    refine ⟨(a.1 + 1, putL a.2 (a.1 * 2) [.int .i64 vs[a.1].op, .int .i64 vs[a.1].arg]), by kernel_rfl, ⟨?_, ?_, hf'⟩, ?_⟩
    · simp only [putL, alloc_set]
    · show a.1 + 1 ≤ vs.length
      omega
    · show vs.length - (a.1 + 1) < vs.length - a.1
      omega
  · have hn : a.1 = vs.length := by omega
    rw [hn] at hf
    simp (maxSteps := 1000000) -implicitDefEqProofs only [push_cast, seval]
    repeat' (first | with_reducible (first | exact Keep.refl _ _ | assumption | exact byte_lt _ _ | apply Keep.alloc | (refine Keep.set ?_ ?_; rotate_left; · omega) | apply Pre.alloc | apply Pre.set | exact Pre.refl _ | exact le_alloc _ | (refine Pre.keep ?_; assumption) | (refine Pre.n ?_; assumption)) | ((with_reducible (first | refine bcase_d (fun hb => ?_) (fun hb => ?_) | refine bcase_mk (fun hb => ?_) (fun hb => ?_))) <;> try simp (maxSteps := 1000000) -implicitDefEqProofs only [push_cast, seval]) | with_reducible refine And.intro ?_ ?_ | omega | (simp only [alloc_n, set_n, kill_n]; omega) | (exfalso; omega))
    exact ⟨_, rfl, hf⟩
theorem take_next {α : Type} {l m : List α} {i : Nat} (e : l.take i = m.take i) (hi : i < l.length) (hj : i < m.length) (h : l[i] = m[i]) : l.take (i + 1) = m.take (i + 1) := by
  rw [List.take_add_one, List.take_add_one, e, List.getElem?_eq_getElem hi, List.getElem?_eq_getElem hj, h]
theorem take_full {α : Type} {l m : List α} (e : l.take l.length = m.take l.length) (h : l.length = m.length) : l = m := by
  rw [List.take_length, h, List.take_length] at e; exact e
theorem eqInstr_c (a b : Ins) (h : AH) : CD Try.prog 126 [.agg #[.int .i64 a.op, .int .i64 a.arg], .agg #[.int .i64 b.op, .int .i64 b.arg]] h (.bool (decide (a = b))) h := by
  refine CD.quiet ?_ (low_bool _ _)
  refine CC.ofN Try.func126 Try.ntmps126 Try.results126 rfl (by decide) (by kernel_rfl) ?_
  simp (maxSteps := 1000000) -implicitDefEqProofs only [push_cast, seval]
  repeat' (first | with_reducible (first | exact Keep.refl _ _ | assumption | exact byte_lt _ _ | apply Keep.alloc | (refine Keep.set ?_ ?_; rotate_left; · omega) | apply Pre.alloc | apply Pre.set | exact Pre.refl _ | exact le_alloc _ | (refine Pre.keep ?_; assumption) | (refine Pre.n ?_; assumption)) | ((with_reducible (first | refine bcase_d (fun hb => ?_) (fun hb => ?_) | refine bcase_mk (fun hb => ?_) (fun hb => ?_))) <;> try simp (maxSteps := 1000000) -implicitDefEqProofs only [push_cast, seval]) | with_reducible refine And.intro ?_ ?_ | omega | (simp only [alloc_n, set_n, kill_n]; omega) | (exfalso; omega))
  all_goals (obtain ⟨a1, a2⟩ := a; obtain ⟨b1, b2⟩ := b; simp_all [Ins.mk.injEq])
theorem eqInstrS_c (l m : List Ins) (A B : Option Addr) (ca cb : Nat) (h : AH) (hA : RdE h A 2 encN l) (hB : RdE h B 2 encN m) (hl : l.length < 274877906944) (hm : m.length < 274877906944) :
    CD Try.prog 73 [.slice A l.length ca, .slice B m.length cb] h (.bool (decide (l = m))) h := by
  refine CD.withBig (fun big => ?_)
  refine CD.quiet ?_ (low_bool _ _)
  refine CC.ofN Try.func73 Try.ntmps73 Try.results73 rfl (by decide) (by kernel_rfl) ?_
  simp (maxSteps := 1000000) -implicitDefEqProofs only [push_cast, seval]
  with_reducible refine bcase_d (fun hb => ?_) (fun hb => ?_)
  rotate_left
  · simp (maxSteps := 1000000) -implicitDefEqProofs only [push_cast, seval]
    repeat' (first | with_reducible (first | exact Keep.refl _ _ | assumption | exact byte_lt _ _ | apply Keep.alloc | (refine Keep.set ?_ ?_; rotate_left; · omega) | apply Pre.alloc | apply Pre.set | exact Pre.refl _ | exact le_alloc _ | (refine Pre.keep ?_; assumption) | (refine Pre.n ?_; assumption)) | ((with_reducible (first | refine bcase_d (fun hb => ?_) (fun hb => ?_) | refine bcase_mk (fun hb => ?_) (fun hb => ?_))) <;> try simp (maxSteps := 1000000) -implicitDefEqProofs only [push_cast, seval]) | with_reducible refine And.intro ?_ ?_ | omega | (simp only [alloc_n, set_n, kill_n]; omega) | (exfalso; omega))
    have : l ≠ m := fun e => hb (by rw [e])
    simp [this]
  have hlm : l.length = m.length := by omega
  simp (maxSteps := 1000000) -implicitDefEqProofs only [push_cast, seval]
  refine WC.loopA (by kernel_rfl) [5] [4, 11, 12, 13, 14, 15, 16, 17, 18, 19, 20, 21, 22, 23, 24, 25, 26] (fun a : Nat => [.int .i64 (a : Nat)]) (fun a h' => a ≤ l.length ∧ l.take a = m.take a ∧ Pre h h') (fun a => l.length - a) 0 (by kernel_rfl) ⟨Nat.zero_le _, by simp, Pre.refl _⟩ ?_
  intro a g h1 hJ
  have hi := hJ.1
  have he := hJ.2.1
  have hp := hJ.2.2
  clear hJ
  simp (maxSteps := 1000000) -implicitDefEqProofs only [push_cast, seval]
  with_reducible refine bcase_d (fun hb => ?_) (fun hb => ?_)
  · have hi' : a < l.length := by omega
    have hj' : a < m.length := by omega
    with_reducible refine hA.use big hp hi' (fun id off eA hlt hr => ?_)
    with_reducible refine hB.use big hp hj' (fun id2 off2 eB hlt2 hr2 => ?_)
    subst eA
    subst eB
    simp only [encN] at hr hr2
    simp (maxSteps := 1000000) -implicitDefEqProofs only [push_cast, seval, hr, hlt, hr2, hlt2]
    refine WC.draw' (by kernel_rfl) (by kernel_rfl) (.q 0 (.q 1 (.q 2 (.q 3 (.q 4 (.q 5 (.q 6 (.q 7 (.c 8 (.q 9 (.done))))))))))) (by kernel_rfl) ?_
    simp (maxSteps := 1000000) -implicitDefEqProofs only [push_cast, seval, hr, hlt, hr2, hlt2]
    repeat' (first | with_reducible (first | exact Keep.refl _ _ | assumption | exact byte_lt _ _ | apply Keep.alloc | (refine Keep.set ?_ ?_; rotate_left; · omega) | apply Pre.alloc | apply Pre.set | exact Pre.refl _ | exact le_alloc _ | (refine Pre.keep ?_; assumption) | (refine Pre.n ?_; assumption)) | ((with_reducible (first | refine CD.to (eqInstr_c _ _ _) ?_ | refine CQ.pure (fun _ => eqInstr_c _ _ _) ?_ | refine bcase_d (fun hb => ?_) (fun hb => ?_) | refine bcase_mk (fun hb => ?_) (fun hb => ?_))) <;> try simp (maxSteps := 1000000) -implicitDefEqProofs only [push_cast, seval, hr, hlt, hr2, hlt2]) | with_reducible refine And.intro ?_ ?_ | omega | (simp only [alloc_n, set_n, kill_n]; omega) | (exfalso; omega))
    · rw [wrapSucc (by omega)]
      refine ⟨a + 1, by kernel_rfl, ⟨by show a + 1 ≤ l.length; omega, take_next he hi' hj' ?_, hp⟩, by show l.length - (a + 1) < l.length - a; omega⟩
      simpa using hb
    · have : l ≠ m := fun e => by subst e; simp at hb
      simp [this]
  · have hn : a = l.length := by omega
    subst hn
    simp (maxSteps := 1000000) -implicitDefEqProofs only [push_cast, seval]
    repeat' (first | with_reducible (first | exact Keep.refl _ _ | assumption | exact byte_lt _ _ | apply Keep.alloc | (refine Keep.set ?_ ?_; rotate_left; · omega) | apply Pre.alloc | apply Pre.set | exact Pre.refl _ | exact le_alloc _ | (refine Pre.keep ?_; assumption) | (refine Pre.n ?_; assumption)) | ((with_reducible (first | refine bcase_d (fun hb => ?_) (fun hb => ?_) | refine bcase_mk (fun hb => ?_) (fun hb => ?_))) <;> try simp (maxSteps := 1000000) -implicitDefEqProofs only [push_cast, seval]) | with_reducible refine And.intro ?_ ?_ | omega | (simp only [alloc_n, set_n, kill_n]; omega) | (exfalso; omega))
    have := take_full he hlm
    simp [this]
theorem eqStringS_c (l m : List ByteArray) (A B : Option Addr) (ca cb : Nat) (h : AH) (hA : RdE h A 1 encS l) (hB : RdE h B 1 encS m) (hl : l.length < 274877906944) (hm : m.length < 274877906944) :
    CD Try.prog 72 [.slice A l.length ca, .slice B m.length cb] h (.bool (decide (l = m))) h := by
  refine CD.withBig (fun big => ?_)
  refine CD.quiet ?_ (low_bool _ _)
  refine CC.ofN Try.func72 Try.ntmps72 Try.results72 rfl (by decide) (by kernel_rfl) ?_
  simp (maxSteps := 1000000) -implicitDefEqProofs only [push_cast, seval]
  with_reducible refine bcase_d (fun hb => ?_) (fun hb => ?_)
  rotate_left
  · simp (maxSteps := 1000000) -implicitDefEqProofs only [push_cast, seval]
    repeat' (first | with_reducible (first | exact Keep.refl _ _ | assumption | exact byte_lt _ _ | apply Keep.alloc | (refine Keep.set ?_ ?_; rotate_left; · omega) | apply Pre.alloc | apply Pre.set | exact Pre.refl _ | exact le_alloc _ | (refine Pre.keep ?_; assumption) | (refine Pre.n ?_; assumption)) | ((with_reducible (first | refine bcase_d (fun hb => ?_) (fun hb => ?_) | refine bcase_mk (fun hb => ?_) (fun hb => ?_))) <;> try simp (maxSteps := 1000000) -implicitDefEqProofs only [push_cast, seval]) | with_reducible refine And.intro ?_ ?_ | omega | (simp only [alloc_n, set_n, kill_n]; omega) | (exfalso; omega))
    have : l ≠ m := fun e => hb (by rw [e])
    simp [this]
  have hlm : l.length = m.length := by omega
  simp (maxSteps := 1000000) -implicitDefEqProofs only [push_cast, seval]
  refine WC.loopA (by kernel_rfl) [5] [4, 11, 12, 13, 14, 15, 16, 17, 18, 19, 20, 21, 22, 23, 24, 25] (fun a : Nat => [.int .i64 (a : Nat)]) (fun a h' => a ≤ l.length ∧ l.take a = m.take a ∧ Pre h h') (fun a => l.length - a) 0 (by kernel_rfl) ⟨Nat.zero_le _, by simp, Pre.refl _⟩ ?_
  intro a g h1 hJ
  have hi := hJ.1
  have he := hJ.2.1
  have hp := hJ.2.2
  clear hJ
  simp (maxSteps := 1000000) -implicitDefEqProofs only [push_cast, seval]
  with_reducible refine bcase_d (fun hb => ?_) (fun hb => ?_)
  · have hi' : a < l.length := by omega
    have hj' : a < m.length := by omega
    with_reducible refine hA.use big hp hi' (fun id off eA hlt hr => ?_)
    with_reducible refine hB.use big hp hj' (fun id2 off2 eB hlt2 hr2 => ?_)
    subst eA
    subst eB
    simp only [encS, Nat.mul_one] at hr hr2
    have r0 := rd_1 hr
    have r02 := rd_1 hr2
    simp (maxSteps := 1000000) -implicitDefEqProofs only [push_cast, seval, hr, r0, hlt, hr2, r02, hlt2, Nat.mul_one]
    refine WC.draw' (by kernel_rfl) (by kernel_rfl) (.q 0 (.q 1 (.q 2 (.q 3 (.q 4 (.q 5 (.q 6 (.q 7 (.q 8 (.done)))))))))) (by kernel_rfl) ?_
    simp (maxSteps := 1000000) -implicitDefEqProofs only [push_cast, seval, hr, r0, hlt, hr2, r02, hlt2, Nat.mul_one]
    repeat (with_reducible refine And.intro ?_ ?_; · (first | omega | decide))
    with_reducible refine bcase_d (fun hb2 => ?_) (fun hb2 => ?_)
    · simp (maxSteps := 1000000) -implicitDefEqProofs only [push_cast, seval]
      rw [wrapSucc (by omega)]
      exact ⟨a + 1, by kernel_rfl, ⟨by show a + 1 ≤ l.length; omega, take_next he hi' hj' hb2, hp⟩, by show l.length - (a + 1) < l.length - a; omega⟩
    · simp (maxSteps := 1000000) -implicitDefEqProofs only [push_cast, seval]
      have : l ≠ m := fun e => by subst e; exact hb2 rfl
      exact ⟨by simp [this], hp.keep⟩
  · have hn : a = l.length := by omega
    subst hn
    simp (maxSteps := 1000000) -implicitDefEqProofs only [push_cast, seval]
    repeat' (first | with_reducible (first | exact Keep.refl _ _ | assumption | exact byte_lt _ _ | apply Keep.alloc | (refine Keep.set ?_ ?_; rotate_left; · omega) | apply Pre.alloc | apply Pre.set | exact Pre.refl _ | exact le_alloc _ | (refine Pre.keep ?_; assumption) | (refine Pre.n ?_; assumption)) | ((with_reducible (first | refine bcase_d (fun hb => ?_) (fun hb => ?_) | refine bcase_mk (fun hb => ?_) (fun hb => ?_))) <;> try simp (maxSteps := 1000000) -implicitDefEqProofs only [push_cast, seval]) | with_reducible refine And.intro ?_ ?_ | omega | (simp only [alloc_n, set_n, kill_n]; omega) | (exfalso; omega))
    have := take_full he hlm
    simp [this]
end Go.Proofs.Ytciajhpeikemoaa
namespace Go.Proofs.Ytciajhpeikemoaa
open Go Go.Sim Go.Proofs
set_option linter.unusedSimpArgs false
set_option linter.unusedVariables false
set_option maxRecDepth 100000
set_option maxHeartbeats 1000000
theorem Filled.rdv {α : Type} {k : Nat} {enc : α → List Value} {l : List α} {cs : List Value} (w : Filled k enc l cs l.length) (hl : ∀ x, (enc x).length = k) {h : AH} {i c : Nat} {st : Sim.Stat} {ln : Nat} (e : h.ob i = .cells cs st ln) (hi : i < h.n) : RdV h (.slice (some ⟨i, 0, none⟩) l.length c) k enc l := by
  refine .inr ⟨i, 0, c, rfl, ?_, hi⟩
  have hc : cs = (l.map enc).flatten := by
    have hf := flat_len (enc := enc) l hl
    apply List.ext_getElem?
    intro j
    by_cases hk : k = 0
    · rw [List.getElem?_eq_none (by rw [w.1, hk]; omega), List.getElem?_eq_none (by rw [hf, hk]; omega)]
    by_cases hj : j < l.length * k
    · have hq : j / k < l.length := Nat.div_lt_of_lt_mul (by rw [Nat.mul_comm]; exact hj)
      have hm : j % k < k := Nat.mod_lt _ (by omega)
      have h1 := w.2 (j / k) hq hq
      have h2 := chunk_at (enc := enc) (k := k) (j / k) hq (fun x _ => hl x)
      have e1 := congrArg (·[j % k]?) h1
      have e2 := congrArg (·[j % k]?) h2
      simp only [List.getElem?_take, hm, if_true, List.getElem?_drop] at e1 e2
      have hd : j / k * k + j % k = j := by rw [Nat.mul_comm]; exact Nat.div_add_mod j k
      rw [hd] at e1 e2
      rw [e1, e2]
    · rw [List.getElem?_eq_none (by rw [w.1]; omega), List.getElem?_eq_none (by rw [hf]; omega)]
  rw [rd_of e, rdO_cells, if_pos (by rw [w.1]; omega), List.drop_zero, List.take_of_length_le (by rw [w.1]; omega), hc]
theorem toCode_c (c : Cod) (vA vB : Value) (h : AH) (r : RdC h vA vB c) (ht : c.texts.length < 274877906944) (hl : c.list.length < 274877906944) :
    CC Try.prog 89 [.agg #[vA, vB, .int .i64 c.bgn, .int .i64 c.line, .int .i64 c.fin]] h (fun v h' => ∃ rA rB, v = .agg #[rA, rB, .int .i64 c.bgn, .int .i64 c.line, .int .i64 c.fin] ∧ RdC h' rA rB c ∧ Pre h h' ∧ ∀ i, (atBlock rA i ∨ atBlock rB i) → h.n ≤ i) := by
  refine CC.withBig (fun big => ?_)
  obtain ⟨A, cA, rfl, hA⟩ := r.texts.rde (fun _ => rfl)
  obtain ⟨B, cB, rfl, hB⟩ := r.list.rde (fun _ => rfl)
  refine CC.ofN Try.func89 Try.ntmps89 Try.results89 rfl (by decide) (by kernel_rfl) ?_
  simp (maxSteps := 1000000) -implicitDefEqProofs only [push_cast, seval]
  have p0 : Pre h (((h.alloc (.cells [.slice A c.texts.length cA, .slice B c.list.length cB, .int .i64 c.bgn, .int .i64 c.line, .int .i64 c.fin] .solo h.n)).alloc (.cells [.slice none 0 0, .slice none 0 0, .int .i64 0, .int .i64 0, .int .i64 0] .solo (h.n + 1))).alloc (.cells [.slice none 0 0, .slice none 0 0, .int .i64 0, .int .i64 0, .int .i64 0] .solo (h.n + 2))) := (((Pre.refl h).alloc _).alloc _).alloc _
  have c0 : (((h.alloc (.cells [.slice A c.texts.length cA, .slice B c.list.length cB, .int .i64 c.bgn, .int .i64 c.line, .int .i64 c.fin] .solo h.n)).alloc (.cells [.slice none 0 0, .slice none 0 0, .int .i64 0, .int .i64 0, .int .i64 0] .solo (h.n + 1))).alloc (.cells [.slice none 0 0, .slice none 0 0, .int .i64 0, .int .i64 0, .int .i64 0] .solo (h.n + 2))).ob h.n = AOb.cells [.slice A c.texts.length cA, .slice B c.list.length cB, .int .i64 c.bgn, .int .i64 c.line, .int .i64 c.fin] .solo h.n := (by (try simp (maxSteps := 1000000) -implicitDefEqProofs only [push_cast, seval, rdOb]); try rfl)
  have c1 : (((h.alloc (.cells [.slice A c.texts.length cA, .slice B c.list.length cB, .int .i64 c.bgn, .int .i64 c.line, .int .i64 c.fin] .solo h.n)).alloc (.cells [.slice none 0 0, .slice none 0 0, .int .i64 0, .int .i64 0, .int .i64 0] .solo (h.n + 1))).alloc (.cells [.slice none 0 0, .slice none 0 0, .int .i64 0, .int .i64 0, .int .i64 0] .solo (h.n + 2))).ob (h.n + 1) = AOb.cells [.slice none 0 0, .slice none 0 0, .int .i64 0, .int .i64 0, .int .i64 0] .solo (h.n + 1) := (by (try simp (maxSteps := 1000000) -implicitDefEqProofs only [push_cast, seval, rdOb]); try rfl)
  have c2 : (((h.alloc (.cells [.slice A c.texts.length cA, .slice B c.list.length cB, .int .i64 c.bgn, .int .i64 c.line, .int .i64 c.fin] .solo h.n)).alloc (.cells [.slice none 0 0, .slice none 0 0, .int .i64 0, .int .i64 0, .int .i64 0] .solo (h.n + 1))).alloc (.cells [.slice none 0 0, .slice none 0 0, .int .i64 0, .int .i64 0, .int .i64 0] .solo (h.n + 2))).ob (h.n + 2) = AOb.cells [.slice none 0 0, .slice none 0 0, .int .i64 0, .int .i64 0, .int .i64 0] .solo (h.n + 2) := (by (try simp (maxSteps := 1000000) -implicitDefEqProofs only [push_cast, seval, rdOb]); try rfl)
  have n0 : (((h.alloc (.cells [.slice A c.texts.length cA, .slice B c.list.length cB, .int .i64 c.bgn, .int .i64 c.line, .int .i64 c.fin] .solo h.n)).alloc (.cells [.slice none 0 0, .slice none 0 0, .int .i64 0, .int .i64 0, .int .i64 0] .solo (h.n + 1))).alloc (.cells [.slice none 0 0, .slice none 0 0, .int .i64 0, .int .i64 0, .int .i64 0] .solo (h.n + 2))).n = h.n + 3 := rfl
  generalize (((h.alloc (.cells [.slice A c.texts.length cA, .slice B c.list.length cB, .int .i64 c.bgn, .int .i64 c.line, .int .i64 c.fin] .solo h.n)).alloc (.cells [.slice none 0 0, .slice none 0 0, .int .i64 0, .int .i64 0, .int .i64 0] .solo (h.n + 1))).alloc (.cells [.slice none 0 0, .slice none 0 0, .int .i64 0, .int .i64 0, .int .i64 0] .solo (h.n + 2))) = H0 at *
  with_reducible refine CC.mono (toStringS_c c.texts A cA _ (hA.pre big p0) ht) (fun v h1 hv => ?_)
  with_reducible refine Exists.elim hv (fun cs hw => ?_)
  have e1 := hw.1
  have e2 := hw.2.1
  have f1 := hw.2.2
  clear hv hw
  subst e1 e2
  have d0 : (H0.alloc (.cells cs .solo H0.n)).ob h.n = _ := (alloc_lt _ (by omega)).trans c0
  have d1 : (H0.alloc (.cells cs .solo H0.n)).ob (h.n + 1) = _ := (alloc_lt _ (by omega)).trans c1
  have d2 : (H0.alloc (.cells cs .solo H0.n)).ob (h.n + 2) = _ := (alloc_lt _ (by omega)).trans c2
  have d3 : (H0.alloc (.cells cs .solo H0.n)).ob H0.n = _ := alloc_same _
  have n1 : (H0.alloc (.cells cs .solo H0.n)).n = H0.n + 1 := rfl
  have p1 : Pre h (H0.alloc (.cells cs .solo H0.n)) := p0.alloc _
  generalize H0.alloc (.cells cs .solo H0.n) = H1 at *
  have l0 : h.n < H1.n := by omega
  have l1 : h.n + 1 < H1.n := by omega
  have l2 : h.n + 2 < H1.n := by omega
  simp (maxSteps := 1000000) -implicitDefEqProofs only [push_cast, seval, d0, rd_of d0, rd1_of d0, d1, rd_of d1, rd1_of d1, d2, rd_of d2, rd1_of d2, l0, l1, l2]
  have p2 : Pre h (H1.set (h.n + 2) (.cells [.slice (some ⟨H0.n, 0, none⟩) c.texts.length 1, .slice none 0 0, .int .i64 0, .int .i64 0, .int .i64 0] .solo (h.n + 2))) := p1.set (by omega) _
  have e0 : (H1.set (h.n + 2) (.cells [.slice (some ⟨H0.n, 0, none⟩) c.texts.length 1, .slice none 0 0, .int .i64 0, .int .i64 0, .int .i64 0] .solo (h.n + 2))).ob h.n = _ := (set_ne _ (by omega)).trans d0
  have e1 : (H1.set (h.n + 2) (.cells [.slice (some ⟨H0.n, 0, none⟩) c.texts.length 1, .slice none 0 0, .int .i64 0, .int .i64 0, .int .i64 0] .solo (h.n + 2))).ob (h.n + 1) = _ := (set_ne _ (by omega)).trans d1
  have e2 : (H1.set (h.n + 2) (.cells [.slice (some ⟨H0.n, 0, none⟩) c.texts.length 1, .slice none 0 0, .int .i64 0, .int .i64 0, .int .i64 0] .solo (h.n + 2))).ob (h.n + 2) = AOb.cells [.slice (some ⟨H0.n, 0, none⟩) c.texts.length 1, .slice none 0 0, .int .i64 0, .int .i64 0, .int .i64 0] .solo (h.n + 2) := set_same _ _
  have e3 : (H1.set (h.n + 2) (.cells [.slice (some ⟨H0.n, 0, none⟩) c.texts.length 1, .slice none 0 0, .int .i64 0, .int .i64 0, .int .i64 0] .solo (h.n + 2))).ob H0.n = _ := (set_ne _ (by omega)).trans d3
  have n2 : (H1.set (h.n + 2) (.cells [.slice (some ⟨H0.n, 0, none⟩) c.texts.length 1, .slice none 0 0, .int .i64 0, .int .i64 0, .int .i64 0] .solo (h.n + 2))).n = H1.n := rfl
  generalize (H1.set (h.n + 2) (.cells [.slice (some ⟨H0.n, 0, none⟩) c.texts.length 1, .slice none 0 0, .int .i64 0, .int .i64 0, .int .i64 0] .solo (h.n + 2))) = H2 at *
  with_reducible refine CC.mono (toInstrS_c c.list B cB _ (hB.pre big p2) hl) (fun v h1 hv => ?_)
  with_reducible refine Exists.elim hv (fun cs2 hw => ?_)
  have ev := hw.1
  have eh := hw.2.1
  have f2 := hw.2.2
  clear hv hw
  subst ev eh
  have g0 : (H2.alloc (.cells cs2 .solo H2.n)).ob h.n = _ := (alloc_lt _ (by omega)).trans e0
  have g1 : (H2.alloc (.cells cs2 .solo H2.n)).ob (h.n + 1) = _ := (alloc_lt _ (by omega)).trans e1
  have g2 : (H2.alloc (.cells cs2 .solo H2.n)).ob (h.n + 2) = _ := (alloc_lt _ (by omega)).trans e2
  have g3 : (H2.alloc (.cells cs2 .solo H2.n)).ob H0.n = _ := (alloc_lt _ (by omega)).trans e3
  have g4 : (H2.alloc (.cells cs2 .solo H2.n)).ob H2.n = _ := alloc_same _
  have n3 : (H2.alloc (.cells cs2 .solo H2.n)).n = H2.n + 1 := rfl
  have p3 : Pre h (H2.alloc (.cells cs2 .solo H2.n)) := p2.alloc _
  generalize H2.alloc (.cells cs2 .solo H2.n) = H3 at *
  have m0 : h.n < H3.n := by omega
  have m1 : h.n + 1 < H3.n := by omega
  have m2 : h.n + 2 < H3.n := by omega
  simp (maxSteps := 1000000) -implicitDefEqProofs only [push_cast, seval, g0, rd_of g0, rd1_of g0, g1, rd_of g1, rd1_of g1, g2, rd_of g2, rd1_of g2, m0, m1, m2]
  refine ⟨_, _, rfl, ⟨f1.rdv (fun _ => rfl) (st := .solo) (ln := H0.n) ((set_ne _ (by omega)).trans ((set_ne _ (by omega)).trans g3)) (by show H0.n < H3.n; omega), f2.rdv (fun _ => rfl) (st := .solo) (ln := H2.n) ((set_ne _ (by omega)).trans ((set_ne _ (by omega)).trans g4)) (by show H2.n < H3.n; omega)⟩, (p3.set (by omega) _).set (by omega) _, fun i e => by
    rcases e with e | e
    · have e' : H0.n = i := e
      omega
    · have e' : H2.n = i := e
      omega⟩
theorem eqCode_c (c : Cod) (vA vB vC vD : Value) (h : AH) (r : RdC h vA vB c) (r2 : RdC h vC vD c) (ht : c.texts.length < 274877906944) (hl : c.list.length < 274877906944) :
    CD Try.prog 26 [.agg #[vA, vB, .int .i64 c.bgn, .int .i64 c.line, .int .i64 c.fin], .agg #[vC, vD, .int .i64 c.bgn, .int .i64 c.line, .int .i64 c.fin]] h (.bool true) h := by
  refine CD.withBig (fun big => ?_)
  refine CD.quiet ?_ (low_bool _ _)
  obtain ⟨A, cA, rfl, hA⟩ := r.texts.rde (fun _ => rfl)
  obtain ⟨B, cB, rfl, hB⟩ := r.list.rde (fun _ => rfl)
  obtain ⟨C, cC, rfl, hC⟩ := r2.texts.rde (fun _ => rfl)
  obtain ⟨D, cD, rfl, hD⟩ := r2.list.rde (fun _ => rfl)
  have pb : Pre h ((h.alloc (.cells [.slice A c.texts.length cA, .slice B c.list.length cB, .int .i64 c.bgn, .int .i64 c.line, .int .i64 c.fin] .solo h.n)).alloc (.cells [.slice C c.texts.length cC, .slice D c.list.length cD, .int .i64 c.bgn, .int .i64 c.line, .int .i64 c.fin] .solo (h.n + 1))) := ((Pre.refl _).alloc _).alloc _
  have hV := eqStringS_c c.texts c.texts A C cA cC _ (hA.pre big pb) (hC.pre big pb) ht ht
  have hU := eqInstrS_c c.list c.list B D cB cD _ (hB.pre big pb) (hD.pre big pb) hl hl
  rw [decide_eq_true rfl] at hV hU
  refine CC.ofN Try.func26 Try.ntmps26 Try.results26 rfl (by decide) (by kernel_rfl) ?_
  simp (maxSteps := 1000000) -implicitDefEqProofs only [push_cast, seval]
  repeat' (first | with_reducible (first | exact Keep.refl _ _ | assumption | exact byte_lt _ _ | apply Keep.alloc | (refine Keep.set ?_ ?_; rotate_left; · omega) | apply Pre.alloc | apply Pre.set | exact Pre.refl _ | exact le_alloc _ | (refine Pre.keep ?_; assumption) | (refine Pre.n ?_; assumption)) | ((with_reducible (first | refine CD.to (hV) ?_ | refine CQ.pure (fun _ => hV) ?_ | refine CD.to (hU) ?_ | refine CQ.pure (fun _ => hU) ?_ | refine bcase_d (fun hb => ?_) (fun hb => ?_) | refine bcase_mk (fun hb => ?_) (fun hb => ?_))) <;> try simp (maxSteps := 1000000) -implicitDefEqProofs only [push_cast, seval]) | with_reducible refine And.intro ?_ ?_ | omega | (simp only [alloc_n, set_n, kill_n]; omega) | (exfalso; omega))
theorem SzC.small {c : Cod} (h : codeW c ≤ 1048576) : c.texts.length ≤ 1048576 ∧ c.list.length ≤ 1048576 := by unfold codeW at h; omega
end Go.Proofs.Ytciajhpeikemoaa
namespace Go.Proofs.Ytciajhpeikemoaa
open Go Go.Sim Go.Proofs
set_option linter.unusedSimpArgs false
set_option linter.unusedVariables false
set_option maxRecDepth 100000
set_option maxHeartbeats 1000000
theorem szIntS_c (n : Nat) (A : Option Addr) (ca : Nat) (l : Int) (h : AH) (hn : n ≤ maxLen) (hl : 0 ≤ l ∧ l ≤ 1048576) :
    CD Try.prog 153 [.slice A n ca, .int .i64 l] h (.int .i64 (if l - n < 0 then -1 else l - n)) h := by
  refine CD.quiet ?_ (low_int _ _ _)
  have hm := maxLen_eq
  have w1 : IntKind.i64.wrap (l - (n : Int)) = l - (n : Int) := by rw [w64 (by omega) (by omega)]
  refine CC.ofN Try.func153 Try.ntmps153 Try.results153 rfl (by decide) (by kernel_rfl) ?_
  simp (maxSteps := 1000000) -implicitDefEqProofs only [push_cast, seval, w1]
  repeat' (first | with_reducible (first | exact Keep.refl _ _ | assumption | exact byte_lt _ _ | apply Keep.alloc | (refine Keep.set ?_ ?_; rotate_left; · omega) | apply Pre.alloc | apply Pre.set | exact Pre.refl _ | exact le_alloc _ | (refine Pre.keep ?_; assumption) | (refine Pre.n ?_; assumption)) | ((with_reducible (first | refine bcase_d (fun hb => ?_) (fun hb => ?_) | refine bcase_mk (fun hb => ?_) (fun hb => ?_))) <;> try simp (maxSteps := 1000000) -implicitDefEqProofs only [push_cast, seval, w1]) | with_reducible refine And.intro ?_ ?_ | omega | (simp only [alloc_n, set_n, kill_n]; omega) | (exfalso; omega))
  all_goals grind
theorem szRuleS_c (n : Nat) (A : Option Addr) (ca : Nat) (l : Int) (h : AH) (hn : n ≤ maxLen) (hl : 0 ≤ l ∧ l ≤ 1048576) :
    CD Try.prog 52 [.slice A n ca, .int .i64 l] h (.int .i64 (if l - n < 0 then -1 else l - n)) h := by
  refine CD.quiet ?_ (low_int _ _ _)
  have hm := maxLen_eq
  have w1 : IntKind.i64.wrap (l - (n : Int)) = l - (n : Int) := by rw [w64 (by omega) (by omega)]
  refine CC.ofN Try.func52 Try.ntmps52 Try.results52 rfl (by decide) (by kernel_rfl) ?_
  simp (maxSteps := 1000000) -implicitDefEqProofs only [push_cast, seval, w1]
  repeat' (first | with_reducible (first | exact Keep.refl _ _ | assumption | exact byte_lt _ _ | apply Keep.alloc | (refine Keep.set ?_ ?_; rotate_left; · omega) | apply Pre.alloc | apply Pre.set | exact Pre.refl _ | exact le_alloc _ | (refine Pre.keep ?_; assumption) | (refine Pre.n ?_; assumption)) | ((with_reducible (first | refine bcase_d (fun hb => ?_) (fun hb => ?_) | refine bcase_mk (fun hb => ?_) (fun hb => ?_))) <;> try simp (maxSteps := 1000000) -implicitDefEqProofs only [push_cast, seval, w1]) | with_reducible refine And.intro ?_ ?_ | omega | (simp only [alloc_n, set_n, kill_n]; omega) | (exfalso; omega))
  all_goals grind
theorem szNode_c (op : Int) (s : ByteArray) (A : Option Addr) (n ca : Nat) (l : Int) (h : AH) (hs : s.size ≤ maxLen) (hn : n ≤ maxLen) (hl : 0 ≤ l ∧ l ≤ 1048576) :
    CD Try.prog 106 [.agg #[.int .i64 op, .string s, .slice A n ca], .int .i64 l] h (.int .i64 (if l - (s.size + n : Nat) < 0 then -1 else l - (s.size + n : Nat))) h := by
  refine CD.quiet ?_ (low_int _ _ _)
  have hm := maxLen_eq
  have w1 : IntKind.i64.wrap (l - (s.size : Int)) = l - (s.size : Int) := by rw [w64 (by omega) (by omega)]
  refine CC.ofN Try.func106 Try.ntmps106 Try.results106 rfl (by decide) (by kernel_rfl) ?_
  simp (maxSteps := 1000000) -implicitDefEqProofs only [push_cast, seval, w1]
  repeat' (first | with_reducible (first | exact Keep.refl _ _ | assumption | exact byte_lt _ _ | apply Keep.alloc | (refine Keep.set ?_ ?_; rotate_left; · omega) | apply Pre.alloc | apply Pre.set | exact Pre.refl _ | exact le_alloc _ | (refine Pre.keep ?_; assumption) | (refine Pre.n ?_; assumption)) | ((with_reducible (first | refine CD.to (szIntS_c n A ca _ _ ?_ ?_) ?_ | refine CQ.pure (fun _ => szIntS_c n A ca _ _ ?_ ?_) ?_ | refine bcase_d (fun hb => ?_) (fun hb => ?_) | refine bcase_mk (fun hb => ?_) (fun hb => ?_))) <;> try simp (maxSteps := 1000000) -implicitDefEqProofs only [push_cast, seval, w1]) | with_reducible refine And.intro ?_ ?_ | omega | (simp only [alloc_n, set_n, kill_n]; omega) | (exfalso; omega))
  all_goals first
    | omega
    | (congr 1; split <;> omega)
    | grind
theorem nameI2 (n : Int) {G : Prop} (k : ∀ N, n = N → G) : G := k n rfl
theorem lt_of_if2 {x : Int} {l w : Int} (h : (if l - w < 0 then -1 else l - w) = x) : (x < 0 → l - w < 0) ∧ (¬ x < 0 → x = l - w) := by split at h <;> omega
def nodW (L : List (Nd × Value)) (i : Nat) : Nat := ((L.take i).map fun x => x.1.text.size + x.1.kids.length).sum
theorem nodW_zero (L : List (Nd × Value)) : nodW L 0 = 0 := by simp [nodW]
theorem nodW_succ {L : List (Nd × Value)} {i : Nat} (h : i < L.length) : nodW L (i + 1) = nodW L i + (L[i].1.text.size + L[i].1.kids.length) := by
  simp only [nodW, List.take_add_one, List.getElem?_eq_getElem h, Option.toList_some, List.map_append, List.map_cons, List.map_nil, List.sum_append, List.sum_cons, List.sum_nil]; omega
theorem nodW_mono {L : List (Nd × Value)} : ∀ {i j : Nat}, i ≤ j → j ≤ L.length → nodW L i ≤ nodW L j
  | i, 0, h, _ => by have : i = 0 := by omega
                     subst this; exact Nat.le_refl _
  | i, j + 1, h, hj => by
    by_cases e : i = j + 1
    · subst e; exact Nat.le_refl _
    · have := nodW_mono (L := L) (i := i) (j := j) (by omega) (by omega)
      rw [nodW_succ (by omega)]; omega
theorem szNodeS_c (L : List (Nd × Value)) (A : Option Addr) (ca : Nat) (l : Int) (h : AH) (hR : RdE h A 3 encD L) (kids : ∀ x ∈ L, RdV h x.2 1 encZ x.1.kids) (hz : ∀ x ∈ L, x.1.text.size ≤ maxLen ∧ x.1.kids.length ≤ maxLen) (hn : L.length ≤ maxLen) (hl : 0 ≤ l ∧ l ≤ 1048576) :
    CD Try.prog 51 [.slice A L.length ca, .int .i64 l] h (.int .i64 (if l - (L.length + nodW L L.length : Nat) < 0 then -1 else l - (L.length + nodW L L.length : Nat))) h := by
  refine CD.withBig (fun big => ?_)
  refine CD.quiet ?_ (low_int _ _ _)
  have hm := maxLen_eq
  have w1 : IntKind.i64.wrap (l - (L.length : Int)) = l - (L.length : Int) := by rw [w64 (by omega) (by omega)]
  refine CC.ofN Try.func51 Try.ntmps51 Try.results51 rfl (by decide) (by kernel_rfl) ?_
  simp (maxSteps := 1000000) -implicitDefEqProofs only [push_cast, seval, w1]
  with_reducible refine bcase_d (fun hb => ?_) (fun hb => ?_)
  · simp (maxSteps := 1000000) -implicitDefEqProofs only [push_cast, seval]
    exact ⟨by rw [if_pos (by omega)], Keep.refl _ _⟩
  simp (maxSteps := 1000000) -implicitDefEqProofs only [push_cast, seval]
  refine WC.loopA (by kernel_rfl) [1, 5] [4, 12, 13, 14, 15, 16, 17, 18, 19, 20, 21, 22, 23, 24, 25] (fun a : Int × Nat => [.int .i64 a.1, .int .i64 (a.2 : Nat)]) (fun a h' => (a.1 = l - (L.length + nodW L a.2 : Nat) ∧ 0 ≤ a.1 ∧ a.2 ≤ L.length) ∧ Pre h h') (fun a => L.length - a.2) (l - L.length, 0) (by kernel_rfl) ⟨⟨by rw [nodW_zero]; simp, by omega, Nat.zero_le _⟩, Pre.refl _⟩ ?_
  intro a g h1 hJ
  have ha := hJ.1.1
  have h0 := hJ.1.2.1
  have hi := hJ.1.2.2
  have hp := hJ.2
  clear hJ
  simp (maxSteps := 1000000) -implicitDefEqProofs only [push_cast, seval]
  with_reducible refine bcase_d (fun hb => ?_) (fun hb => ?_)
  · have hi' : a.2 < L.length := by omega
    have kr := (kids L[a.2] (List.getElem_mem hi'))
    have hzi := hz _ (List.getElem_mem hi')
    have hs := nodW_succ hi'
    have hmo := nodW_mono (L := L) (i := a.2 + 1) (j := L.length) (by omega) (Nat.le_refl _)
    with_reducible refine hR.use big hp hi' (fun id off eA hlt hr => ?_)
    subst eA
    simp only [encD] at hr
    have r0 := (rd_3 hr).1
    have r1 := (rd_3 hr).2.1
    have r2 := (rd_3 hr).2.2
    generalize L[a.2] = X at *
    have kf := kr.rde (fun _ => rfl)
    with_reducible refine Exists.elim kf (fun K kf => ?_)
    with_reducible refine Exists.elim kf (fun cK kf => ?_)
    have eK := kf.1
    clear kf
    rw [eK] at hr r2
    simp (maxSteps := 1000000) -implicitDefEqProofs only [push_cast, seval, hr, r0, r1, r2, hlt]
    repeat (with_reducible refine And.intro ?_ ?_; · (first | omega | decide))
    with_reducible refine CD.to (szNode_c X.1.op X.1.text K X.1.kids.length cK a.1 _ hzi.1 hzi.2 (by omega)) ?_
    with_reducible refine nameI2 (if a.1 - (X.1.text.size + X.1.kids.length : Nat) < 0 then -1 else a.1 - (X.1.text.size + X.1.kids.length : Nat)) (fun l1 h2 => ?_)
    have g2 := lt_of_if2 h2
    rw [h2]
    simp (maxSteps := 1000000) -implicitDefEqProofs only [push_cast, seval]
    with_reducible refine bcase_d (fun hb2 => ?_) (fun hb2 => ?_)
    · simp (maxSteps := 1000000) -implicitDefEqProofs only [push_cast, seval]
      exact ⟨by rw [if_pos (by omega)], hp.keep⟩
    · simp (maxSteps := 1000000) -implicitDefEqProofs only [push_cast, seval]
      rw [wrapSucc (by omega)]
      exact ⟨(l1, a.2 + 1), by kernel_rfl, ⟨⟨by show l1 = l - (L.length + nodW L (a.2 + 1) : Nat); omega, by show 0 ≤ l1; omega, by show a.2 + 1 ≤ L.length; omega⟩, hp⟩, by show L.length - (a.2 + 1) < L.length - a.2; omega⟩
  · have hn : a.2 = L.length := by omega
    rw [hn] at ha
    simp (maxSteps := 1000000) -implicitDefEqProofs only [push_cast, seval]
    refine ⟨?_, hp.keep⟩
    rw [if_neg (by omega)]
    congr 1
def progW (L : List (Nd × Value)) (R : List Ru) : Nat := L.length + nodW L L.length + R.length
end Go.Proofs.Ytciajhpeikemoaa
namespace Go.Proofs.Ytciajhpeikemoaa
open Go Go.Sim Go.Proofs
set_option linter.unusedSimpArgs false
set_option linter.unusedVariables false
set_option maxRecDepth 100000
set_option maxHeartbeats 1000000
theorem toIntS_c (vs : List Int) (A : Option Addr) (ca : Nat) (h : AH) (hR : RdE h A 1 encZ vs) (hn : vs.length < 274877906944) :
    CC Try.prog 157 [.slice A vs.length ca] h (fun v h' => ∃ cs, v = .slice (some ⟨h.n, 0, none⟩) vs.length 1 ∧ h' = h.alloc (.cells cs .solo h.n) ∧ Filled 1 encZ vs cs vs.length) := by
  refine CC.withBig (fun big => ?_)
  refine CC.ofN Try.func157 Try.ntmps157 Try.results157 rfl (by decide) (by kernel_rfl) ?_
  simp (maxSteps := 1000000) -implicitDefEqProofs only [push_cast, seval]
  repeat (with_reducible refine And.intro ?_ ?_; · (first | omega | decide))
  refine WC.loopA (by kernel_rfl) [4] [8, 9, 10, 11, 12, 13, 14, 15, 16, 17, 18, 19, 20] (fun a : Nat × List Value => [.int .i64 (a.1 : Nat)]) (fun a h' => h' = h.alloc (.cells a.2 .solo h.n) ∧ a.1 ≤ vs.length ∧ Filled 1 encZ vs a.2 a.1) (fun a => vs.length - a.1) (0, List.replicate (vs.length * 1) (.int .i64 0)) (by kernel_rfl) ⟨rfl, Nat.zero_le _, by simp, fun j _ h => absurd h (Nat.not_lt_zero j)⟩ ?_
  intro a g h1 hJ
  have hh := hJ.1
  have hi := hJ.2.1
  have hf := hJ.2.2
  clear hJ
  subst hh
  have pb : Pre h (h.alloc (.cells a.2 .solo h.n)) := (Pre.refl _).alloc _
  simp (maxSteps := 1000000) -implicitDefEqProofs only [push_cast, seval]
  with_reducible refine bcase_d (fun hb => ?_) (fun hb => ?_)
  · have hi' : a.1 < vs.length := by omega
    with_reducible refine hR.use big pb hi' (fun id off eA hlt hr => ?_)
    subst eA
    simp only [encZ, Nat.mul_one] at hr
    have r0 := rd_1 hr
    have hc := hf.1
    have hf' := hf.put hi' rfl
    simp only [encZ] at hf'
    have hbd : a.1 + 1 ≤ vs.length * 1 := by omega
    simp (maxSteps := 1000000) -implicitDefEqProofs only [push_cast, seval, hr, r0, hlt, Nat.mul_one]
    repeat' (first | with_reducible (first | exact Keep.refl _ _ | assumption | exact byte_lt _ _ | apply Keep.alloc | (refine Keep.set ?_ ?_; rotate_left; · omega) | apply Pre.alloc | apply Pre.set | exact Pre.refl _ | exact le_alloc _ | (refine Pre.keep ?_; assumption) | (refine Pre.n ?_; assumption)) | ((with_reducible (first | refine bcase_d (fun hb => ?_) (fun hb => ?_) | refine bcase_mk (fun hb => ?_) (fun hb => ?_))) <;> try simp (maxSteps := 1000000) -implicitDefEqProofs only [push_cast, seval, hr, r0, hlt, Nat.mul_one, hc, hbd]) | with_reducible refine And.intro ?_ ?_ | omega | (simp only [alloc_n, set_n, kill_n]; omega) | (exfalso; omega))
    rw [wrapSucc (by omega)]
    refine ⟨(a.1 + 1, putL a.2 (a.1 * 1) [.int .i64 vs[a.1]]), by kernel_rfl, ⟨?_, ?_, hf'⟩, ?_⟩
    · simp only [putL, alloc_set, Nat.mul_one]
    · show a.1 + 1 ≤ vs.length
      omega
    · show vs.length - (a.1 + 1) < vs.length - a.1
      omega
  · have hn : a.1 = vs.length := by omega
    rw [hn] at hf
    simp (maxSteps := 1000000) -implicitDefEqProofs only [push_cast, seval]
    repeat' (first | with_reducible (first | exact Keep.refl _ _ | assumption | exact byte_lt _ _ | apply Keep.alloc | (refine Keep.set ?_ ?_; rotate_left; · omega) | apply Pre.alloc | apply Pre.set | exact Pre.refl _ | exact le_alloc _ | (refine Pre.keep ?_; assumption) | (refine Pre.n ?_; assumption)) | ((with_reducible (first | refine bcase_d (fun hb => ?_) (fun hb => ?_) | refine bcase_mk (fun hb => ?_) (fun hb => ?_))) <;> try simp (maxSteps := 1000000) -implicitDefEqProofs only [push_cast, seval]) | with_reducible refine And.intro ?_ ?_ | omega | (simp only [alloc_n, set_n, kill_n]; omega) | (exfalso; omega))
    exact ⟨_, rfl, hf⟩
theorem toRule_c (x : Ru) (h : AH) : CD Try.prog 110 [.agg #[.int .i64 x.when_, .int .i64 x.cond, .int .i64 x.act]] h (.agg #[.int .i64 x.when_, .int .i64 x.cond, .int .i64 x.act]) h := by
  refine CD.quiet ?_ (low_agg (by simp [low_int]))
  refine CC.ofN Try.func110 Try.ntmps110 Try.results110 rfl (by decide) (by kernel_rfl) ?_
  simp (maxSteps := 1000000) -implicitDefEqProofs only [push_cast, seval]
  repeat' (first | with_reducible (first | exact Keep.refl _ _ | assumption | exact byte_lt _ _ | apply Keep.alloc | (refine Keep.set ?_ ?_; rotate_left; · omega) | apply Pre.alloc | apply Pre.set | exact Pre.refl _ | exact le_alloc _ | (refine Pre.keep ?_; assumption) | (refine Pre.n ?_; assumption)) | ((with_reducible (first | refine bcase_d (fun hb => ?_) (fun hb => ?_) | refine bcase_mk (fun hb => ?_) (fun hb => ?_))) <;> try simp (maxSteps := 1000000) -implicitDefEqProofs only [push_cast, seval]) | with_reducible refine And.intro ?_ ?_ | omega | (simp only [alloc_n, set_n, kill_n]; omega) | (exfalso; omega))
theorem toRuleS_c (vs : List Ru) (A : Option Addr) (ca : Nat) (h : AH) (hR : RdE h A 3 encU vs) (hn : vs.length < 274877906944) :
    CC Try.prog 56 [.slice A vs.length ca] h (fun v h' => ∃ cs, v = .slice (some ⟨h.n, 0, none⟩) vs.length 3 ∧ h' = h.alloc (.cells cs .solo h.n) ∧ Filled 3 encU vs cs vs.length) := by
  refine CC.withBig (fun big => ?_)
  refine CC.ofN Try.func56 Try.ntmps56 Try.results56 rfl (by decide) (by kernel_rfl) ?_
  simp (maxSteps := 1000000) -implicitDefEqProofs only [push_cast, seval]
  repeat (with_reducible refine And.intro ?_ ?_; · (first | omega | decide))
  refine WC.loopA (by kernel_rfl) [4] [8, 9, 10, 11, 12, 13, 14, 15, 16, 17, 18, 19, 20, 21] (fun a : Nat × List Value => [.int .i64 (a.1 : Nat)]) (fun a h' => h' = h.alloc (.cells a.2 .solo h.n) ∧ a.1 ≤ vs.length ∧ Filled 3 encU vs a.2 a.1) (fun a => vs.length - a.1) (0, zerosL (vs.length * 3) [.int .i64 0, .int .i64 0, .int .i64 0]) (by kernel_rfl) ⟨rfl, Nat.zero_le _, Filled.zero _⟩ ?_
  intro a g h1 hJ
  have hh := hJ.1
  have hi := hJ.2.1
  have hf := hJ.2.2
  clear hJ
  subst hh
  have pb : Pre h (h.alloc (.cells a.2 .solo h.n)) := (Pre.refl _).alloc _
  simp (maxSteps := 1000000) -implicitDefEqProofs only [push_cast, seval]
  with_reducible refine bcase_d (fun hb => ?_) (fun hb => ?_)
  · have hi' : a.1 < vs.length := by omega
    with_reducible refine hR.use big pb hi' (fun id off eA hlt hr => ?_)
    subst eA
    simp only [encU] at hr
    have hc := hf.1
    have hf' := hf.put hi' rfl
    simp only [encU] at hf'
    simp (maxSteps := 1000000) -implicitDefEqProofs only [push_cast, seval, hr, hlt]
    repeat' (first | with_reducible (first | exact Keep.refl _ _ | assumption | exact byte_lt _ _ | apply Keep.alloc | (refine Keep.set ?_ ?_; rotate_left; · omega) | apply Pre.alloc | apply Pre.set | exact Pre.refl _ | exact le_alloc _ | (refine Pre.keep ?_; assumption) | (refine Pre.n ?_; assumption)) | ((with_reducible (first | refine CD.to (toRule_c _ _) ?_ | refine CQ.pure (fun _ => toRule_c _ _) ?_ | refine bcase_d (fun hb => ?_) (fun hb => ?_) | refine bcase_mk (fun hb => ?_) (fun hb => ?_))) <;> try simp (maxSteps := 1000000) -implicitDefEqProofs only [push_cast, seval, hr, hlt]) | with_reducible refine And.intro ?_ ?_ | omega | (simp only [alloc_n, set_n, kill_n]; omega) | (exfalso; omega))
    rw [wrapSucc (by omega)]
    refine ⟨(a.1 + 1, putL a.2 (a.1 * 3) [.int .i64 vs[a.1].when_, .int .i64 vs[a.1].cond, .int .i64 vs[a.1].act]), by kernel_rfl, ⟨?_, ?_, hf'⟩, ?_⟩
    · simp only [putL, alloc_set]
    · show a.1 + 1 ≤ vs.length
      omega
    · show vs.length - (a.1 + 1) < vs.length - a.1
      omega
  · have hn : a.1 = vs.length := by omega
    rw [hn] at hf
    simp (maxSteps := 1000000) -implicitDefEqProofs only [push_cast, seval]
    repeat' (first | with_reducible (first | exact Keep.refl _ _ | assumption | exact byte_lt _ _ | apply Keep.alloc | (refine Keep.set ?_ ?_; rotate_left; · omega) | apply Pre.alloc | apply Pre.set | exact Pre.refl _ | exact le_alloc _ | (refine Pre.keep ?_; assumption) | (refine Pre.n ?_; assumption)) | ((with_reducible (first | refine bcase_d (fun hb => ?_) (fun hb => ?_) | refine bcase_mk (fun hb => ?_) (fun hb => ?_))) <;> try simp (maxSteps := 1000000) -implicitDefEqProofs only [push_cast, seval]) | with_reducible refine And.intro ?_ ?_ | omega | (simp only [alloc_n, set_n, kill_n]; omega) | (exfalso; omega))
    exact ⟨_, rfl, hf⟩
theorem toNode_c (op : Int) (s : ByteArray) (kv : Value) (kids : List Int) (h : AH) (r : RdV h kv 1 encZ kids) (hn : kids.length < 274877906944) :
    CC Try.prog 109 [.agg #[.int .i64 op, .string s, kv]] h (fun v h' => ∃ kw, v = .agg #[.int .i64 op, .string s, kw] ∧ RdV h' kw 1 encZ kids ∧ Pre h h' ∧ ∀ b, atBlock kw b → h.n ≤ b) := by
  refine CC.withBig (fun big => ?_)
  obtain ⟨A, cA, rfl, hA⟩ := r.rde (fun _ => rfl)
  have p0 : Pre h (((h.alloc (.cells [.int .i64 op, .string s, .slice A kids.length cA] .solo h.n)).alloc (.cells [.int .i64 0, .string ⟨#[]⟩, .slice none 0 0] .solo (h.n + 1))).alloc (.cells [.int .i64 0, .string ⟨#[]⟩, .slice none 0 0] .solo (h.n + 2))) := (((Pre.refl h).alloc _).alloc _).alloc _
  refine CC.ofN Try.func109 Try.ntmps109 Try.results109 rfl (by decide) (by kernel_rfl) ?_
  simp (maxSteps := 1000000) -implicitDefEqProofs only [push_cast, seval]
  have p1 : Pre h ((((h.alloc (.cells [.int .i64 op, .string s, .slice A kids.length cA] .solo h.n)).alloc (.cells [.int .i64 0, .string ⟨#[]⟩, .slice none 0 0] .solo (h.n + 1))).alloc (.cells [.int .i64 0, .string ⟨#[]⟩, .slice none 0 0] .solo (h.n + 2))).set (h.n + 2) (.cells [.int .i64 op, .string s, .slice none 0 0] .solo (h.n + 2))) := p0.set (by omega) _
  have a1 : ((((h.alloc (.cells [.int .i64 op, .string s, .slice A kids.length cA] .solo h.n)).alloc (.cells [.int .i64 0, .string ⟨#[]⟩, .slice none 0 0] .solo (h.n + 1))).alloc (.cells [.int .i64 0, .string ⟨#[]⟩, .slice none 0 0] .solo (h.n + 2))).set (h.n + 2) (.cells [.int .i64 op, .string s, .slice none 0 0] .solo (h.n + 2))).ob h.n = .cells [.int .i64 op, .string s, .slice A kids.length cA] .solo h.n := (by (try simp (maxSteps := 1000000) -implicitDefEqProofs only [push_cast, seval, rdOb]); try rfl)
  have b1 : ((((h.alloc (.cells [.int .i64 op, .string s, .slice A kids.length cA] .solo h.n)).alloc (.cells [.int .i64 0, .string ⟨#[]⟩, .slice none 0 0] .solo (h.n + 1))).alloc (.cells [.int .i64 0, .string ⟨#[]⟩, .slice none 0 0] .solo (h.n + 2))).set (h.n + 2) (.cells [.int .i64 op, .string s, .slice none 0 0] .solo (h.n + 2))).ob (h.n + 1) = .cells [.int .i64 0, .string ⟨#[]⟩, .slice none 0 0] .solo (h.n + 1) := (by (try simp (maxSteps := 1000000) -implicitDefEqProofs only [push_cast, seval, rdOb]); try rfl)
  have c1 : ((((h.alloc (.cells [.int .i64 op, .string s, .slice A kids.length cA] .solo h.n)).alloc (.cells [.int .i64 0, .string ⟨#[]⟩, .slice none 0 0] .solo (h.n + 1))).alloc (.cells [.int .i64 0, .string ⟨#[]⟩, .slice none 0 0] .solo (h.n + 2))).set (h.n + 2) (.cells [.int .i64 op, .string s, .slice none 0 0] .solo (h.n + 2))).ob (h.n + 2) = .cells [.int .i64 op, .string s, .slice none 0 0] .solo (h.n + 2) := (by (try simp (maxSteps := 1000000) -implicitDefEqProofs only [push_cast, seval, rdOb]); try rfl)
  have n1 : ((((h.alloc (.cells [.int .i64 op, .string s, .slice A kids.length cA] .solo h.n)).alloc (.cells [.int .i64 0, .string ⟨#[]⟩, .slice none 0 0] .solo (h.n + 1))).alloc (.cells [.int .i64 0, .string ⟨#[]⟩, .slice none 0 0] .solo (h.n + 2))).set (h.n + 2) (.cells [.int .i64 op, .string s, .slice none 0 0] .solo (h.n + 2))).n = h.n + 3 := rfl
  try rw [set_set]
  generalize ((((h.alloc (.cells [.int .i64 op, .string s, .slice A kids.length cA] .solo h.n)).alloc (.cells [.int .i64 0, .string ⟨#[]⟩, .slice none 0 0] .solo (h.n + 1))).alloc (.cells [.int .i64 0, .string ⟨#[]⟩, .slice none 0 0] .solo (h.n + 2))).set (h.n + 2) (.cells [.int .i64 op, .string s, .slice none 0 0] .solo (h.n + 2))) = H1 at *
  clear p0
  with_reducible refine CC.mono (toIntS_c kids A cA _ (hA.pre big p1) hn) (fun v h1 hv => ?_)
  with_reducible refine Exists.elim hv (fun cs hw => ?_)
  have e1 := hw.1
  have e2 := hw.2.1
  have f1 := hw.2.2
  clear hv hw
  subst e1 e2
  have p2 : Pre H1 (H1.alloc (.cells cs .solo H1.n)) := (Pre.refl _).alloc _
  have d2 : (H1.alloc (.cells cs .solo H1.n)).ob H1.n = _ := alloc_same _
  have n2 : (H1.alloc (.cells cs .solo H1.n)).n = H1.n + 1 := rfl
  generalize (H1.alloc (.cells cs .solo H1.n)) = H2 at *
  have b2 := (p2.ob (h.n + 1) (by omega)).trans b1
  have c2 := (p2.ob (h.n + 2) (by omega)).trans c1
  have l1 : h.n + 1 < H2.n := by omega
  have l2 : h.n + 2 < H2.n := by omega
  simp (maxSteps := 1000000) -implicitDefEqProofs only [push_cast, seval, b2, rd_of b2, rd1_of b2, c2, rd_of c2, rd1_of c2, l1, l2]
  refine ⟨_, rfl, f1.rdv (fun _ => rfl) (st := .solo) (ln := H1.n) (by rw [set_ne _ (by omega), set_ne _ (by omega)]; exact d2) (by show H1.n < H2.n; omega), ((p1.trans p2).set (by omega) _).set (by omega) _, fun b e => by have e' : H1.n = b := e; omega⟩
end Go.Proofs.Ytciajhpeikemoaa
namespace Go.Proofs.Ytciajhpeikemoaa
open Go Go.Sim Go.Proofs
set_option linter.unusedSimpArgs false
set_option linter.unusedVariables false
set_option maxRecDepth 100000
set_option maxHeartbeats 1000000
theorem Filled.swap {k : Nat} {D : List (Nd × Value)} {cs : List Value} {i : Nat} (w : Filled k encD D cs i) (y : Nd × Value) : Filled k encD (D.set i y) cs i := by
  refine ⟨by rw [List.length_set]; exact w.1, fun j hj hji => ?_⟩
  rw [List.length_set] at hj
  rw [w.2 j hj hji, List.getElem_set_ne (by omega)]
theorem toNodeS_c (L : List (Nd × Value)) (A : Option Addr) (ca : Nat) (h : AH) (hR : RdE h A 3 encD L) (kids : ∀ x ∈ L, RdV h x.2 1 encZ x.1.kids) (hk : ∀ x ∈ L, x.1.kids.length < 274877906944) (hn : L.length < 274877906944) :
    CC Try.prog 55 [.slice A L.length ca] h (fun v h' => ∃ w D, v = w ∧ D.map Prod.fst = L.map Prod.fst ∧ RdV h' w 3 encD D ∧ (∀ x ∈ D, RdV h' x.2 1 encZ x.1.kids) ∧ Pre h h' ∧ ∀ b, (atBlock w b ∨ ∃ x ∈ D, atBlock x.2 b) → h.n ≤ b) := by
  refine CC.withBig (fun big => ?_)
  refine CC.ofN Try.func55 Try.ntmps55 Try.results55 rfl (by decide) (by kernel_rfl) ?_
  simp (maxSteps := 1000000) -implicitDefEqProofs only [push_cast, seval]
  repeat (with_reducible refine And.intro ?_ ?_; · (first | omega | decide))
  refine WC.loopA (by kernel_rfl) [4] [8, 9, 10, 11, 12, 13, 14, 15, 16, 17, 18, 19, 20, 21] (fun a : Nat × List (Nd × Value) × List Value => [.int .i64 (a.1 : Nat)]) (fun a h' => (a.1 ≤ L.length ∧ a.2.1.map Prod.fst = L.map Prod.fst ∧ Filled 3 encD a.2.1 a.2.2 a.1 ∧ (∀ j (hj : j < a.2.1.length), j < a.1 → RdV h' a.2.1[j].2 1 encZ a.2.1[j].1.kids ∧ ∀ b, atBlock a.2.1[j].2 b → h.n + 1 ≤ b)) ∧ h'.ob h.n = .cells a.2.2 .solo h.n ∧ h.n + 1 ≤ h'.n ∧ Pre h h') (fun a => L.length - a.1) (0, L, zerosL (L.length * 3) [.int .i64 0, .string ⟨#[]⟩, .slice none 0 0]) (by kernel_rfl) ⟨⟨Nat.zero_le _, rfl, Filled.zero _, fun j hj h0 => by omega⟩, alloc_same _, Nat.le_refl _, (Pre.refl h).alloc _⟩ ?_
  intro a g h1 hJ
  have hi := hJ.1.1
  have hmap := hJ.1.2.1
  have hf := hJ.1.2.2.1
  have hkd := hJ.1.2.2.2
  have ho := hJ.2.1
  have hn1 := hJ.2.2.1
  have hp := hJ.2.2.2
  clear hJ
  have hlen : a.2.1.length = L.length := by have := congrArg List.length hmap; simpa using this
  have lo : h.n < h1.n := by omega
  simp (maxSteps := 1000000) -implicitDefEqProofs only [push_cast, seval]
  with_reducible refine bcase_d (fun hb => ?_) (fun hb => ?_)
  · have hi' : a.1 < L.length := by omega
    have kr := kids L[a.1] (List.getElem_mem hi')
    have kl := hk L[a.1] (List.getElem_mem hi')
    have hX : (a.2.1.map Prod.fst)[a.1]'(by rw [List.length_map]; omega) = L[a.1].1 := by simp [hmap]
    with_reducible refine hR.use big hp hi' (fun id off eA hlt hr => ?_)
    subst eA
    simp only [encD] at hr
    have r0 := (rd_3 hr).1
    have r1 := (rd_3 hr).2.1
    have r2 := (rd_3 hr).2.2
    have hXm : ∀ kw, (a.2.1.set a.1 (L[a.1].1, kw)).map Prod.fst = L.map Prod.fst := fun kw => by
      rw [← hmap]
      apply List.ext_getElem
      · simp
      · intro j h1 h2
        simp only [List.length_map, List.length_set] at h1 h2
        rw [List.getElem_map, List.getElem_map]
        by_cases e : j = a.1
        · subst e
          rw [List.getElem_set_self, ← hX, List.getElem_map]
        · rw [List.getElem_set_ne (by omega)]
    generalize L[a.1] = X at *
    have y3 := kr.one
    have y4 := rdv_cells kr
    simp (maxSteps := 1000000) -implicitDefEqProofs only [push_cast, seval, hr, r0, r1, r2, hlt, y3, y4]
    repeat (with_reducible refine And.intro ?_ ?_; · (first | omega | decide))
    with_reducible refine CC.mono (toNode_c X.1.op X.1.text X.2 X.1.kids _ (kr.pre hp) kl) (fun v h2 hv => ?_)
    with_reducible refine Exists.elim hv (fun kw hw => ?_)
    have e1 := hw.1
    have rk := hw.2.1
    have p2 := hw.2.2.1
    have fr := hw.2.2.2
    clear hv hw
    subst e1
    have o2 := (p2.ob h.n lo).trans ho
    have l2 : h.n < h2.n := Nat.lt_of_lt_of_le lo p2.n
    have y5 := rk.one
    have y6 := rdv_cells rk
    have hc := hf.1
    have hbd : a.1 * 3 + 3 ≤ a.2.2.length := by rw [hc, hlen]; omega
    simp (maxSteps := 1000000) -implicitDefEqProofs only [push_cast, seval, o2, rd_of o2, rd1_of o2, l2, y5, y6]
    refine And.intro (by omega) (And.intro (by omega) (And.intro hbd ?_))
    rw [wrapSucc (by omega)]
    have hf' := (hf.swap (X.1, kw)).put (by rw [List.length_set]; omega) rfl
    rw [List.getElem_set_self] at hf'
    refine ⟨(a.1 + 1, a.2.1.set a.1 (X.1, kw), putL a.2.2 (a.1 * 3) [.int .i64 X.1.op, .string X.1.text, kw]), by kernel_rfl, ⟨⟨by show a.1 + 1 ≤ L.length; omega, hXm kw, hf', fun j hj hj2 => ?_⟩, by (try rw [set_same]); simp only [putL], by show h.n + 1 ≤ h2.n; omega, (hp.trans p2).set (Nat.le_refl _) _⟩, by show L.length - (a.1 + 1) < L.length - a.1; omega⟩
    have hj' : j < a.2.1.length := by rw [List.length_set] at hj; exact hj
    have hj3 : j < a.1 + 1 := hj2
    by_cases e : j = a.1
    · subst e
      dsimp only
      rw [List.getElem_set_self]
      exact ⟨rk.keep (Nat.le_refl _) (fun b hb => set_ne _ (by have := fr b hb; omega)), fun b hb => by have := fr b hb; omega⟩
    · dsimp only
      rw [List.getElem_set_ne (by omega)]
      have q := hkd j hj' (by omega)
      exact ⟨(q.1.pre p2).keep (Nat.le_refl _) (fun b hb => set_ne _ (by have := q.2 b hb; omega)), q.2⟩
  · have hn : a.1 = L.length := by omega
    rw [hn, ← hlen] at hf
    simp (maxSteps := 1000000) -implicitDefEqProofs only [push_cast, seval]
    refine ⟨_, a.2.1, rfl, hmap, ?_, fun x hx => ?_, hp, fun b hb => ?_⟩
    · rw [← hlen]
      exact hf.rdv encD_len ho lo
    · obtain ⟨j, hj, rfl⟩ := List.getElem_of_mem hx
      exact (hkd j hj (by omega)).1
    · rcases hb with e | ⟨x, hx, e⟩
      · have e' : h.n = b := e
        omega
      · obtain ⟨j, hj, rfl⟩ := List.getElem_of_mem hx
        have := (hkd j hj (by omega)).2 b e
        omega
end Go.Proofs.Ytciajhpeikemoaa
namespace Go.Proofs.Ytciajhpeikemoaa
open Go Go.Sim Go.Proofs
set_option linter.unusedSimpArgs false
set_option linter.unusedVariables false
set_option maxRecDepth 100000
set_option maxHeartbeats 1000000
theorem eqIntS_c (l m : List Int) (A B : Option Addr) (ca cb : Nat) (h : AH) (hA : RdE h A 1 encZ l) (hB : RdE h B 1 encZ m) (hl : l.length < 274877906944) (hm : m.length < 274877906944) :
    CD Try.prog 161 [.slice A l.length ca, .slice B m.length cb] h (.bool (decide (l = m))) h := by
  refine CD.withBig (fun big => ?_)
  refine CD.quiet ?_ (low_bool _ _)
  refine CC.ofN Try.func161 Try.ntmps161 Try.results161 rfl (by decide) (by kernel_rfl) ?_
  simp (maxSteps := 1000000) -implicitDefEqProofs only [push_cast, seval]
  with_reducible refine bcase_d (fun hb => ?_) (fun hb => ?_)
  rotate_left
  · simp (maxSteps := 1000000) -implicitDefEqProofs only [push_cast, seval]
    repeat' (first | with_reducible (first | exact Keep.refl _ _ | assumption | exact byte_lt _ _ | apply Keep.alloc | (refine Keep.set ?_ ?_; rotate_left; · omega) | apply Pre.alloc | apply Pre.set | exact Pre.refl _ | exact le_alloc _ | (refine Pre.keep ?_; assumption) | (refine Pre.n ?_; assumption)) | ((with_reducible (first | refine bcase_d (fun hb => ?_) (fun hb => ?_) | refine bcase_mk (fun hb => ?_) (fun hb => ?_))) <;> try simp (maxSteps := 1000000) -implicitDefEqProofs only [push_cast, seval]) | with_reducible refine And.intro ?_ ?_ | omega | (simp only [alloc_n, set_n, kill_n]; omega) | (exfalso; omega))
    have : l ≠ m := fun e => hb (by rw [e])
    simp [this]
  have hlm : l.length = m.length := by omega
  simp (maxSteps := 1000000) -implicitDefEqProofs only [push_cast, seval]
  refine WC.loopA (by kernel_rfl) [5] [4, 11, 12, 13, 14, 15, 16, 17, 18, 19, 20, 21, 22, 23, 24, 25] (fun a : Nat => [.int .i64 (a : Nat)]) (fun a h' => a ≤ l.length ∧ l.take a = m.take a ∧ Pre h h') (fun a => l.length - a) 0 (by kernel_rfl) ⟨Nat.zero_le _, by simp, Pre.refl _⟩ ?_
  intro a g h1 hJ
  have hi := hJ.1
  have he := hJ.2.1
  have hp := hJ.2.2
  clear hJ
  simp (maxSteps := 1000000) -implicitDefEqProofs only [push_cast, seval]
  with_reducible refine bcase_d (fun hb => ?_) (fun hb => ?_)
  · have hi' : a < l.length := by omega
    have hj' : a < m.length := by omega
    with_reducible refine hA.use big hp hi' (fun id off eA hlt hr => ?_)
    with_reducible refine hB.use big hp hj' (fun id2 off2 eB hlt2 hr2 => ?_)
    subst eA
    subst eB
    simp only [encZ, Nat.mul_one] at hr hr2
    have r0 := rd_1 hr
    have r02 := rd_1 hr2
    simp (maxSteps := 1000000) -implicitDefEqProofs only [push_cast, seval, hr, r0, hlt, hr2, r02, hlt2, Nat.mul_one]
    refine WC.draw' (by kernel_rfl) (by kernel_rfl) (.q 0 (.q 1 (.q 2 (.q 3 (.q 4 (.q 5 (.q 6 (.q 7 (.q 8 (.done)))))))))) (by kernel_rfl) ?_
    simp (maxSteps := 1000000) -implicitDefEqProofs only [push_cast, seval, hr, r0, hlt, hr2, r02, hlt2, Nat.mul_one]
    repeat (with_reducible refine And.intro ?_ ?_; · (first | omega | decide))
    with_reducible refine bcase_d (fun hb2 => ?_) (fun hb2 => ?_)
    · simp (maxSteps := 1000000) -implicitDefEqProofs only [push_cast, seval]
      rw [wrapSucc (by omega)]
      exact ⟨a + 1, by kernel_rfl, ⟨by show a + 1 ≤ l.length; omega, take_next he hi' hj' hb2, hp⟩, by show l.length - (a + 1) < l.length - a; omega⟩
    · simp (maxSteps := 1000000) -implicitDefEqProofs only [push_cast, seval]
      have : l ≠ m := fun e => by subst e; exact hb2 rfl
      exact ⟨by simp [this], hp.keep⟩
  · have hn : a = l.length := by omega
    subst hn
    simp (maxSteps := 1000000) -implicitDefEqProofs only [push_cast, seval]
    repeat' (first | with_reducible (first | exact Keep.refl _ _ | assumption | exact byte_lt _ _ | apply Keep.alloc | (refine Keep.set ?_ ?_; rotate_left; · omega) | apply Pre.alloc | apply Pre.set | exact Pre.refl _ | exact le_alloc _ | (refine Pre.keep ?_; assumption) | (refine Pre.n ?_; assumption)) | ((with_reducible (first | refine bcase_d (fun hb => ?_) (fun hb => ?_) | refine bcase_mk (fun hb => ?_) (fun hb => ?_))) <;> try simp (maxSteps := 1000000) -implicitDefEqProofs only [push_cast, seval]) | with_reducible refine And.intro ?_ ?_ | omega | (simp only [alloc_n, set_n, kill_n]; omega) | (exfalso; omega))
    have := take_full he hlm
    simp [this]

theorem eqRule_c (a b : Ru) (h : AH) : CD Try.prog 118 [.agg #[.int .i64 a.when_, .int .i64 a.cond, .int .i64 a.act], .agg #[.int .i64 b.when_, .int .i64 b.cond, .int .i64 b.act]] h (.bool (decide (a = b))) h := by
  refine CD.quiet ?_ (low_bool _ _)
  refine CC.ofN Try.func118 Try.ntmps118 Try.results118 rfl (by decide) (by kernel_rfl) ?_
  simp (maxSteps := 1000000) -implicitDefEqProofs only [push_cast, seval]
  repeat' (first | with_reducible (first | exact Keep.refl _ _ | assumption | exact byte_lt _ _ | apply Keep.alloc | (refine Keep.set ?_ ?_; rotate_left; · omega) | apply Pre.alloc | apply Pre.set | exact Pre.refl _ | exact le_alloc _ | (refine Pre.keep ?_; assumption) | (refine Pre.n ?_; assumption)) | ((with_reducible (first | refine bcase_d (fun hb => ?_) (fun hb => ?_) | refine bcase_mk (fun hb => ?_) (fun hb => ?_))) <;> try simp (maxSteps := 1000000) -implicitDefEqProofs only [push_cast, seval]) | with_reducible refine And.intro ?_ ?_ | omega | (simp only [alloc_n, set_n, kill_n]; omega) | (exfalso; omega))
  all_goals (obtain ⟨a1, a2, a3⟩ := a; obtain ⟨b1, b2, b3⟩ := b; simp_all [Ru.mk.injEq])
theorem eqRuleS_c (l m : List Ru) (A B : Option Addr) (ca cb : Nat) (h : AH) (hA : RdE h A 3 encU l) (hB : RdE h B 3 encU m) (hl : l.length < 274877906944) (hm : m.length < 274877906944) :
    CD Try.prog 62 [.slice A l.length ca, .slice B m.length cb] h (.bool (decide (l = m))) h := by
  refine CD.withBig (fun big => ?_)
  refine CD.quiet ?_ (low_bool _ _)
  refine CC.ofN Try.func62 Try.ntmps62 Try.results62 rfl (by decide) (by kernel_rfl) ?_
  simp (maxSteps := 1000000) -implicitDefEqProofs only [push_cast, seval]
  with_reducible refine bcase_d (fun hb => ?_) (fun hb => ?_)
  rotate_left
  · simp (maxSteps := 1000000) -implicitDefEqProofs only [push_cast, seval]
    repeat' (first | with_reducible (first | exact Keep.refl _ _ | assumption | exact byte_lt _ _ | apply Keep.alloc | (refine Keep.set ?_ ?_; rotate_left; · omega) | apply Pre.alloc | apply Pre.set | exact Pre.refl _ | exact le_alloc _ | (refine Pre.keep ?_; assumption) | (refine Pre.n ?_; assumption)) | ((with_reducible (first | refine bcase_d (fun hb => ?_) (fun hb => ?_) | refine bcase_mk (fun hb => ?_) (fun hb => ?_))) <;> try simp (maxSteps := 1000000) -implicitDefEqProofs only [push_cast, seval]) | with_reducible refine And.intro ?_ ?_ | omega | (simp only [alloc_n, set_n, kill_n]; omega) | (exfalso; omega))
    have : l ≠ m := fun e => hb (by rw [e])
    simp [this]
  have hlm : l.length = m.length := by omega
  simp (maxSteps := 1000000) -implicitDefEqProofs only [push_cast, seval]
  refine WC.loopA (by kernel_rfl) [5] [4, 11, 12, 13, 14, 15, 16, 17, 18, 19, 20, 21, 22, 23, 24, 25, 26] (fun a : Nat => [.int .i64 (a : Nat)]) (fun a h' => a ≤ l.length ∧ l.take a = m.take a ∧ Pre h h') (fun a => l.length - a) 0 (by kernel_rfl) ⟨Nat.zero_le _, by simp, Pre.refl _⟩ ?_
  intro a g h1 hJ
  have hi := hJ.1
  have he := hJ.2.1
  have hp := hJ.2.2
  clear hJ
  simp (maxSteps := 1000000) -implicitDefEqProofs only [push_cast, seval]
  with_reducible refine bcase_d (fun hb => ?_) (fun hb => ?_)
  · have hi' : a < l.length := by omega
    have hj' : a < m.length := by omega
    with_reducible refine hA.use big hp hi' (fun id off eA hlt hr => ?_)
    with_reducible refine hB.use big hp hj' (fun id2 off2 eB hlt2 hr2 => ?_)
    subst eA
    subst eB
    simp only [encU] at hr hr2
    simp (maxSteps := 1000000) -implicitDefEqProofs only [push_cast, seval, hr, hlt, hr2, hlt2]
    refine WC.draw' (by kernel_rfl) (by kernel_rfl) (.q 0 (.q 1 (.q 2 (.q 3 (.q 4 (.q 5 (.q 6 (.q 7 (.c 8 (.q 9 (.done))))))))))) (by kernel_rfl) ?_
    simp (maxSteps := 1000000) -implicitDefEqProofs only [push_cast, seval, hr, hlt, hr2, hlt2]
    repeat' (first | with_reducible (first | exact Keep.refl _ _ | assumption | exact byte_lt _ _ | apply Keep.alloc | (refine Keep.set ?_ ?_; rotate_left; · omega) | apply Pre.alloc | apply Pre.set | exact Pre.refl _ | exact le_alloc _ | (refine Pre.keep ?_; assumption) | (refine Pre.n ?_; assumption)) | ((with_reducible (first | refine CD.to (eqRule_c _ _ _) ?_ | refine CQ.pure (fun _ => eqRule_c _ _ _) ?_ | refine bcase_d (fun hb => ?_) (fun hb => ?_) | refine bcase_mk (fun hb => ?_) (fun hb => ?_))) <;> try simp (maxSteps := 1000000) -implicitDefEqProofs only [push_cast, seval, hr, hlt, hr2, hlt2]) | with_reducible refine And.intro ?_ ?_ | omega | (simp only [alloc_n, set_n, kill_n]; omega) | (exfalso; omega))
    · rw [wrapSucc (by omega)]
      refine ⟨a + 1, by kernel_rfl, ⟨by show a + 1 ≤ l.length; omega, take_next he hi' hj' ?_, hp⟩, by show l.length - (a + 1) < l.length - a; omega⟩
      simpa using hb
    · have : l ≠ m := fun e => by subst e; simp at hb
      simp [this]
  · have hn : a = l.length := by omega
    subst hn
    simp (maxSteps := 1000000) -implicitDefEqProofs only [push_cast, seval]
    repeat' (first | with_reducible (first | exact Keep.refl _ _ | assumption | exact byte_lt _ _ | apply Keep.alloc | (refine Keep.set ?_ ?_; rotate_left; · omega) | apply Pre.alloc | apply Pre.set | exact Pre.refl _ | exact le_alloc _ | (refine Pre.keep ?_; assumption) | (refine Pre.n ?_; assumption)) | ((with_reducible (first | refine bcase_d (fun hb => ?_) (fun hb => ?_) | refine bcase_mk (fun hb => ?_) (fun hb => ?_))) <;> try simp (maxSteps := 1000000) -implicitDefEqProofs only [push_cast, seval]) | with_reducible refine And.intro ?_ ?_ | omega | (simp only [alloc_n, set_n, kill_n]; omega) | (exfalso; omega))
    have := take_full he hlm
    simp [this]
theorem eqNode_c (op : Int) (s : ByteArray) (kids : List Int) (kv kw : Value) (h : AH) (r : RdV h kv 1 encZ kids) (q : RdV h kw 1 encZ kids) (hn : kids.length < 274877906944) :
    CD Try.prog 117 [.agg #[.int .i64 op, .string s, kv], .agg #[.int .i64 op, .string s, kw]] h (.bool true) h := by
  refine CD.withBig (fun big => ?_)
  refine CD.quiet ?_ (low_bool _ _)
  obtain ⟨A, cA, rfl, hA⟩ := r.rde (fun _ => rfl)
  obtain ⟨B, cB, rfl, hB⟩ := q.rde (fun _ => rfl)
  have pb : Pre h ((h.alloc (.cells [.int .i64 op, .string s, .slice A kids.length cA] .solo h.n)).alloc (.cells [.int .i64 op, .string s, .slice B kids.length cB] .solo (h.n + 1))) := ((Pre.refl _).alloc _).alloc _
  have k1 := eqIntS_c kids kids A B cA cB _ (hA.pre big pb) (hB.pre big pb) hn hn
  rw [decide_eq_true rfl] at k1
  refine CC.ofN Try.func117 Try.ntmps117 Try.results117 rfl (by decide) (by kernel_rfl) ?_
  simp (maxSteps := 1000000) -implicitDefEqProofs only [push_cast, seval]
  repeat' (first | with_reducible (first | exact Keep.refl _ _ | assumption | exact byte_lt _ _ | apply Keep.alloc | (refine Keep.set ?_ ?_; rotate_left; · omega) | apply Pre.alloc | apply Pre.set | exact Pre.refl _ | exact le_alloc _ | (refine Pre.keep ?_; assumption) | (refine Pre.n ?_; assumption)) | ((with_reducible (first | refine CD.to (k1) ?_ | refine CQ.pure (fun _ => k1) ?_ | refine bcase_d (fun hb => ?_) (fun hb => ?_) | refine bcase_mk (fun hb => ?_) (fun hb => ?_))) <;> try simp (maxSteps := 1000000) -implicitDefEqProofs only [push_cast, seval]) | with_reducible refine And.intro ?_ ?_ | omega | (simp only [alloc_n, set_n, kill_n]; omega) | (exfalso; omega))
theorem eqNodeS_c (L M : List (Nd × Value)) (A B : Option Addr) (ca cb : Nat) (h : AH) (hA : RdE h A 3 encD L) (hB : RdE h B 3 encD M) (kL : ∀ x ∈ L, RdV h x.2 1 encZ x.1.kids) (kM : ∀ x ∈ M, RdV h x.2 1 encZ x.1.kids) (e : L.map Prod.fst = M.map Prod.fst) (hk : ∀ x ∈ L, x.1.kids.length < 274877906944) (hl : L.length < 274877906944) :
    CD Try.prog 61 [.slice A L.length ca, .slice B M.length cb] h (.bool true) h := by
  refine CD.withBig (fun big => ?_)
  refine CD.quiet ?_ (low_bool _ _)
  have hlen : L.length = M.length := by have := congrArg List.length e; simpa using this
  refine CC.ofN Try.func61 Try.ntmps61 Try.results61 rfl (by decide) (by kernel_rfl) ?_
  simp (maxSteps := 1000000) -implicitDefEqProofs only [push_cast, seval]
  with_reducible refine bcase_d (fun hb => ?_) (fun hb => ?_)
  rotate_left
  · exfalso; omega
  simp (maxSteps := 1000000) -implicitDefEqProofs only [push_cast, seval]
  refine WC.loopA (by kernel_rfl) [5] [4, 11, 12, 13, 14, 15, 16, 17, 18, 19, 20, 21, 22, 23, 24, 25, 26] (fun a : Nat => [.int .i64 (a : Nat)]) (fun a h' => a ≤ L.length ∧ Pre h h') (fun a => L.length - a) 0 (by kernel_rfl) ⟨Nat.zero_le _, Pre.refl _⟩ ?_
  intro a g h1 hJ
  have hi := hJ.1
  have hp := hJ.2
  clear hJ
  simp (maxSteps := 1000000) -implicitDefEqProofs only [push_cast, seval]
  with_reducible refine bcase_d (fun hb => ?_) (fun hb => ?_)
  · have hi' : a < L.length := by omega
    have hj' : a < M.length := by omega
    have k1 := kL _ (List.getElem_mem hi')
    have k2 := kM _ (List.getElem_mem hj')
    have kz := hk _ (List.getElem_mem hi')
    have eX : M[a].1 = L[a].1 := by
      have : (M.map Prod.fst)[a]'(by rw [List.length_map]; exact hj') = (L.map Prod.fst)[a]'(by rw [List.length_map]; exact hi') := by simp only [e]
      simpa using this
    with_reducible refine hA.use big hp hi' (fun id off eA hlt hr => ?_)
    with_reducible refine hB.use big hp hj' (fun id2 off2 eB hlt2 hr2 => ?_)
    subst eA
    subst eB
    simp only [encD] at hr hr2
    rw [eX] at hr2 k2
    generalize M[a].2 = kw at *
    generalize L[a].2 = kv at *
    generalize L[a].1 = X at *
    have y1 := k1.one
    have y2 := rdv_cells k1
    have y3 := k2.one
    have y4 := rdv_cells k2
    simp (maxSteps := 1000000) -implicitDefEqProofs only [push_cast, seval, hr, hlt, hr2, hlt2, y1, y2, y3, y4]
    refine WC.draw' (by kernel_rfl) (by kernel_rfl) (.q 0 (.q 1 (.q 2 (.q 3 (.q 4 (.q 5 (.q 6 (.q 7 (.a 8 false (.q 9 (.done))))))))))) (by kernel_rfl) ?_
    simp (maxSteps := 1000000) -implicitDefEqProofs only [push_cast, seval, hr, hlt, hr2, hlt2, y1, y2, y3, y4]
    repeat (with_reducible refine And.intro ?_ ?_; · (first | omega | decide))
    with_reducible refine CD.to (eqNode_c X.op X.text X.kids kv kw h1 (k1.pre hp) (k2.pre hp) kz) ?_
    simp (maxSteps := 1000000) -implicitDefEqProofs only [push_cast, seval, hr, hlt, hr2, hlt2, y1, y2, y3, y4]
    rw [wrapSucc (by omega)]
    exact ⟨a + 1, by kernel_rfl, ⟨by omega, hp⟩, by omega⟩
  · simp (maxSteps := 1000000) -implicitDefEqProofs only [push_cast, seval]
    exact hp.keep
theorem toProgram_c (L : List (Nd × Value)) (R : List Ru) (vN vR : Value) (h : AH) (w : RdG h vN vR L R) (hz : SzG L R) :
    CC Try.prog 21 [.agg #[vN, vR]] h (fun v h' => ∃ wN wR D, v = .agg #[wN, wR] ∧ D.map Prod.fst = L.map Prod.fst ∧ RdG h' wN wR D R ∧ Pre h h') := by
  refine CC.withBig (fun big => ?_)
  have zn := hz.n
  have zr := hz.r
  have w0 := w
  obtain ⟨B, d, rfl, hN⟩ := w.nodes.rde encD_len
  obtain ⟨C, c, rfl, hR⟩ := w.rules.rde (fun _ => rfl)
  have p0 : Pre h (((h.alloc (.cells [.slice B L.length d, .slice C R.length c] .solo h.n)).alloc (.cells [.slice none 0 0, .slice none 0 0] .solo (h.n + 1))).alloc (.cells [.slice none 0 0, .slice none 0 0] .solo (h.n + 2))) := (((Pre.refl h).alloc _).alloc _).alloc _
  have a0 : (((h.alloc (.cells [.slice B L.length d, .slice C R.length c] .solo h.n)).alloc (.cells [.slice none 0 0, .slice none 0 0] .solo (h.n + 1))).alloc (.cells [.slice none 0 0, .slice none 0 0] .solo (h.n + 2))).ob h.n = .cells [.slice B L.length d, .slice C R.length c] .solo h.n := (by (try simp (maxSteps := 1000000) -implicitDefEqProofs only [push_cast, seval, rdOb]); try rfl)
  have b0 : (((h.alloc (.cells [.slice B L.length d, .slice C R.length c] .solo h.n)).alloc (.cells [.slice none 0 0, .slice none 0 0] .solo (h.n + 1))).alloc (.cells [.slice none 0 0, .slice none 0 0] .solo (h.n + 2))).ob (h.n + 1) = .cells [.slice none 0 0, .slice none 0 0] .solo (h.n + 1) := (by (try simp (maxSteps := 1000000) -implicitDefEqProofs only [push_cast, seval, rdOb]); try rfl)
  have c0 : (((h.alloc (.cells [.slice B L.length d, .slice C R.length c] .solo h.n)).alloc (.cells [.slice none 0 0, .slice none 0 0] .solo (h.n + 1))).alloc (.cells [.slice none 0 0, .slice none 0 0] .solo (h.n + 2))).ob (h.n + 2) = .cells [.slice none 0 0, .slice none 0 0] .solo (h.n + 2) := (by (try simp (maxSteps := 1000000) -implicitDefEqProofs only [push_cast, seval, rdOb]); try rfl)
  have n0 : (((h.alloc (.cells [.slice B L.length d, .slice C R.length c] .solo h.n)).alloc (.cells [.slice none 0 0, .slice none 0 0] .solo (h.n + 1))).alloc (.cells [.slice none 0 0, .slice none 0 0] .solo (h.n + 2))).n = h.n + 3 := rfl
  refine CC.ofN Try.func21 Try.ntmps21 Try.results21 rfl (by decide) (by kernel_rfl) ?_
  simp (maxSteps := 1000000) -implicitDefEqProofs only [push_cast, seval]
  generalize (((h.alloc (.cells [.slice B L.length d, .slice C R.length c] .solo h.n)).alloc (.cells [.slice none 0 0, .slice none 0 0] .solo (h.n + 1))).alloc (.cells [.slice none 0 0, .slice none 0 0] .solo (h.n + 2))) = H0 at *
  with_reducible refine CC.mono (toNodeS_c L B d _ (hN.pre big p0) (fun x hx => (w0.kids x hx).pre p0) (fun x hx => by have := hz.kids x hx; omega) (by omega)) (fun v H1 hv => ?_)
  with_reducible refine Exists.elim hv (fun wN hw => ?_)
  with_reducible refine Exists.elim hw (fun D hw => ?_)
  have e1 := hw.1
  have eD := hw.2.1
  have rN := hw.2.2.1
  have rK := hw.2.2.2.1
  have p1 := hw.2.2.2.2.1
  have fr := hw.2.2.2.2.2
  clear hv hw
  subst e1
  have a1 := (p1.ob h.n (by omega)).trans a0
  have b1 := (p1.ob (h.n + 1) (by omega)).trans b0
  have c1 := (p1.ob (h.n + 2) (by omega)).trans c0
  have n1 := p1.n
  have z1 := rN.one
  have z2 := rdv_cells rN
  have l1 : h.n < H1.n := by omega
  have l2 : h.n + 2 < H1.n := by omega
  simp (maxSteps := 1000000) -implicitDefEqProofs only [push_cast, seval, a1, rd_of a1, rd1_of a1, c1, rd_of c1, rd1_of c1, l1, l2, z1, z2]
  have p2 : Pre h (H1.set (h.n + 2) (.cells [v, .slice none 0 0] .solo (h.n + 2))) := (p0.trans p1).set (by omega) _
  have b2 := (set_ne (h := H1) (o := .cells [v, .slice none 0 0] .solo (h.n + 2)) (show h.n + 1 ≠ h.n + 2 by omega)).trans b1
  have c2 : (H1.set (h.n + 2) (.cells [v, .slice none 0 0] .solo (h.n + 2))).ob (h.n + 2) = _ := set_same _ _
  have rN2 : RdV (H1.set (h.n + 2) (.cells [v, .slice none 0 0] .solo (h.n + 2))) v 3 encD D := rN.keep (Nat.le_refl _) (fun i e => set_ne _ (by have := fr i (.inl e); omega))
  have rK2 : ∀ x ∈ D, RdV (H1.set (h.n + 2) (.cells [v, .slice none 0 0] .solo (h.n + 2))) x.2 1 encZ x.1.kids := fun x hx => (rK x hx).keep (Nat.le_refl _) (fun i e => set_ne _ (by have := fr i (.inr ⟨x, hx, e⟩); omega))
  have n2 : (H1.set (h.n + 2) (.cells [v, .slice none 0 0] .solo (h.n + 2))).n = H1.n := rfl
  clear rN rK
  generalize (H1.set (h.n + 2) (.cells [v, .slice none 0 0] .solo (h.n + 2))) = H2 at *
  with_reducible refine CC.mono (toRuleS_c R C c _ (hR.pre big p2) (by omega)) (fun v2 h1 hv => ?_)
  with_reducible refine Exists.elim hv (fun cs hw => ?_)
  have e1 := hw.1
  have e2 := hw.2.1
  have f1 := hw.2.2
  clear hv hw
  subst e1 e2
  have p3 : Pre H2 (H2.alloc (.cells cs .solo H2.n)) := (Pre.refl _).alloc _
  have d3 : (H2.alloc (.cells cs .solo H2.n)).ob H2.n = _ := alloc_same _
  have n3 : (H2.alloc (.cells cs .solo H2.n)).n = H2.n + 1 := rfl
  generalize (H2.alloc (.cells cs .solo H2.n)) = H3 at *
  have b3 := (p3.ob (h.n + 1) (by omega)).trans b2
  have c3 := (p3.ob (h.n + 2) (by omega)).trans c2
  have l2 : h.n + 2 < H3.n := by omega
  have l3 : h.n + 1 < H3.n := by omega
  simp (maxSteps := 1000000) -implicitDefEqProofs only [push_cast, seval, b3, rd_of b3, rd1_of b3, c3, rd_of c3, rd1_of c3, l2, l3, z1, z2]
  have pre := p2.trans p3
  refine ⟨_, _, D, rfl, eD, ⟨(rN2.pre p3).keep (Nat.le_refl _) (fun i e => by have := fr i (.inl e); rw [set_ne _ (by omega), set_ne _ (by omega)]), fun x hx => ((rK2 x hx).pre p3).keep (Nat.le_refl _) (fun i e => by have := fr i (.inr ⟨x, hx, e⟩); rw [set_ne _ (by omega), set_ne _ (by omega)]), f1.rdv (fun _ => rfl) (st := .solo) (ln := H2.n) (by rw [set_ne _ (by omega), set_ne _ (by omega)]; exact d3) (by show H2.n < H3.n; omega)⟩, (pre.set (by omega) _).set (by omega) _⟩
theorem eqProgram_c (L M : List (Nd × Value)) (R : List Ru) (vN vR wN wR : Value) (h : AH) (w : RdG h vN vR L R) (w' : RdG h wN wR M R) (e : L.map Prod.fst = M.map Prod.fst) (hz : SzG L R) :
    CD Try.prog 23 [.agg #[vN, vR], .agg #[wN, wR]] h (.bool true) h := by
  refine CD.withBig (fun big => ?_)
  refine CD.quiet ?_ (low_bool _ _)
  have zn := hz.n
  have zr := hz.r
  have w0 := w
  have w0' := w'
  obtain ⟨B, d, rfl, hN⟩ := w.nodes.rde encD_len
  obtain ⟨C, c, rfl, hR⟩ := w.rules.rde (fun _ => rfl)
  obtain ⟨B', d', rfl, hN'⟩ := w'.nodes.rde encD_len
  obtain ⟨C', c', rfl, hR'⟩ := w'.rules.rde (fun _ => rfl)
  have pb : Pre h ((h.alloc (.cells [.slice B L.length d, .slice C R.length c] .solo h.n)).alloc (.cells [.slice B' M.length d', .slice C' R.length c'] .solo (h.n + 1))) := ((Pre.refl _).alloc _).alloc _
  have k1 := eqNodeS_c L M B B' d d' _ (hN.pre big pb) (hN'.pre big pb) (fun x hx => (w0.kids x hx).pre pb) (fun x hx => (w0'.kids x hx).pre pb) e (fun x hx => by have := hz.kids x hx; omega) (by omega)
  have k2 := eqRuleS_c R R C C' c c' _ (hR.pre big pb) (hR'.pre big pb) (by omega) (by omega)
  rw [decide_eq_true rfl] at k2
  refine CC.ofN Try.func23 Try.ntmps23 Try.results23 rfl (by decide) (by kernel_rfl) ?_
  simp (maxSteps := 1000000) -implicitDefEqProofs only [push_cast, seval]
  repeat' (first | with_reducible (first | exact Keep.refl _ _ | assumption | exact byte_lt _ _ | apply Keep.alloc | (refine Keep.set ?_ ?_; rotate_left; · omega) | apply Pre.alloc | apply Pre.set | exact Pre.refl _ | exact le_alloc _ | (refine Pre.keep ?_; assumption) | (refine Pre.n ?_; assumption)) | ((with_reducible (first | refine CD.to (k1) ?_ | refine CQ.pure (fun _ => k1) ?_ | refine CD.to (k2) ?_ | refine CQ.pure (fun _ => k2) ?_ | refine bcase_d (fun hb => ?_) (fun hb => ?_) | refine bcase_mk (fun hb => ?_) (fun hb => ?_))) <;> try simp (maxSteps := 1000000) -implicitDefEqProofs only [push_cast, seval]) | with_reducible refine And.intro ?_ ?_ | omega | (simp only [alloc_n, set_n, kill_n]; omega) | (exfalso; omega))
theorem szProgram_c (L : List (Nd × Value)) (R : List Ru) (vN vR : Value) (l : Int) (h : AH) (w : RdG h vN vR L R) (hz : ∀ x ∈ L, x.1.text.size ≤ maxLen ∧ x.1.kids.length ≤ maxLen) (hn : L.length ≤ maxLen) (hr : R.length ≤ maxLen) (hl : 0 ≤ l ∧ l ≤ 1048576) :
    CD Try.prog 19 [.agg #[vN, vR], .int .i64 l] h (.int .i64 (if l - progW L R < 0 then -1 else l - progW L R)) h := by
  refine CD.withBig (fun big => ?_)
  refine CD.quiet ?_ (low_int _ _ _)
  have w0 := w
  obtain ⟨B, d, rfl, hN⟩ := w.nodes.rde encD_len
  obtain ⟨C, c, rfl, hR⟩ := w.rules.rde (fun _ => rfl)
  have pA : Pre h (h.alloc (.cells [.slice B L.length d, .slice C R.length c] .solo h.n)) := (Pre.refl h).alloc _
  have c0 : (h.alloc (.cells [.slice B L.length d, .slice C R.length c] .solo h.n)).ob h.n = _ := alloc_same _
  have n0 : (h.alloc (.cells [.slice B L.length d, .slice C R.length c] .solo h.n)).n = h.n + 1 := rfl
  have hw : (progW L R : Int) = (L.length + nodW L L.length : Nat) + R.length := by rw [progW]; push_cast; rfl
  refine CC.ofN Try.func19 Try.ntmps19 Try.results19 rfl (by decide) (by kernel_rfl) ?_
  simp (maxSteps := 1000000) -implicitDefEqProofs only [push_cast, seval]
  generalize (h.alloc (.cells [.slice B L.length d, .slice C R.length c] .solo h.n)) = h0 at *
  have l0 : h.n < h0.n := by omega
  with_reducible refine CD.to (szNodeS_c L B d l h0 (hN.pre big pA) (fun x hx => (w0.kids x hx).pre pA) hz hn hl) ?_
  with_reducible refine nameI2 (if l - (L.length + nodW L L.length : Nat) < 0 then -1 else l - (L.length + nodW L L.length : Nat)) (fun l1 h1 => ?_)
  have g1 := lt_of_if2 h1
  rw [h1]
  simp (maxSteps := 1000000) -implicitDefEqProofs only [push_cast, seval]
  with_reducible refine bcase_d (fun hb1 => ?_) (fun hb1 => ?_)
  · simp (maxSteps := 1000000) -implicitDefEqProofs only [push_cast, seval]
    refine ⟨?_, pA.keep⟩
    rw [if_pos (by omega)]
  simp (maxSteps := 1000000) -implicitDefEqProofs only [push_cast, seval, c0, rd_of c0, rd1_of c0, l0]
  with_reducible refine CD.to (szRuleS_c R.length C c l1 h0 hr (by omega)) ?_
  with_reducible refine nameI2 (if l1 - (R.length : Nat) < 0 then -1 else l1 - (R.length : Nat)) (fun l2 h2 => ?_)
  have g2 := lt_of_if2 h2
  rw [h2]
  simp (maxSteps := 1000000) -implicitDefEqProofs only [push_cast, seval]
  with_reducible refine bcase_d (fun hb2 => ?_) (fun hb2 => ?_)
  · simp (maxSteps := 1000000) -implicitDefEqProofs only [push_cast, seval]
    refine ⟨?_, pA.keep⟩
    rw [if_pos (by omega)]
  · simp (maxSteps := 1000000) -implicitDefEqProofs only [push_cast, seval]
    refine ⟨?_, pA.keep⟩
    rw [if_neg (by omega)]
    congr 1
    omega
end Go.Proofs.Ytciajhpeikemoaa
namespace Go.Proofs.Ytciajhpeikemoaa
open Go Go.Sim Go.Proofs
set_option linter.unusedSimpArgs false
set_option linter.unusedVariables false
set_option maxRecDepth 100000
set_option maxHeartbeats 1000000
theorem SzG.of {L D : List (Nd × Value)} {R : List Ru} (z : SzG L R) (e : D.map Prod.fst = L.map Prod.fst) : SzG D R := by
  have hlen : D.length = L.length := by have := congrArg List.length e; simpa using this
  have key : ∀ x ∈ D, ∃ y ∈ L, y.1 = x.1 := fun x hx => by
    have : x.1 ∈ L.map Prod.fst := by rw [← e]; exact List.mem_map.2 ⟨x, hx, rfl⟩
    exact List.mem_map.1 this
  refine ⟨by rw [hlen]; exact z.n, z.r, fun x hx => ?_, fun x hx => ?_⟩
  · obtain ⟨y, hy, e2⟩ := key x hx
    rw [← e2]; exact z.text y hy
  · obtain ⟨y, hy, e2⟩ := key x hx
    rw [← e2]; exact z.kids y hy
theorem nodW_mem {L : List (Nd × Value)} {x : Nd × Value} (h : x ∈ L) : x.1.text.size + x.1.kids.length ≤ nodW L L.length := by
  obtain ⟨i, hi, rfl⟩ := List.getElem_of_mem h
  have := nodW_succ hi
  have := nodW_mono (L := L) (i := i + 1) (j := L.length) (by omega) (Nat.le_refl _)
  omega
theorem SzG.ofW {L : List (Nd × Value)} {R : List Ru} (h : progW L R ≤ 1048576) : SzG L R := by
  unfold progW at h
  exact ⟨by omega, by omega, fun x hx => by have := nodW_mem hx; omega, fun x hx => by have := nodW_mem hx; omega⟩
theorem law_ProgramOk (L : List (Nd × Value)) (R : List Ru) (vN vR : Value) (h : AH) (r0 : RdG h vN vR L R) (hz0 : ∀ x ∈ L, x.1.text.size ≤ maxLen ∧ x.1.kids.length ≤ maxLen) (hn0 : L.length ≤ maxLen) (hr0 : R.length ≤ maxLen) (big : Big h) : CE Try.prog 4 [.agg #[vN, vR]] h fun v _ => v = .bool true := by
  have u00 := r0.nodes.one
  have u01 := r0.rules.one
  have pb : Pre h (h.alloc (.cells [vN, vR] .solo h.n)) := (Pre.refl _).alloc _
  have hS := szProgram_c L R vN vR 1048576 _ (r0.pre pb) hz0 hn0 hr0 (by omega)
  refine CE.ofN Try.func4 Try.ntmps4 Try.results4 rfl (by kernel_rfl) ?_
  simp (maxSteps := 1000000) -implicitDefEqProofs only [push_cast, seval, u00, u01]
  repeat (with_reducible refine And.intro ?_ ?_; · (first | omega | decide))
  with_reducible refine CD.to hS ?_
  simp (maxSteps := 1000000) -implicitDefEqProofs only [push_cast, seval]
  with_reducible refine bcase_d (fun hb => ?_) (fun hb => ?_)
  · simp (maxSteps := 1000000) -implicitDefEqProofs only [push_cast, seval]
  have hw : progW L R ≤ 1048576 := by
    by_cases e : (1048576 : Int) - progW L R < 0
    · exact absurd (by rw [if_pos e]; decide) hb
    · omega
  have hz := SzG.ofW hw
  simp (maxSteps := 1000000) -implicitDefEqProofs only [push_cast, seval, u00, u01]
  with_reducible refine CC.mono (toProgram_c L R vN vR _ (r0.pre pb) hz) (fun v h1 hv => ?_)
  with_reducible refine Exists.elim hv (fun a1 hw => ?_)
  with_reducible refine Exists.elim hw (fun b1 hw => ?_)
  with_reducible refine Exists.elim hw (fun D1 hw => ?_)
  have e1 := hw.1
  have m1 := hw.2.1
  have r1 := hw.2.2.1
  have p1 := hw.2.2.2
  clear hv hw
  subst e1
  have z1 := hz.of m1
  have u10 := r1.nodes.one
  have u11 := r1.rules.one
  have q1 : Pre h h1 := pb.trans p1
  have l1 : h.n < h1.n := Nat.lt_of_lt_of_le (lt_alloc _) p1.n
  have o1 : h1.ob h.n = _ := (p1.ob _ (lt_alloc _)).trans (alloc_same _)
  simp (maxSteps := 1000000) -implicitDefEqProofs only [push_cast, seval, o1, rd_of o1, rd1_of o1, l1]
  have hO1 := ProgramOk_s D1 R a1 b1 _ r1 z1
  rw [m1] at hO1
  with_reducible refine CD.to hO1 ?_
  simp (maxSteps := 1000000) -implicitDefEqProofs only [push_cast, seval, o1, rd_of o1, rd1_of o1, l1, u00, u01]
  with_reducible refine CC.mono (toProgram_c L R vN vR _ (r0.pre q1) hz) (fun v h2 hv => ?_)
  with_reducible refine Exists.elim hv (fun a2 hw => ?_)
  with_reducible refine Exists.elim hw (fun b2 hw => ?_)
  with_reducible refine Exists.elim hw (fun D2 hw => ?_)
  have e1 := hw.1
  have m2 := hw.2.1
  have r2 := hw.2.2.1
  have p2 := hw.2.2.2
  clear hv hw
  subst e1
  have z2 := hz.of m2
  have u20 := r2.nodes.one
  have u21 := r2.rules.one
  have q2 : Pre h h2 := q1.trans p2
  have l2 : h.n < h2.n := Nat.lt_of_lt_of_le l1 p2.n
  have o2 : h2.ob h.n = _ := (p2.ob _ l1).trans o1
  simp (maxSteps := 1000000) -implicitDefEqProofs only [push_cast, seval, o2, rd_of o2, rd1_of o2, l2, u20, u21]
  have p3 : Pre h2 ((h2.alloc (.cells [.slice none 0 0, .slice none 0 0] .solo h2.n)).set h2.n (.cells [a2, b2] .solo h2.n)) := ((Pre.refl h2).alloc _).set (Nat.le_refl _) _
  have o3 : ((h2.alloc (.cells [.slice none 0 0, .slice none 0 0] .solo h2.n)).set h2.n (.cells [a2, b2] .solo h2.n)).ob h2.n = AOb.cells [a2, b2] .solo h2.n := set_same _ _
  have n3 : ((h2.alloc (.cells [.slice none 0 0, .slice none 0 0] .solo h2.n)).set h2.n (.cells [a2, b2] .solo h2.n)).n = h2.n + 1 := rfl
  generalize ((h2.alloc (.cells [.slice none 0 0, .slice none 0 0] .solo h2.n)).set h2.n (.cells [a2, b2] .solo h2.n)) = h3 at *
  have m3 : h2.n < h3.n := by omega
  have l3 : h.n < h3.n := by omega
  have o33 : h3.ob h.n = _ := (p3.ob _ l2).trans o2
  have q3 := q2.trans p3
  have hO2 := ProgramOk_i D2 R a2 b2 _ (r2.pre p3) z2
  rw [m2] at hO2
  with_reducible refine CD.to hO2 ?_
  simp (maxSteps := 1000000) -implicitDefEqProofs only [push_cast, seval, o3, rd_of o3, rd1_of o3, o33, rd_of o33, rd1_of o33, m3, l3, u20, u21]
  with_reducible refine bcase_mk (fun hb2 => ?_) (fun hb2 => ?_)
  rotate_left
  · simp at hb2
  simp (maxSteps := 1000000) -implicitDefEqProofs only [push_cast, seval]
  refine WC.draw' (by kernel_rfl) (by kernel_rfl) (.q 0 (.q 1 (.a 2 false (.a 3 false (.q 4 (.done)))))) (by kernel_rfl) ?_
  simp (maxSteps := 1000000) -implicitDefEqProofs only [push_cast, seval, o3, rd_of o3, rd1_of o3, o33, rd_of o33, rd1_of o33, m3, l3, u00, u01, u20, u21]
  with_reducible refine CC.mono (toProgram_c L R vN vR _ (r0.pre q3) hz) (fun v h4 hv => ?_)
  with_reducible refine Exists.elim hv (fun a4 hw => ?_)
  with_reducible refine Exists.elim hw (fun b4 hw => ?_)
  with_reducible refine Exists.elim hw (fun D4 hw => ?_)
  have e1 := hw.1
  have m4 := hw.2.1
  have r4 := hw.2.2.1
  have p4 := hw.2.2.2
  clear hv hw
  subst e1
  have z4 := hz.of m4
  have u40 := r4.nodes.one
  have u41 := r4.rules.one
  have o4 : h4.ob h2.n = _ := (p4.ob _ m3).trans o3
  have o44 : h4.ob h.n = _ := (p4.ob _ l3).trans o33
  have m5 : h2.n < h4.n := Nat.lt_of_lt_of_le m3 p4.n
  simp (maxSteps := 1000000) -implicitDefEqProofs only [push_cast, seval, o4, rd_of o4, rd1_of o4, o44, rd_of o44, rd1_of o44, o3, o33, m5, u20, u21, u40, u41]
  with_reducible refine CD.to (eqProgram_c D2 D4 R a2 b2 a4 b4 h4 (r2.pre (p3.trans p4)) r4 (m2.trans m4.symm) z2) ?_
  simp (maxSteps := 1000000) -implicitDefEqProofs only [push_cast, seval, o4, rd_of o4, rd1_of o4, o44, rd_of o44, rd1_of o44, o3, o33, m5, u20, u21, u40, u41]
end Go.Proofs.Ytciajhpeikemoaa
