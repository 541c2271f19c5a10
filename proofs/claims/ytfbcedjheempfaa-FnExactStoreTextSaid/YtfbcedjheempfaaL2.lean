/- A part of the proof of the row: contracts of functions that it reaches. Conditions: those that each theorem names. -/
import Derived.Test.YtfbcedjheempfaaL1
namespace Go.Proofs.Ytfbcedjheempfaa
open Go Go.Sim Go.Proofs
set_option linter.unusedSimpArgs false
set_option linter.unusedVariables false
set_option maxRecDepth 100000
set_option maxHeartbeats 4000000
theorem cmpstring_c (a b : ByteArray) (h : AH) : CD Try.prog 132 [.string a, .string b] h (.int .i64 (cmpB a b)) h := by
  have key : ∀ w : World, (callFunc 132 #[.string a, .string b]).run Try.prog w = .ok (.value (.int .i64 (cmpB a b))) w := fun w => ?_
  · exact CC.ext (P := Try.prog) (f := 132) (args := [.string a, .string b]) (V := .int .i64 (cmpB a b)) (R := fun v h' => v = .int .i64 (cmpB a b) ∧ h' = h) (fun v hv => by
      simp only [List.mem_cons, List.not_mem_nil, or_false] at hv
      rcases hv with rfl | rfl <;> rfl) key rfl (And.intro rfl rfl)
  have e1 : Extern.findNext Try.f132 = none := by kernel_rfl
  have e2 : Extern.find Try.f132 = some Extern.BytealgCompare.compare := by kernel_rfl
  have e3 : ¬ Try.f132.name = "runtime.NumGoroutine" := by
    have : (Try.f132.name == "runtime.NumGoroutine") = false := by kernel_rfl
    simpa using this
  have e4 : Try.f132.body = none := by kernel_rfl
  simp [callFunc, Try.func132, e1, e2, e3, e4, Lib.run_compareString, cmpB, mark, Sem.run]
theorem CompareString_c (a b : ByteArray) (h : AH) : CD Try.prog 130 [.string a, .string b] h (.int .i64 (cmpB a b)) h := by
  refine CD.quiet ?_ (low_int _ _ _)
  refine CC.ofN Try.func130 Try.ntmps130 Try.results130 rfl (by decide) (by kernel_rfl) ?_
  simp -implicitDefEqProofs only [push_cast, seval]
  repeat' (first | with_reducible (first | exact Keep.refl _ _ | assumption | exact byte_lt _ _ | apply Keep.alloc | (refine Keep.set ?_ ?_; rotate_left; · omega) | apply Pre.alloc | apply Pre.set | exact Pre.refl _ | exact le_alloc _ | (refine Pre.keep ?_; assumption) | (refine Pre.n ?_; assumption)) | ((with_reducible (first | refine CD.to (cmpstring_c _ _ _) ?_ | refine CQ.pure (fun _ => cmpstring_c _ _ _) ?_ | refine bcase_d (fun hb => ?_) (fun hb => ?_) | refine bcase_mk (fun hb => ?_) (fun hb => ?_))) <;> try simp -implicitDefEqProofs only [push_cast, seval]) | with_reducible refine And.intro ?_ ?_ | omega | (simp only [alloc_n, set_n, kill_n]; omega) | (exfalso; omega))
theorem Compare_c (a b : ByteArray) (h : AH) : CD Try.prog 112 [.string a, .string b] h (.int .i64 (cmpB a b)) h := by
  refine CD.quiet ?_ (low_int _ _ _)
  refine CC.ofN Try.func112 Try.ntmps112 Try.results112 rfl (by decide) (by kernel_rfl) ?_
  simp -implicitDefEqProofs only [push_cast, seval]
  repeat' (first | with_reducible (first | exact Keep.refl _ _ | assumption | exact byte_lt _ _ | apply Keep.alloc | (refine Keep.set ?_ ?_; rotate_left; · omega) | apply Pre.alloc | apply Pre.set | exact Pre.refl _ | exact le_alloc _ | (refine Pre.keep ?_; assumption) | (refine Pre.n ?_; assumption)) | ((with_reducible (first | refine CD.to (CompareString_c _ _ _) ?_ | refine CQ.pure (fun _ => CompareString_c _ _ _) ?_ | refine bcase_d (fun hb => ?_) (fun hb => ?_) | refine bcase_mk (fun hb => ?_) (fun hb => ?_))) <;> try simp -implicitDefEqProofs only [push_cast, seval]) | with_reducible refine And.intro ?_ ?_ | omega | (simp only [alloc_n, set_n, kill_n]; omega) | (exfalso; omega))
theorem byKey_c (a b : Cell) (h : AH) : CD Try.prog 77 [.agg #[.string a.name, .string a.key, .string a.val], .agg #[.string b.name, .string b.key, .string b.val]] h (.int .i64 (cellCmp a b)) h := by
  refine CD.quiet ?_ (low_int _ _ _)
  refine CC.ofN Try.func77 Try.ntmps77 Try.results77 rfl (by decide) (by kernel_rfl) ?_
  simp -implicitDefEqProofs only [push_cast, seval]
  repeat' (first | with_reducible (first | exact Keep.refl _ _ | assumption | exact byte_lt _ _ | apply Keep.alloc | (refine Keep.set ?_ ?_; rotate_left; · omega) | apply Pre.alloc | apply Pre.set | exact Pre.refl _ | exact le_alloc _ | (refine Pre.keep ?_; assumption) | (refine Pre.n ?_; assumption)) | ((with_reducible (first | refine CD.to (Compare_c _ _ _) ?_ | refine CQ.pure (fun _ => Compare_c _ _ _) ?_ | refine bcase_d (fun hb => ?_) (fun hb => ?_) | refine bcase_mk (fun hb => ?_) (fun hb => ?_))) <;> try simp -implicitDefEqProofs only [push_cast, seval]) | with_reducible refine And.intro ?_ ?_ | omega | (simp only [alloc_n, set_n, kill_n]; omega) | (exfalso; omega))
  all_goals simp [cellCmp, hb]
theorem StoreOk_i (s : Store) (A B : Option Addr) (ca cb : Nat) (h : AH) (hR : RdS h A B s) (hz : Sz s) :
    CD Try.prog 38 [.agg #[.slice A s.vars.length ca, .slice B s.cells.length cb, .string s.out]] h (.bool (storeOk s)) h := by
  refine CD.withBig (fun big => ?_)
  refine CD.quiet ?_ (low_bool _ _)
  have hA := hR.vars
  have hB := hR.cells
  have hz1 := hz.vars
  have hz2 := hz.cells
  have nv := hz.nv
  have nc := hz.nc
  refine CC.ofN Try.func38 Try.ntmps38 Try.results38 rfl (by decide) (by kernel_rfl) ?_
  simp -implicitDefEqProofs only [push_cast, seval]
  refine WC.loopA (by kernel_rfl) [10] [2, 3, 4, 11, 12, 13, 14, 15, 16, 17, 18, 19, 20, 21, 22, 23, 24, 25, 26, 27, 28, 29, 30, 31, 32, 33, 34, 35, 36, 37, 38, 39, 40, 41] (fun i : Nat => [.int .i64 i]) (fun i h' => (i ≤ s.vars.length ∧ ∀ j, j < i → varOkAt s.vars j = true) ∧ Pre (h.alloc (AOb.cells [Value.slice A s.vars.length ca, Value.slice B s.cells.length cb, Value.string s.out] Stat.solo h.n)) h') (fun i => s.vars.length - i) 0 (by kernel_rfl) ⟨⟨Nat.zero_le _, allTo_zero⟩, Pre.refl _⟩ ?_
  intro i g h1 hJ
  have hi := hJ.1.1
  have hj := hJ.1.2
  have hp := hJ.2
  clear hJ
  have p0 : Pre h h1 := ((Pre.refl _).alloc _).trans hp
  have l1 : h.n < h1.n := Nat.lt_of_lt_of_le (lt_alloc _) hp.n
  have e1 : h1.ob h.n = _ := (hp.ob _ (lt_alloc _)).trans (alloc_same _)
  simp -implicitDefEqProofs only [push_cast, seval]
  with_reducible refine bcase_d (fun hb => ?_) (fun hb => ?_)
  · have hi' : i < s.vars.length := by omega
    with_reducible refine hA.use big p0 hi' (fun id off eA hlt hr => ?_)
    subst eA
    simp only [Var.enc] at hr
    have r0 := (rd_2 hr).1
    have r1 := (rd_2 hr).2
    have hz' := (hz1 _ (List.getElem_mem hi')).1
    simp -implicitDefEqProofs only [push_cast, seval, hr, r0, r1, hlt, rd_of e1, rd1_of e1, l1]
    refine And.intro (by omega) (And.intro (by omega) ?_)
    refine WC.draw' (by kernel_rfl) (by kernel_rfl) (.q 0 (.q 1 (.c 2 (.q 3 (.q 4 (.q 5 (.q 6 (.q 7 (.q 8 (.q 9 (.q 10 (.q 11 (.q 12 (.q 13 (.q 14 (.q 15 (.q 16 (.q 17 (.q 18 (.q 19 (.q 20 (.q 21 (.q 22 (.q 23 (.q 24 (.q 25 (.done))))))))))))))))))))))))))) (by kernel_rfl) ?_
    simp -implicitDefEqProofs only [push_cast, seval, e1, hr, r0, r1, hlt, rd_of e1, rd1_of e1, l1]
    have hv := varOkAt_eq hi'
    rcases Nat.eq_zero_or_pos i with h0 | h0
    · repeat' (first | with_reducible (first | exact Keep.refl _ _ | assumption | exact byte_lt _ _ | apply Keep.alloc | (refine Keep.set ?_ ?_; rotate_left; · omega) | apply Pre.alloc | apply Pre.set | exact Pre.refl _ | exact le_alloc _ | (refine Pre.keep ?_; assumption) | (refine Pre.n ?_; assumption)) | ((with_reducible (first | refine CD.to (isLetters_c _ ?_ _) ?_ | refine CQ.pure (fun _ => isLetters_c _ ?_ _) ?_ | refine bcase_d (fun hb => ?_) (fun hb => ?_) | refine bcase_mk (fun hb => ?_) (fun hb => ?_))) <;> try simp -implicitDefEqProofs only [push_cast, seval, e1, hr, r0, r1, hlt, rd_of e1, rd1_of e1, l1]) | with_reducible refine And.intro ?_ ?_ | omega | (simp only [alloc_n, set_n, kill_n]; omega) | (exfalso; omega))
      all_goals first
        | exact congrArg Value.bool (storeOk_v hi' (by rw [hv]; grind [ltB]))
        | (rw [wrapSucc (by omega)]
           refine ⟨i + 1, by kernel_rfl, ⟨⟨by omega, allTo_succ hj (by rw [hv]; grind [ltB])⟩, ?_⟩, by omega⟩
           repeat' (first | with_reducible (first | exact Keep.refl _ _ | assumption | exact byte_lt _ _ | apply Keep.alloc | (refine Keep.set ?_ ?_; rotate_left; · omega) | apply Pre.alloc | apply Pre.set | exact Pre.refl _ | exact le_alloc _ | (refine Pre.keep ?_; assumption) | (refine Pre.n ?_; assumption)) | ((with_reducible (first | refine bcase_d (fun hb => ?_) (fun hb => ?_) | refine bcase_mk (fun hb => ?_) (fun hb => ?_))) <;> try simp -implicitDefEqProofs only [push_cast, seval]) | with_reducible refine And.intro ?_ ?_ | omega | (simp only [alloc_n, set_n, kill_n]; omega) | (exfalso; omega)))
    · have w1 := wrapPred h0 (by omega)
      have q0 := (rd_2 (hA.rdAt big p0 (i := i - 1) (by omega))).1
      have hn0 : ¬ i = 0 := by omega
      repeat' (first | with_reducible (first | exact Keep.refl _ _ | assumption | exact byte_lt _ _ | apply Keep.alloc | (refine Keep.set ?_ ?_; rotate_left; · omega) | apply Pre.alloc | apply Pre.set | exact Pre.refl _ | exact le_alloc _ | (refine Pre.keep ?_; assumption) | (refine Pre.n ?_; assumption)) | ((with_reducible (first | refine CD.to (isLetters_c _ ?_ _) ?_ | refine CQ.pure (fun _ => isLetters_c _ ?_ _) ?_ | refine bcase_d (fun hb => ?_) (fun hb => ?_) | refine bcase_mk (fun hb => ?_) (fun hb => ?_))) <;> try simp -implicitDefEqProofs only [push_cast, seval, e1, hr, r0, r1, hlt, rd_of e1, rd1_of e1, l1, w1, q0]) | with_reducible refine And.intro ?_ ?_ | omega | (simp only [alloc_n, set_n, kill_n]; omega) | (exfalso; omega))
      all_goals first
        | exact congrArg Value.bool (storeOk_v hi' (by rw [hv]; grind [ltB]))
        | (rw [wrapSucc (by omega)]
           refine ⟨i + 1, by kernel_rfl, ⟨⟨by omega, allTo_succ hj (by rw [hv]; grind [ltB])⟩, ?_⟩, by omega⟩
           repeat' (first | with_reducible (first | exact Keep.refl _ _ | assumption | exact byte_lt _ _ | apply Keep.alloc | (refine Keep.set ?_ ?_; rotate_left; · omega) | apply Pre.alloc | apply Pre.set | exact Pre.refl _ | exact le_alloc _ | (refine Pre.keep ?_; assumption) | (refine Pre.n ?_; assumption)) | ((with_reducible (first | refine bcase_d (fun hb => ?_) (fun hb => ?_) | refine bcase_mk (fun hb => ?_) (fun hb => ?_))) <;> try simp -implicitDefEqProofs only [push_cast, seval]) | with_reducible refine And.intro ?_ ?_ | omega | (simp only [alloc_n, set_n, kill_n]; omega) | (exfalso; omega)))
       
  · simp -implicitDefEqProofs only [push_cast, seval, rd_of e1, rd1_of e1, l1]
    have hV : allN s.vars.length (varOkAt s.vars) = true := allN_iff.2 (fun j hj' => hj j (by omega))
    clear hb hj hi
    refine WC.loopA (by kernel_rfl) [45] [2, 5, 6, 46, 47, 48, 49, 50, 51, 52, 53, 54, 55, 56, 57, 58, 59, 60, 61, 62, 63, 64, 65, 66, 67, 68, 69, 70, 71, 72, 73, 74, 75, 76, 77, 78, 79, 80, 81] (fun i : Nat => [.int .i64 i]) (fun i h' => (i ≤ s.cells.length ∧ ∀ j, j < i → cellOkAt s.cells j = true) ∧ Pre h1 h') (fun i => s.cells.length - i) 0 (by kernel_rfl) ⟨⟨Nat.zero_le _, allTo_zero⟩, Pre.refl _⟩ ?_
    intro i g2 h2 hJ
    have hi := hJ.1.1
    have hj := hJ.1.2
    have hp2 := hJ.2
    clear hJ
    have p2 : Pre h h2 := p0.trans hp2
    have l2 : h.n < h2.n := Nat.lt_of_lt_of_le l1 hp2.n
    have e2 : h2.ob h.n = _ := (hp2.ob _ l1).trans e1
    simp -implicitDefEqProofs only [push_cast, seval]
    with_reducible refine bcase_d (fun hb => ?_) (fun hb => ?_)
    · have hi' : i < s.cells.length := by omega
      with_reducible refine hB.use big p2 hi' (fun id off eA hlt hr => ?_)
      subst eA
      simp only [Cell.enc] at hr
      have r0 := (rd_3 hr).1
      have r1 := (rd_3 hr).2.1
      have r2 := (rd_3 hr).2.2
      have hz' := (hz2 _ (List.getElem_mem hi')).1
      simp -implicitDefEqProofs only [push_cast, seval, hr, r0, r1, r2, hlt, rd_of e2, rd1_of e2, l2]
      refine And.intro (by omega) (And.intro (by omega) ?_)
      refine WC.draw' (by kernel_rfl) (by kernel_rfl) (.q 0 (.q 1 (.c 2 (.q 3 (.q 4 (.q 5 (.q 6 (.q 7 (.q 8 (.q 9 (.q 10 (.q 11 (.q 12 (.q 13 (.q 14 (.q 15 (.q 16 (.q 17 (.q 18 (.q 19 (.q 20 (.q 21 (.q 22 (.q 23 (.q 24 (.q 25 (.q 26 (.c 27 (.q 28 (.q 29 (.q 30 (.done)))))))))))))))))))))))))))))))) (by kernel_rfl) ?_
      simp -implicitDefEqProofs only [push_cast, seval, e2, hr, r0, r1, r2, hlt, rd_of e2, rd1_of e2, l2]
      have hv := cellOkAt_eq hi'
      rcases Nat.eq_zero_or_pos i with h0 | h0
      · repeat' (first | with_reducible (first | exact Keep.refl _ _ | assumption | exact byte_lt _ _ | apply Keep.alloc | (refine Keep.set ?_ ?_; rotate_left; · omega) | apply Pre.alloc | apply Pre.set | exact Pre.refl _ | exact le_alloc _ | (refine Pre.keep ?_; assumption) | (refine Pre.n ?_; assumption)) | ((with_reducible (first | refine CD.to (isLetters_c _ ?_ _) ?_ | refine CQ.pure (fun _ => isLetters_c _ ?_ _) ?_ | refine bcase_d (fun hb => ?_) (fun hb => ?_) | refine bcase_mk (fun hb => ?_) (fun hb => ?_))) <;> try simp -implicitDefEqProofs only [push_cast, seval, e2, hr, r0, r1, r2, hlt, rd_of e2, rd1_of e2, l2]) | with_reducible refine And.intro ?_ ?_ | omega | (simp only [alloc_n, set_n, kill_n]; omega) | (exfalso; omega))
        all_goals first
          | exact congrArg Value.bool (storeOk_c hi' (by rw [hv]; grind))
          | (rw [wrapSucc (by omega)]
             refine ⟨i + 1, by kernel_rfl, ⟨⟨by omega, allTo_succ hj (by rw [hv]; grind)⟩, ?_⟩, by omega⟩
             repeat' (first | with_reducible (first | exact Keep.refl _ _ | assumption | exact byte_lt _ _ | apply Keep.alloc | (refine Keep.set ?_ ?_; rotate_left; · omega) | apply Pre.alloc | apply Pre.set | exact Pre.refl _ | exact le_alloc _ | (refine Pre.keep ?_; assumption) | (refine Pre.n ?_; assumption)) | ((with_reducible (first | refine bcase_d (fun hb => ?_) (fun hb => ?_) | refine bcase_mk (fun hb => ?_) (fun hb => ?_))) <;> try simp -implicitDefEqProofs only [push_cast, seval]) | with_reducible refine And.intro ?_ ?_ | omega | (simp only [alloc_n, set_n, kill_n]; omega) | (exfalso; omega)))
      · have w1 := wrapPred h0 (by omega)
        have q0 := hB.rdAt big p2 (i := i - 1) (by omega)
        simp only [Cell.enc] at q0
        have hn0 : ¬ i = 0 := by omega
        repeat' (first | with_reducible (first | exact Keep.refl _ _ | assumption | exact byte_lt _ _ | apply Keep.alloc | (refine Keep.set ?_ ?_; rotate_left; · omega) | apply Pre.alloc | apply Pre.set | exact Pre.refl _ | exact le_alloc _ | (refine Pre.keep ?_; assumption) | (refine Pre.n ?_; assumption)) | ((with_reducible (first | refine CD.to (isLetters_c _ ?_ _) ?_ | refine CQ.pure (fun _ => isLetters_c _ ?_ _) ?_ | refine CD.to (byKey_c _ _ _) ?_ | refine CQ.pure (fun _ => byKey_c _ _ _) ?_ | refine bcase_d (fun hb => ?_) (fun hb => ?_) | refine bcase_mk (fun hb => ?_) (fun hb => ?_))) <;> try simp -implicitDefEqProofs only [push_cast, seval, e2, hr, r0, r1, r2, hlt, rd_of e2, rd1_of e2, l2, w1, q0]) | with_reducible refine And.intro ?_ ?_ | omega | (simp only [alloc_n, set_n, kill_n]; omega) | (exfalso; omega))
        all_goals first
          | exact congrArg Value.bool (storeOk_c hi' (by rw [hv]; grind))
          | (rw [wrapSucc (by omega)]
             refine ⟨i + 1, by kernel_rfl, ⟨⟨by omega, allTo_succ hj (by rw [hv]; grind)⟩, ?_⟩, by omega⟩
             repeat' (first | with_reducible (first | exact Keep.refl _ _ | assumption | exact byte_lt _ _ | apply Keep.alloc | (refine Keep.set ?_ ?_; rotate_left; · omega) | apply Pre.alloc | apply Pre.set | exact Pre.refl _ | exact le_alloc _ | (refine Pre.keep ?_; assumption) | (refine Pre.n ?_; assumption)) | ((with_reducible (first | refine bcase_d (fun hb => ?_) (fun hb => ?_) | refine bcase_mk (fun hb => ?_) (fun hb => ?_))) <;> try simp -implicitDefEqProofs only [push_cast, seval]) | with_reducible refine And.intro ?_ ?_ | omega | (simp only [alloc_n, set_n, kill_n]; omega) | (exfalso; omega)))
         
    · simp -implicitDefEqProofs only [push_cast, seval, rd_of e2, rd1_of e2, l2]
      have hC : allN s.cells.length (cellOkAt s.cells) = true := allN_iff.2 (fun j hj' => hj j (by omega))
      repeat' (first | with_reducible (first | exact Keep.refl _ _ | assumption | exact byte_lt _ _ | apply Keep.alloc | (refine Keep.set ?_ ?_; rotate_left; · omega) | apply Pre.alloc | apply Pre.set | exact Pre.refl _ | exact le_alloc _ | (refine Pre.keep ?_; assumption) | (refine Pre.n ?_; assumption)) | ((with_reducible (first | refine bcase_d (fun hb => ?_) (fun hb => ?_) | refine bcase_mk (fun hb => ?_) (fun hb => ?_))) <;> try simp -implicitDefEqProofs only [push_cast, seval, rd_of e2, rd1_of e2, l2]) | with_reducible refine And.intro ?_ ?_ | omega | (simp only [alloc_n, set_n, kill_n]; omega) | (exfalso; omega))
      all_goals first | (simp only [storeOk, hV, hC]; grind)
end Go.Proofs.Ytfbcedjheempfaa
