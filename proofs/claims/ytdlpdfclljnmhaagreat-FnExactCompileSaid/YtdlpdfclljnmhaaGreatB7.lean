/- Parts of the proof of the row: the ground, contracts of the functions that it reaches (K1, M1, K2, K3, K4, K5, K7, K0, K6, K8, D1, D2, D3, D4, D5). Conditions: those that each theorem names. -/
import Derived.Test.YtdlpdfclljnmhaaGreatB6
namespace Go.Proofs.YtdlpdfclljnmhaaGreat
open Go Go.Sim Go.Proofs
set_option linter.unusedSimpArgs false
set_option linter.unusedVariables false
set_option maxRecDepth 100000
set_option maxHeartbeats 1000000
theorem findIdx_any {l : List ByteArray} {s : ByteArray} {i : Nat} (hi : i < l.length) (e : l[i] = s) (hn : ∀ j (hj : j < l.length), j < i → l[j] ≠ s) : l.findIdx (fun t => decide (t = s)) = i := by
  rw [List.findIdx_eq hi]
  exact ⟨by simpa using e, fun j hj => by simpa using hn j (by omega) hj⟩
theorem Index_x (l : List ByteArray) (v : Value) (s : ByteArray) (h : AH) (r : RdV h v 1 encTx l) (hl : l.length ≤ 1048576) :
    CD Tryz.prog 70 [v, .string s] h (.int .i64 (if l.any (fun t => decide (t = s)) = true then ((l.findIdx fun t => decide (t = s) : Nat) : Int) else -1)) h := by
  refine CD.withBig (fun big => ?_)
  refine CD.quiet ?_ (low_int _ _ _)
  obtain ⟨A, c, rfl, hR⟩ := r.rde (fun _ => rfl)
  refine CC.ofN Tryz.func70 Tryz.ntmps70 Tryz.results70 rfl (by decide) (by kernel_rfl) ?_
  simp (maxSteps := 1000000) -implicitDefEqProofs only [push_cast, seval]
  refine WC.loopA (by kernel_rfl) [8] [4, 5, 9, 10, 11, 12, 13, 14, 15, 16, 17, 18] (fun i : Nat => [.int .i64 i]) (fun i h' => (i ≤ l.length ∧ ∀ j (hj : j < l.length), j < i → l[j] ≠ s) ∧ Pre h h') (fun i => l.length - i) 0 (by kernel_rfl) ⟨⟨Nat.zero_le _, fun j hj h0 => by omega⟩, Pre.refl _⟩ ?_
  intro i g h1 hJ
  have hi := hJ.1.1
  have hj := hJ.1.2
  have p1 := hJ.2
  clear hJ
  simp (maxSteps := 1000000) -implicitDefEqProofs only [push_cast, seval]
  with_reducible refine bcase_d (fun hb => ?_) (fun hb => ?_)
  · have hi' : i < l.length := by omega
    have hno : l[i] ≠ s → ∀ j (hj : j < l.length), j < i + 1 → l[j] ≠ s := fun e j hj1 hj2 => by
      by_cases e2 : j = i
      · subst e2; exact e
      · exact hj j hj1 (by omega)
    have hyes : l[i] = s → (if l.any (fun t => decide (t = s)) = true then ((l.findIdx fun t => decide (t = s) : Nat) : Int) else -1) = (i : Int) := fun e => by
      rw [if_pos (List.any_eq_true.2 ⟨_, List.getElem_mem hi', by simp [e]⟩), findIdx_any hi' e hj]
    with_reducible refine hR.use big p1 hi' (fun id off eA hlt hr => ?_)
    subst eA
    generalize l[i] = T at *
    simp only [encTx, Nat.mul_one] at hr
    have r0 := rd_1 hr
    simp (maxSteps := 1000000) -implicitDefEqProofs only [push_cast, seval, hr, r0, hlt, Nat.mul_one]
    repeat (with_reducible refine And.intro ?_ ?_; · (first | omega | decide))
    with_reducible refine bcase_d (fun hT => ?_) (fun hT => ?_)
    · simp (maxSteps := 1000000) -implicitDefEqProofs only [push_cast, seval]
      rw [hyes hT.symm]
      exact ⟨rfl, p1.keep⟩
    · simp (maxSteps := 1000000) -implicitDefEqProofs only [push_cast, seval]
      rw [wrapSucc (by omega)]
      exact ⟨i + 1, by kernel_rfl, ⟨⟨by omega, hno (fun e => hT e.symm)⟩, p1⟩, by omega⟩
  have ei : i = l.length := by omega
  subst ei
  simp (maxSteps := 1000000) -implicitDefEqProofs only [push_cast, seval]
  have : l.any (fun t => decide (t = s)) = false := List.any_eq_false.2 (fun x hx => by
    obtain ⟨j, hj1, rfl⟩ := List.getElem_of_mem hx
    simpa using hj j hj1 hj1)
  rw [if_neg (by rw [this]; simp)]
  exact ⟨rfl, p1.keep⟩
variable {kp : Nat} {vN vR vT vL : Value} {L : List (Nd × Value)} {R : List Ru} {u : Wr0} {ln fn : Int}
theorem _root_.Go.Sim.Gr.sl {n0 : Nat} {h : AH} {v : Value} {k m : Nat} {cs : List Value} (w : Gr n0 h v k cs) (hk : 0 < k) (hm : cs.length = m * k) : ∃ A c, v = .slice A m c := by
  rcases w with ⟨c, rfl, rfl⟩ | ⟨id, off, n, rfl, b, o⟩
  · have : m = 0 := by
      rcases Nat.eq_zero_or_pos m with h | h
      · exact h
      · have := Nat.mul_pos h hk; simp at hm; omega
    subst this
    exact ⟨none, c, rfl⟩
  · have : n = m := by
      have := o.len
      rw [hm] at this
      exact (Nat.eq_of_mul_eq_mul_right hk this).symm
    subst this
    exact ⟨_, _, rfl⟩
theorem li_len (u : Wr0) : ((u.li.map encN).flatten).length = u.li.length * 2 := flat_len (k := 2) _ (fun _ => rfl)
theorem tx_len (u : Wr0) : ((u.tx.map encTx).flatten).length = u.tx.length * 1 := flat_len (k := 1) _ (fun _ => rfl)
/-- The compiler's own values are of one cell each. -/
theorem _root_.Go.Sim.Cw.ones {h : AH} (c : Cw h kp vN vR L R u ln fn vT vL) : Sim.one vN = true ∧ Sim.one vR = true ∧ Sim.one vT = true ∧ Sim.one vL = true := by
  refine ⟨c.rd.nodes.one, c.rd.rules.one, ?_, ?_⟩
  · obtain ⟨A, q, e⟩ := c.gT.gr.sl (by decide) (tx_len u); rw [e]; rfl
  · obtain ⟨A, q, e⟩ := c.gL.gr.sl (by decide) (li_len u); rw [e]; rfl
theorem kput_c (h : AH) (c : Cw h kp vN vR L R u ln fn vT vL) (op arg : Int) (hz : u.li.length ≤ 100000) :
    CC Tryz.prog 79 [.pointer (some ⟨kp, 0, none⟩), .int .i64 op, .int .i64 arg] h (fun v h' => v = .int .i64 (u.li.length : Nat) ∧ ∃ vL', Cw h' kp vN vR L R (putI u op arg) ln fn vT vL' ∧ Fc kp h h' vT vL vT vL') := by
  have pt := c.pt
  have lt := c.lt
  have y := c.ones
  have y3 := y.2.2.1
  have y4 := y.2.2.2
  refine CC.ofN Tryz.func79 Tryz.ntmps79 Tryz.results79 rfl (by decide) (by kernel_rfl) ?_
  simp (maxSteps := 1000000) -implicitDefEqProofs only [push_cast, seval, pt, rd_of pt, rd1_of pt, lt, y4]
  refine GrL.app1 (h0 := ⟨kp + 1, h.ob⟩) si42 (by decide) (by decide) (notInt_sl und42) c.gL ⟨by show kp + 1 ≤ h.n; omega, fun _ _ => rfl⟩ rfl (by rw [li_len]; omega) (by decide) (fun h3 gr p3 n3 he => ?_)
  have gr : GrL (kp + 1) h3 (.slice (some ⟨h.n + 1, 0, none⟩) (((u.li.map encN).flatten).length / 2 + 1) 2) 2 (((putI u op arg).li.map encN).flatten) := by
    rw [putI, flat_snoc]; exact gr
  have cl := c.li (u' := putI u op arg) rfl (by omega) he gr (fun i e => .inr (by have e : h.n + 1 = i := e; omega))
  have pt3 : h3.ob kp = _ := (he kp (by omega) (fun e => by have := c.far (.inr e); omega)).trans pt
  have l3 : kp < h3.n := by omega
  have el : ((u.li.map encN).flatten).length / 2 + 1 = u.li.length + 1 := by rw [li_len]; omega
  rw [el] at cl ⊢
  simp (maxSteps := 1000000) -implicitDefEqProofs only [push_cast, seval, pt3, rd_of pt3, rd1_of pt3, l3]
  have w1 : IntKind.i64.wrap ((u.li.length : Int) + 1 - 1) = ((u.li.length : Nat) : Int) := by rw [w64 (by omega) (by omega)]; omega
  rw [w1]
  exact ⟨rfl, _, cl⟩
theorem full_c (h : AH) (c : Cw h kp vN vR L R u ln fn vT vL) :
    CD Tryz.prog 112 [.pointer (some ⟨kp, 0, none⟩)] h (.bool (decide ((250 : Int) < u.li.length))) h := by
  refine CD.quiet ?_ (low_bool _ _)
  have pt := c.pt
  have lt := c.lt
  have y4 := c.ones.2.2.2
  obtain ⟨A, q, rfl⟩ := c.gL.gr.sl (by decide) (li_len u)
  refine CC.ofN Tryz.func112 Tryz.ntmps112 Tryz.results112 rfl (by decide) (by kernel_rfl) ?_
  simp (maxSteps := 1000000) -implicitDefEqProofs only [push_cast, seval, pt, rd_of pt, rd1_of pt, lt, y4]
  repeat' (first | with_reducible (first | exact Keep.refl _ _ | assumption | exact byte_lt _ _ | apply Keep.alloc | (refine Keep.set ?_ ?_; rotate_left; · omega) | apply Pre.alloc | apply Pre.set | exact Pre.refl _ | exact le_alloc _ | (refine Pre.keep ?_; assumption) | (refine Pre.n ?_; assumption)) | ((with_reducible (first | refine bcase_d (fun hb => ?_) (fun hb => ?_) | refine bcase_mk (fun hb => ?_) (fun hb => ?_))) <;> try simp (maxSteps := 1000000) -implicitDefEqProofs only [push_cast, seval, pt, rd_of pt, rd1_of pt, lt, y4]) | with_reducible refine And.intro ?_ ?_ | omega | (simp only [alloc_n, set_n, kill_n]; omega) | (exfalso; omega))
theorem ktext_c (h : AH) (c : Cw h kp vN vR L R u ln fn vT vL) (s : ByteArray) (hz : u.tx.length ≤ 100000) :
    CC Tryz.prog 116 [.pointer (some ⟨kp, 0, none⟩), .string s] h (fun v h' => v = .int .i64 (txI u s : Nat) ∧ ∃ vT', Cw h' kp vN vR L R (putT u s) ln fn vT' vL ∧ Fc kp h h' vT vL vT' vL) := by
  have pt := c.pt
  have lt := c.lt
  have y3 := c.ones.2.2.1
  have hI := Index_x u.tx vT s h (c.gT.gr.rdv (by decide) (fun _ => rfl)) (by omega)
  obtain ⟨A, q, e⟩ := c.gT.gr.sl (by decide) (tx_len u)
  have hn : hasT u s = u.tx.any fun t => decide (t = s) := rfl
  have fi : txI u s = u.tx.findIdx fun t => decide (t = s) := rfl
  rw [← hn, ← fi] at hI
  refine CC.ofN Tryz.func116 Tryz.ntmps116 Tryz.results116 rfl (by decide) (by kernel_rfl) ?_
  simp (maxSteps := 1000000) -implicitDefEqProofs only [push_cast, seval, pt, rd_of pt, rd1_of pt, lt, y3]
  with_reducible refine CD.to hI ?_
  by_cases hh : hasT u s = true
  · rw [if_pos hh]
    have pe : putT u s = u := by unfold putT; rw [if_pos hh]
    have d0 : decide (((txI u s : Nat) : Int) < 0) = false := decide_eq_false (by omega)
    simp (maxSteps := 1000000) -implicitDefEqProofs only [push_cast, seval, d0]
    exact ⟨vT, by rw [pe]; exact c, Fc.refl _ _ _ _⟩
  · have hf : hasT u s = false := by simpa using hh
    have pe : putT u s = ⟨u.tx ++ [s], u.li⟩ := by unfold putT; rw [if_neg hh]
    have fe : txI u s = u.tx.length := by
      rw [fi]
      have : u.tx.findIdx (fun t => decide (t = s)) = u.tx.length := by
        apply List.findIdx_eq_length_of_false
        intro x hx
        have := List.any_eq_false.1 (hn ▸ hf) x hx
        simpa using this
      exact this
    rw [if_neg hh]
    simp (maxSteps := 1000000) -implicitDefEqProofs only [push_cast, seval, pt, rd_of pt, rd1_of pt, lt, y3]
    subst e
    simp (maxSteps := 1000000) -implicitDefEqProofs only [push_cast, seval, pt, rd_of pt, rd1_of pt, lt, y3]
    refine GrL.app1 (h0 := ⟨kp + 1, h.ob⟩) si37 (by decide) (by decide) (notInt_sl und37) c.gT ⟨by show kp + 1 ≤ h.n; omega, fun _ _ => rfl⟩ rfl (by rw [tx_len]; omega) (by decide) (fun h3 gr p3 n3 he => ?_)
    have gr : GrL (kp + 1) h3 (.slice (some ⟨h.n + 1, 0, none⟩) (((u.tx.map encTx).flatten).length / 1 + 1) 1) 1 (((putT u s).tx.map encTx).flatten) := by
      rw [pe, flat_snoc]; exact gr
    have cl := c.tx (u' := putT u s) (by rw [pe]) (by omega) he gr (fun i e => .inr (by have e : h.n + 1 = i := e; omega))
    have pt3 : h3.ob kp = _ := (he kp (by omega) (fun e => by have := c.far (.inl e); omega)).trans pt
    have l3 : kp < h3.n := by omega
    simp (maxSteps := 1000000) -implicitDefEqProofs only [push_cast, seval, pt3, rd_of pt3, rd1_of pt3, l3, fe]
    exact ⟨_, cl⟩
theorem opOf_c (op : Int) (h : AH) (h0 : inB op 1 25 = true) (h1 : op ≠ 22) (h2 : op ≠ 24) (h3 : op ≠ 17) : CD Tryz.prog 114 [.int .i64 op] h (.int .i64 (codeOp op)) h := by
  refine CD.quiet ?_ (low_int _ _ _)
  have hop : op = 1 ∨ op = 2 ∨ op = 3 ∨ op = 4 ∨ op = 5 ∨ op = 6 ∨ op = 7 ∨ op = 8 ∨ op = 9 ∨ op = 10 ∨ op = 11 ∨ op = 12 ∨ op = 13 ∨ op = 14 ∨ op = 15 ∨ op = 16 ∨ op = 18 ∨ op = 19 ∨ op = 20 ∨ op = 21 ∨ op = 23 ∨ op = 25 := by
    simp only [inB, Bool.and_eq_true, decide_eq_true_eq] at h0; omega
  rcases hop with rfl | rfl | rfl | rfl | rfl | rfl | rfl | rfl | rfl | rfl | rfl | rfl | rfl | rfl | rfl | rfl | rfl | rfl | rfl | rfl | rfl | rfl
  all_goals
    refine CC.ofN Tryz.func114 Tryz.ntmps114 Tryz.results114 rfl (by decide) (by kernel_rfl) ?_
    simp (maxSteps := 1000000) -implicitDefEqProofs only [push_cast, seval]
    repeat' (first | with_reducible (first | exact Keep.refl _ _ | assumption | exact byte_lt _ _ | apply Keep.alloc | (refine Keep.set ?_ ?_; rotate_left; · omega) | apply Pre.alloc | apply Pre.set | exact Pre.refl _ | exact le_alloc _ | (refine Pre.keep ?_; assumption) | (refine Pre.n ?_; assumption)) | ((with_reducible (first | refine bcase_d (fun hb => ?_) (fun hb => ?_) | refine bcase_mk (fun hb => ?_) (fun hb => ?_))) <;> try simp (maxSteps := 1000000) -implicitDefEqProofs only [push_cast, seval]) | with_reducible refine And.intro ?_ ?_ | omega | (simp only [alloc_n, set_n, kill_n]; omega) | (exfalso; omega))
  all_goals exact congrArg (Value.int IntKind.i64) (by decide)
end Go.Proofs.YtdlpdfclljnmhaaGreat
namespace Go.Proofs.YtdlpdfclljnmhaaGreat
open Go Go.Sim Go.Proofs
set_option linter.unusedSimpArgs false
set_option linter.unusedVariables false
set_option maxRecDepth 100000
set_option maxHeartbeats 1000000
/-- What a right program's parts are. -/
structure OkG (L : List (Nd × Value)) (R : List Ru) : Prop where
  n : L.length ≤ 200
  r : R.length ≤ 12
  kids : ∀ i (h : i < L.length), ∀ k, k < L[i].1.kids.length → ∃ m : Nat, L[i].1.kids.getD k 0 = m ∧ m < i
  klen : ∀ i (h : i < L.length), L[i].1.kids.length ≤ 20
  act : ∀ i (h : i < R.length), ∃ m : Nat, R[i].act = m ∧ m < L.length
  cond : ∀ i (h : i < R.length), R[i].cond = -1 ∨ ∃ m : Nat, R[i].cond = m ∧ m < L.length
theorem manyP_20 (op : Int) : (manyP op).2 ≤ 20 := by
  unfold manyP rangeP
  repeat' split
  all_goals decide
theorem OkG.of {L : List (Nd × Value)} {R : List Ru} (h : programOk ⟨L.map Prod.fst, R⟩ = true) : OkG L R := by
  rw [programOk_split] at h
  simp only [Bool.and_eq_true, decide_eq_true_eq] at h
  obtain ⟨⟨⟨h1, h2⟩, h3⟩, h4⟩ := h
  have hn : ∀ i (hi : i < L.length), nodeP (L.map Prod.fst) i L[i].1 = true := fun i hi => by
    simp only [allN, List.all_eq_true, List.mem_range] at h3
    have := h3 i hi
    rwa [getD_map L i hi] at this
  have hr : ∀ i (hi : i < R.length), ruleP (L.map Prod.fst) R[i] = true := fun i hi => List.all_eq_true.1 h4 _ (List.getElem_mem hi)
  refine ⟨h1, h2, fun i hi k hk => ?_, fun i hi => ?_, fun i hi => ?_, fun i hi => ?_⟩
  · have := hn i hi
    rw [nodeP_i] at this
    simp only [Bool.and_eq_true] at this
    have a := this.1.1.2
    simp only [allN, List.all_eq_true, List.mem_range] at a
    exact inB_nat (a k hk)
  · have := hn i hi
    rw [nodeP_i] at this
    simp only [Bool.and_eq_true] at this
    have b := this.2.2
    have c := manyP_20 L[i].1.op
    simp only [inB, Bool.and_eq_true, decide_eq_true_eq] at b
    omega
  · have := hr i hi
    rw [ruleP, List.length_map] at this
    simp only [Bool.and_eq_true] at this
    exact inB_nat this.1.1.2
  · have := hr i hi
    rw [ruleP, List.length_map] at this
    simp only [Bool.and_eq_true, Bool.or_eq_true, decide_eq_true_eq] at this
    rcases this.2 with e | e
    · exact .inl e
    · exact .inr (inB_nat e.1.2)
theorem l11Reach_c (L : List (Nd × Value)) (R : List Ru) (vN vR : Value) (h : AH) (w : RdG h vN vR L R) (ok : OkG L R) :
    CC Tryz.prog 39 [.agg #[vN, vR]] h (fun v h' => RdV h' v 1 encT (bL L.length (reach (L.map Prod.fst) R)) ∧ Pre h h') := by
  refine CC.withBig (fun big => ?_)
  have zn := ok.n
  have zr := ok.r
  have w0 := w
  obtain ⟨B, d, rfl, hN⟩ := w.nodes.rde encD_len
  obtain ⟨C, c, rfl, hR⟩ := w.rules.rde (fun _ => rfl)
  refine CC.ofN Tryz.func39 Tryz.ntmps39 Tryz.results39 rfl (by decide) (by kernel_rfl) ?_
  simp (maxSteps := 1000000) -implicitDefEqProofs only [push_cast, seval]
  repeat (with_reducible refine And.intro ?_ ?_; · (first | omega | decide))
  have p0 : Pre h ((h.alloc (.cells [.slice B L.length d, .slice C R.length c] .solo h.n)).alloc (.cells (List.replicate (L.length * 1) (.bool false)) .solo (h.n + 1))) := ((Pre.refl h).alloc _).alloc _
  have c0 : ((h.alloc (.cells [.slice B L.length d, .slice C R.length c] .solo h.n)).alloc (.cells (List.replicate (L.length * 1) (.bool false)) .solo (h.n + 1))).ob h.n = .cells [.slice B L.length d, .slice C R.length c] .solo h.n := (by (try simp (maxSteps := 1000000) -implicitDefEqProofs only [push_cast, seval, rdOb]); try rfl)
  have b0 : ((h.alloc (.cells [.slice B L.length d, .slice C R.length c] .solo h.n)).alloc (.cells (List.replicate (L.length * 1) (.bool false)) .solo (h.n + 1))).ob (h.n + 1) = .cells (bT L.length (rusF R 0)) .solo (h.n + 1) := (alloc_same (h := h.alloc _) _).trans (by rw [← bT_zero]; rfl)
  have n0 : ((h.alloc (.cells [.slice B L.length d, .slice C R.length c] .solo h.n)).alloc (.cells (List.replicate (L.length * 1) (.bool false)) .solo (h.n + 1))).n = h.n + 2 := rfl
  generalize ((h.alloc (.cells [.slice B L.length d, .slice C R.length c] .solo h.n)).alloc (.cells (List.replicate (L.length * 1) (.bool false)) .solo (h.n + 1))) = H0 at *
  refine WC.loopA (by kernel_rfl) [4] [11, 12, 13, 14, 15, 16, 17, 18, 19, 20, 21, 22, 23, 24, 25, 26, 27, 28, 29, 30, 31, 32, 33, 34, 35, 36, 37, 38, 39, 40, 41, 42, 43, 44, 45, 46, 47] (fun i : Nat => [.int .i64 (i : Nat)]) (fun i h' => i ≤ R.length ∧ h'.ob h.n = .cells [.slice B L.length d, .slice C R.length c] .solo h.n ∧ h'.ob (h.n + 1) = .cells (bT L.length (rusF R i)) .solo (h.n + 1) ∧ h.n + 2 ≤ h'.n ∧ Pre h h') (fun i => R.length - i) 0 (by kernel_rfl) ⟨Nat.zero_le _, c0, b0, by omega, p0⟩ ?_
  clear b0 c0 n0 p0
  intro i g h1 hJ
  have hi := hJ.1
  have c1 := hJ.2.1
  have b1 := hJ.2.2.1
  have n1 := hJ.2.2.2.1
  have p1 := hJ.2.2.2.2
  clear hJ
  have l1 : h.n < h1.n := by omega
  have m1 : h.n + 1 < h1.n := by omega
  simp (maxSteps := 1000000) -implicitDefEqProofs only [push_cast, seval, c1, rd_of c1, rd1_of c1, l1]
  with_reducible refine bcase_d (fun hb => ?_) (fun hb => ?_)
  · have hi' : i < R.length := by omega
    have hs := rusF_succ hi'
    have ha := ok.act i hi'
    have hc := ok.cond i hi'
    with_reducible refine hR.use big (Pre.refl h) hi' (fun id off eA hlt0 hr0 => ?_)
    subst eA
    have hlt : id < h1.n := by omega
    have hr : rd h1 id (off + i * 3) 3 = some (encU R[i]) := by rw [rd_eq, p1.ob id hlt0, ← rd_eq]; exact hr0
    clear hr0
    simp only [encU] at hr
    generalize R[i] = X at *
    with_reducible refine Exists.elim ha (fun m ha => ?_)
    have em := ha.1
    have hm := ha.2
    clear ha
    rw [em] at hr
    have r0 := (rd_3 hr).1
    have r1 := (rd_3 hr).2.1
    have r2 := (rd_3 hr).2.2
    have hbl : m + 1 ≤ (bT L.length (rusF R i)).length := by rw [bT_len]; omega
    simp (maxSteps := 1000000) -implicitDefEqProofs only [push_cast, seval, c1, rd_of c1, rd1_of c1, l1, hr, r0, r1, r2, hlt]
    repeat (with_reducible refine And.intro ?_ ?_; · (first | omega | decide))
    with_reducible refine bcase_d (fun hw2 => ?_) (fun hw2 => ?_)
    · simp (maxSteps := 1000000) -implicitDefEqProofs only [push_cast, seval, c1, rd_of c1, rd1_of c1, b1, rd_of b1, rd1_of b1, l1, m1, hr, r0, r1, r2, hlt]
      refine And.intro (by omega) (And.intro (by omega) (And.intro (by omega) (And.intro (by omega) (And.intro (by omega) ?_))))
      rw [Nat.mul_one, bT_set]
      have c2 := (set_ne (h := h1) (o := .cells (bT L.length (updB (rusF R i) m true)) .solo (h.n + 1)) (show h.n ≠ h.n + 1 by omega)).trans c1
      have b2 : (h1.set (h.n + 1) (.cells (bT L.length (updB (rusF R i) m true)) .solo (h.n + 1))).ob (h.n + 1) = _ := set_same _ _
      have n2 : h.n + 2 ≤ (h1.set (h.n + 1) (.cells (bT L.length (updB (rusF R i) m true)) .solo (h.n + 1))).n := n1
      have p2 : Pre h (h1.set (h.n + 1) (.cells (bT L.length (updB (rusF R i) m true)) .solo (h.n + 1))) := p1.set (by omega) _
      have hr2 : rd (h1.set (h.n + 1) (.cells (bT L.length (updB (rusF R i) m true)) .solo (h.n + 1))) id (off + i * 3) 3 = _ := (show rd (h1.set (h.n + 1) _) id (off + i * 3) 3 = rd h1 id (off + i * 3) 3 by rw [rd_eq, rd_eq, set_ne _ (by omega)]).trans hr
      generalize (h1.set (h.n + 1) (.cells (bT L.length (updB (rusF R i) m true)) .solo (h.n + 1))) = h2 at *
      have q1 := (rd_3 hr2).2.1
      have l2 : h.n < h2.n := by omega
      have m2 : h.n + 1 < h2.n := by omega
      have hlt2 : id < h2.n := by omega
      simp (maxSteps := 1000000) -implicitDefEqProofs only [push_cast, seval, c2, rd_of c2, rd1_of c2, b2, rd_of b2, rd1_of b2, l2, m2, hr2, q1, hlt2]
      repeat (with_reducible refine And.intro ?_ ?_; · (first | omega | decide))
      with_reducible refine bcase_d (fun hcd => ?_) (fun hcd => ?_)
      · have hc2 : ∃ k : Nat, X.cond = k ∧ k < L.length := by
          rcases hc with e | e
          · omega
          · exact e
        with_reducible refine Exists.elim hc2 (fun k hk => ?_)
        have ek := hk.1
        have hk2 := hk.2
        clear hk hc2
        rw [ek] at hr2 q1
        have hbl2 : k + 1 ≤ (bT L.length (updB (rusF R i) m true)).length := by rw [bT_len]; omega
        simp (maxSteps := 1000000) -implicitDefEqProofs only [push_cast, seval, c2, rd_of c2, rd1_of c2, b2, rd_of b2, rd1_of b2, l2, m2, hr2, q1, hlt2]
        refine And.intro (by omega) (And.intro (by omega) (And.intro (by omega) (And.intro (by omega) (And.intro (by omega) ?_))))
        rw [Nat.mul_one, bT_set, wrapSucc (by omega)]
        refine ⟨i + 1, by kernel_rfl, ⟨by omega, ?_, n2, p2.set (by omega) _⟩, by omega⟩
        rw [hs, ruF, if_pos hw2, if_pos (by omega), em, ek, Int.toNat_natCast, Int.toNat_natCast]
      · simp (maxSteps := 1000000) -implicitDefEqProofs only [push_cast, seval]
        rw [wrapSucc (by omega)]
        refine ⟨i + 1, by kernel_rfl, ⟨by omega, c2, ?_, n2, p2⟩, by omega⟩
        rw [hs, ruF, if_pos hw2, if_neg (by omega), em, Int.toNat_natCast]
        exact b2
    · simp (maxSteps := 1000000) -implicitDefEqProofs only [push_cast, seval]
      rw [wrapSucc (by omega)]
      refine ⟨i + 1, by kernel_rfl, ⟨by omega, c1, ?_, n1, p1⟩, by omega⟩
      rw [hs, ruF, if_neg hw2]
      exact b1
  have ei : i = R.length := by omega
  rw [ei] at b1
  have hw1 : IntKind.i64.wrap ((L.length : Int) - 1) = (L.length : Int) - 1 := by rw [w64 (by omega) (by omega)]
  generalize hF0 : rusF R R.length = F0 at *
  simp (maxSteps := 1000000) -implicitDefEqProofs only [push_cast, seval, c1, rd_of c1, rd1_of c1, l1, hw1]
  refine WC.loopA (by kernel_rfl) [5] [6, 52, 53, 54, 55, 56, 57, 58, 59, 60, 61, 62, 63, 64, 65, 66, 67, 68, 69, 70, 71, 72, 73, 74, 75, 76, 77, 78, 79, 80, 81, 82, 83] (fun a : Nat × (Nat → Bool) => [.int .i64 ((a.1 : Nat) - 1)]) (fun a h' => (a.1 ≤ L.length ∧ downF (L.map Prod.fst) a.2 a.1 = downF (L.map Prod.fst) F0 L.length) ∧ h'.ob h.n = .cells [.slice B L.length d, .slice C R.length c] .solo h.n ∧ h'.ob (h.n + 1) = .cells (bT L.length a.2) .solo (h.n + 1) ∧ h.n + 2 ≤ h'.n ∧ Pre h h') (fun a => a.1) (L.length, F0) (by kernel_rfl) ⟨⟨Nat.le_refl _, rfl⟩, c1, b1, n1, p1⟩ ?_
  clear b1 c1 n1 p1 l1 m1 hb
  intro a g1 h1 hJ
  have hi := hJ.1.1
  have hd := hJ.1.2
  have c1 := hJ.2.1
  have b1 := hJ.2.2.1
  have n1 := hJ.2.2.2.1
  have p1 := hJ.2.2.2.2
  clear hJ
  have l1 : h.n < h1.n := by omega
  have m1 : h.n + 1 < h1.n := by omega
  simp (maxSteps := 1000000) -implicitDefEqProofs only [push_cast, seval]
  with_reducible refine bcase_d (fun hb => ?_) (fun hb => ?_)
  rotate_left
  · have ea : a.1 = 0 := by omega
    rw [ea] at hd
    have hd' : a.2 = reach (L.map Prod.fst) R := by
      rw [reach, hF0, List.length_map, ← hd]; rfl
    simp (maxSteps := 1000000) -implicitDefEqProofs only [push_cast, seval]
    rw [← hd']
    exact ⟨.inr ⟨h.n + 1, 0, 1, by rw [bL_len], by rw [rd_of b1, bT_bL, bL_len, rdO_cells, if_pos (by rw [bT_len]; omega), List.drop_zero, List.take_of_length_le (by rw [bT_len]; omega)], m1⟩, p1⟩
  simp (maxSteps := 1000000) -implicitDefEqProofs only [push_cast, seval]
  with_reducible refine nameN (a.1 - 1) (fun e he => ?_)
  have hae : a.1 = e + 1 := by omega
  have he' : e < L.length := by omega
  have hcast : ((a.1 : Nat) : Int) - 1 = (e : Int) := by omega
  rw [hcast]
  have hkd := ok.kids e he'
  have hkl := ok.klen e he'
  have kr := w0.kids _ (List.getElem_mem he')
  have hgd := getD_map L e he'
  rw [hae, downF, hgd] at hd
  with_reducible refine hN.use big (Pre.refl h) he' (fun id off eA hlt0 hr0 => ?_)
  subst eA
  simp only [encD] at hr0
  generalize L[e].2 = kv at *
  generalize L[e].1.kids = ks at *
  have kf := kr.rde (fun _ => rfl)
  with_reducible refine Exists.elim kf (fun K kf => ?_)
  with_reducible refine Exists.elim kf (fun cK kf => ?_)
  have eK := kf.1
  have hK := kf.2
  clear kf
  rw [eK] at hr0
  refine WC.loopA (by kernel_rfl) [6] [56, 57, 58, 59, 60, 61, 62, 63, 64, 65, 66, 67, 68, 69, 70, 71, 72, 73, 74, 75, 76, 77, 78, 79, 80, 81, 82, 83] (fun k : Nat => [.int .i64 (k : Nat)]) (fun k h' => k ≤ ks.length ∧ h'.ob h.n = .cells [.slice (some ⟨id, off, none⟩) L.length d, .slice C R.length c] .solo h.n ∧ h'.ob (h.n + 1) = .cells (bT L.length (kisF (a.2 e) a.2 ks k)) .solo (h.n + 1) ∧ h.n + 2 ≤ h'.n ∧ Pre h h') (fun k => ks.length - k) 0 (by kernel_rfl) ⟨Nat.zero_le _, c1, b1, n1, p1⟩ ?_
  clear c1 b1 n1 p1 l1 m1
  intro k g2 h2 hJ
  have hk := hJ.1
  have c2 := hJ.2.1
  have b2 := hJ.2.2.1
  have n2 := hJ.2.2.2.1
  have p2 := hJ.2.2.2.2
  clear hJ
  have l2 : h.n < h2.n := by omega
  have m2 : h.n + 1 < h2.n := by omega
  have hr : rd h2 id (off + e * 3) 3 = _ := (show rd h2 id (off + e * 3) 3 = rd h id (off + e * 3) 3 by rw [rd_eq, rd_eq, p2.ob id hlt0]).trans hr0
  have r2 := (rd_3 hr).2.2
  have hlt : id < h2.n := by omega
  have hout : kisF (a.2 e) a.2 ks k e = a.2 e := kisF_out (fun x hx => by
    obtain ⟨j, hj, rfl⟩ := List.getElem_of_mem hx
    obtain ⟨m, e1, e2⟩ := hkd j hj
    rw [getD_eq ks j 0 hj] at e1
    rw [e1, Int.toNat_natCast]
    omega) k
  have hrb : rd1 h2 (h.n + 1) (0 + e * 1) = some (.bool (a.2 e)) := by
    rw [rd1_of b2, rd1O_cells, Nat.zero_add, Nat.mul_one, bT_get _ he', hout]
  have hrb2 : rd1 h2 (h.n + 1) (e * 1) = some (.bool (a.2 e)) := by
    rw [rd1_of b2, rd1O_cells, Nat.mul_one, bT_get _ he', hout]
  simp (maxSteps := 1000000) -implicitDefEqProofs only [push_cast, seval, c2, rd_of c2, rd1_of c2, l2, hr, r2, hlt]
  repeat (with_reducible refine And.intro ?_ ?_; · (first | omega | decide))
  with_reducible refine bcase_d (fun hb3 => ?_) (fun hb3 => ?_)
  · simp (maxSteps := 1000000) -implicitDefEqProofs only [push_cast, seval, m2, hrb, hrb2]
    repeat (with_reducible refine And.intro ?_ ?_; · (first | omega | decide))
    have hk' : k < ks.length := by omega
    cases hE : a.2 e
    · have ew : IntKind.i64.wrap ((e : Int) - 1) = (e : Int) - 1 := by rw [w64 (by omega) (by omega)]
      rw [hE, kisF_false] at hd b2
      simp (maxSteps := 1000000) -implicitDefEqProofs only [push_cast, seval, hE, ew]
      exact ⟨(e, a.2), by kernel_rfl, ⟨⟨by show e ≤ L.length; omega, hd⟩, c2, b2, n2, p2⟩, by show e < a.1; omega⟩
    · rw [hE] at hd b2 hout
      have hs := kisF_succ (b := true) (F := a.2) hk'
      have hm := hkd k hk'
      rw [getD_eq ks k 0 hk'] at hm
      with_reducible refine hK.use big p2 hk' (fun id3 off3 eA hlt3 hr3 => ?_)
      subst eA
      simp only [encZ] at hr3
      generalize ks[k] = Z at *
      with_reducible refine Exists.elim hm (fun m hm => ?_)
      have em := hm.1
      have hm2 := hm.2
      clear hm
      subst em
      have q3 := rd_1 hr3
      have hbl2 : m + 1 ≤ (bT L.length (kisF true a.2 ks k)).length := by rw [bT_len]; omega
      simp (maxSteps := 1000000) -implicitDefEqProofs only [push_cast, seval, hE, c2, rd_of c2, rd1_of c2, b2, rd_of b2, rd1_of b2, l2, m2, hr, r2, hlt, hr3, q3, hlt3]
      repeat (with_reducible refine And.intro ?_ ?_; · (first | omega | decide))
      rw [Nat.mul_one, bT_set, wrapSucc (by omega)]
      refine ⟨k + 1, by kernel_rfl, ⟨by omega, ?_, n2, p2.set (by omega) _⟩, by omega⟩
      rw [hs, kiF, if_pos rfl, Int.toNat_natCast, Nat.mul_one]
  · have ek : k = ks.length := by omega
    have ew : IntKind.i64.wrap ((e : Int) - 1) = (e : Int) - 1 := by rw [w64 (by omega) (by omega)]
    rw [ek] at b2
    simp (maxSteps := 1000000) -implicitDefEqProofs only [push_cast, seval, ew]
    exact ⟨(e, kisF (a.2 e) a.2 ks ks.length), by kernel_rfl, ⟨⟨by show e ≤ L.length; omega, hd⟩, c2, b2, n2, p2⟩, by show e < a.1; omega⟩
end Go.Proofs.YtdlpdfclljnmhaaGreat
namespace Go.Proofs.YtdlpdfclljnmhaaGreat
open Go Go.Sim Go.Proofs
set_option linter.unusedSimpArgs false
set_option linter.unusedVariables false
set_option maxRecDepth 100000
set_option maxHeartbeats 1000000
/-- What a right program's node is. -/
structure OkN (N : List Nd) (i : Nat) (x : Nd) : Prop where
  op : inB x.op 1 25 = true
  len : inB x.kids.length (manyP x.op).1 (manyP x.op).2 = true
  kid : ∀ a, a < x.kids.length → ∃ m : Nat, x.kids.getD a 0 = m ∧ m < i ∧ kidP x.op a (nodeOp N m) = true
theorem OkN.of {L : List (Nd × Value)} {R : List Ru} (h : programOk ⟨L.map Prod.fst, R⟩ = true) {i : Nat} (hi : i < L.length) : OkN (L.map Prod.fst) i L[i].1 := by
  rw [programOk_split] at h
  simp only [Bool.and_eq_true, decide_eq_true_eq] at h
  obtain ⟨⟨⟨h1, h2⟩, h3⟩, h4⟩ := h
  have hn : nodeP (L.map Prod.fst) i L[i].1 = true := by
    simp only [allN, List.all_eq_true, List.mem_range] at h3
    have := h3 i hi
    rwa [getD_map L i hi] at this
  rw [nodeP_i] at hn
  simp only [Bool.and_eq_true] at hn
  obtain ⟨⟨⟨a1, a2⟩, a3⟩, a4, a5⟩ := hn
  refine ⟨a1, a5, fun a ha => ?_⟩
  simp only [allN, List.all_eq_true, List.mem_range] at a2 a4
  obtain ⟨m, e, hm⟩ := inB_nat (a2 a ha)
  have := a4 a ha
  rw [e] at this
  exact ⟨m, e, hm, this⟩
variable {kp : Nat} {vN vR vT vL vT' vL' vT2 vL2 : Value} {L : List (Nd × Value)} {R : List Ru} {s s' s2 u u' t : Wr0} {ln fn : Int} {h h1 h2 h' : AH}
/-- A step of a compiler. -/
def StepP (kp : Nat) (vN vR : Value) (L : List (Nd × Value)) (R : List Ru) (ln fn : Int) (h : AH) (s : Wr0) (vT vL : Value) (tgt : Wr0) (B : Nat) (h' : AH) : Prop :=
  ∃ s' vT' vL', Cw h' kp vN vR L R s' ln fn vT' vL' ∧ Rel s' tgt ∧ s.li.length ≤ s'.li.length ∧ s'.li.length ≤ B ∧ s'.tx.length ≤ s'.li.length ∧ Fc kp h h' vT vL vT' vL'
def NodeOk (fid : Nat) (kp : Nat) (vN vR : Value) (L : List (Nd × Value)) (R : List Ru) (ln fn : Int) (f k : Nat) : Prop :=
  ∀ (h : AH) (s u : Wr0) (vT vL : Value), Cw h kp vN vR L R s ln fn vT vL → Rel s u → s.li.length ≤ 20000 → s.tx.length ≤ s.li.length →
    CC Tryz.prog fid [.pointer (some ⟨kp, 0, none⟩), .int .i64 (k : Nat)] h (fun v h' => v = .tuple #[] ∧ StepP kp vN vR L R ln fn h s vT vL (comp (L.map Prod.fst) f k u) (max s.li.length (400 + 40 * (k + 1)) + 1) h')
theorem Rel.put (r : Rel s u) (op a : Int) : Rel (putI s op a) (putI u op a) := r.len (by rw [putI_len]; omega) (by rw [putI_len]; omega) (fun e => by rw [e])
/-- A place that is filled in later. -/
theorem Rel.patch {s2 u2 s4 u4 : Wr0} (r2 : Rel s2 u2) (r4 : Rel s4 u4) (hs : s2.li.length ≤ s4.li.length) (hu : u2.li.length ≤ u4.li.length) {a b : Int} (hab : s4 = u4 → a = b) : Rel (setArg s4 s2.li.length a) (setArg u4 u2.li.length b) := by
  rcases r2 with e | ⟨x, y⟩
  · rcases r4 with e4 | ⟨x, y⟩
    · left; rw [e, e4, hab e4]
    · right; rw [setArg_len, setArg_len]; exact ⟨x, y⟩
  · right; rw [setArg_len, setArg_len]; exact ⟨by omega, by omega⟩
theorem setArg_tx (u : Wr0) (z : Nat) (a : Int) : (setArg u z a).tx = u.tx := rfl
theorem comp_if {N : List Nd} {f k : Nat} {x : Nd} (hx : nd N k = x) (hop : x.op = 22) (u : Wr0) : comp N (f + 1) k u =
    (if x.kids.length = 3 then setArg (comp N f (kidN x 2) (setArg (putI (comp N f (kidN x 1) (putI (comp N f (kidN x 0) u) 21 0)) 22 0) (comp N f (kidN x 0) u).li.length ((comp N f (kidN x 1) (putI (comp N f (kidN x 0) u) 21 0)).li.length + 1 : Nat))) (comp N f (kidN x 1) (putI (comp N f (kidN x 0) u) 21 0)).li.length ((comp N f (kidN x 2) (setArg (putI (comp N f (kidN x 1) (putI (comp N f (kidN x 0) u) 21 0)) 22 0) (comp N f (kidN x 0) u).li.length ((comp N f (kidN x 1) (putI (comp N f (kidN x 0) u) 21 0)).li.length + 1 : Nat))).li.length : Nat)
      else setArg (comp N f (kidN x 1) (putI (comp N f (kidN x 0) u) 21 0)) (comp N f (kidN x 0) u).li.length ((comp N f (kidN x 1) (putI (comp N f (kidN x 0) u) 21 0)).li.length : Nat)) := by
  show (let x := nd N k; if x.op = 22 then _ else _) = _
  simp only [hx]
  rw [if_pos hop]
theorem comp_no {N : List Nd} {f k : Nat} {x : Nd} (hx : nd N k = x) (hop : x.op ≠ 22) (u : Wr0) : comp N (f + 1) k u = ownI x (x.kids.foldl (fun u k => comp N f k.toNat u) u) := by
  show (let x := nd N k; if x.op = 22 then _ else _) = _
  simp only [hx]
  rw [if_neg hop]
end Go.Proofs.YtdlpdfclljnmhaaGreat
namespace Go.Proofs.YtdlpdfclljnmhaaGreat
open Go Go.Sim Go.Proofs
set_option linter.unusedSimpArgs false
set_option linter.unusedVariables false
set_option maxRecDepth 100000
set_option maxHeartbeats 1000000
variable {kp : Nat} {vN vR vT vL vT' vL' vT2 vL2 : Value} {L : List (Nd × Value)} {R : List Ru} {s s' s2 u u' t : Wr0} {ln fn : Int} {h h1 h2 h' : AH}
/-- A kid of a node, read. -/
theorem kid_rd (c : Cw h kp vN vR L R s ln fn vT vL) {x : Nd} {kv : Value} (hx : (x, kv) ∈ L) {a k : Nat} (ha : a < x.kids.length) (e : x.kids.getD a 0 = (k : Int)) : ∃ id off q, kv = .slice (some ⟨id, off, none⟩) x.kids.length q ∧ id < h.n ∧ rd1 h id (off + a * 1) = some (.int .i64 (k : Nat)) := by
  obtain ⟨id, off, q, e1, l, r⟩ := (c.rd.kids _ hx).el (fun _ => rfl) ha
  refine ⟨id, off, q, e1, l, ?_⟩
  have : x.kids[a] = (k : Int) := by rw [← e]; simp [List.getD_eq_getElem?_getD, ha]
  simp only [this] at r
  exact rd_1 r
theorem _root_.Go.Sim.Cw.newBox (c : Cw h kp vN vR L R s ln fn vT vL) (cs : List Value) : Bx (h.alloc (.cells cs .solo h.n)) kp h.n vT vL cs :=
  ⟨alloc_same _, Nat.lt_succ_self _, by have := c.lt; omega, fun e => by have := c.far (.inl e); omega, fun e => by have := c.far (.inr e); omega⟩
theorem choice_c (x : Nd) (kv : Value) (k g k0 k1 : Nat) (hx : (x, kv) ∈ L) (hN : nd (L.map Prod.fst) k = x) (hop : x.op = 22) (e0 : x.kids.getD 0 0 = (k0 : Int)) (e1 : x.kids.getD 1 0 = (k1 : Int)) (l0 : k0 < k) (l1 : k1 < k) (hk : k < 200)
    (hl : x.kids.length = 2 ∨ (x.kids.length = 3 ∧ ∃ k2 : Nat, x.kids.getD 2 0 = (k2 : Int) ∧ k2 < k)) (ih : ∀ j, j < k → NodeOk 78 kp vN vR L R ln fn g j)
    (h : AH) (c : Cw h kp vN vR L R s ln fn vT vL) (r : Rel s u) (hz : s.li.length ≤ 400) (ht : s.tx.length ≤ s.li.length) :
    CC Tryz.prog 113 [.pointer (some ⟨kp, 0, none⟩), .agg #[.int .i64 x.op, .string x.text, kv]] h (fun v h' => v = .tuple #[] ∧ StepP kp vN vR L R ln fn h s vT vL (comp (L.map Prod.fst) (g + 1) k u) (400 + 40 * (k + 1)) h') := by
  have hn := ih
  have yk := (c.rd.kids _ hx).one
  have kn0 : kidN x 0 = k0 := by unfold kidN; rw [e0]; rfl
  have kn1 : kidN x 1 = k1 := by unfold kidN; rw [e1]; rfl
  have hl2 : 2 ≤ x.kids.length := by omega
  rw [comp_if hN hop, kn0, kn1]
  have E0 := ih k0 l0
  have E1 := ih k1 l1
  unfold NodeOk at E0 E1
  have p0 := (Pre.refl h).alloc (.cells [.int .i64 x.op, .string x.text, kv] .solo h.n)
  have c1 := c.pre p0
  have f1 := c.fc p0
  have b1 := c.newBox [.int .i64 x.op, .string x.text, kv]
  refine CC.ofN Tryz.func113 Tryz.ntmps113 Tryz.results113 rfl (by decide) (by kernel_rfl) ?_
  simp (maxSteps := 1000000) -implicitDefEqProofs only [push_cast, seval, yk]
  generalize (h.alloc (.cells [.int .i64 x.op, .string x.text, kv] .solo h.n)) = h1 at *
  have ob1 := b1.ob
  have lb1 := b1.lt
  have z0 := kid_rd c1 hx (a := 0) (by omega) e0
  with_reducible refine Exists.elim z0 (fun id z0 => ?_)
  with_reducible refine Exists.elim z0 (fun off z0 => ?_)
  with_reducible refine Exists.elim z0 (fun q z0 => ?_)
  have ekv := z0.1
  have lid := z0.2.1
  have r0 := z0.2.2
  clear z0
  subst ekv
  rw [Nat.zero_mul, Nat.add_zero] at r0
  simp (maxSteps := 1000000) -implicitDefEqProofs only [push_cast, seval, ob1, rd_of ob1, rd1_of ob1, lb1, r0, lid, yk]
  repeat (with_reducible refine And.intro ?_ ?_; · (first | omega | decide))
  with_reducible refine CC.mono (E0 h1 s u vT vL c1 r (by omega) ht) (fun v h2 hv => ?_)
  have ev := hv.1
  have st := hv.2
  clear hv
  subst ev
  unfold StepP at st
  with_reducible refine Exists.elim st (fun s2 st => ?_)
  with_reducible refine Exists.elim st (fun vT2 st => ?_)
  with_reducible refine Exists.elim st (fun vL2 st => ?_)
  have c2 := st.1
  have r2 := st.2.1
  have ge2 := st.2.2.1
  have le2 := st.2.2.2.1
  have tx2 := st.2.2.2.2.1
  have f2 := st.2.2.2.2.2
  clear st
  have b2 := b1.fc f2
  simp (maxSteps := 1000000) -implicitDefEqProofs only [push_cast, seval]
  with_reducible refine CC.mono (kput_c h2 c2 21 0 (by omega)) (fun v h3 hv => ?_)
  have ev := hv.1
  have st := hv.2
  clear hv
  subst ev
  with_reducible refine Exists.elim st (fun vL3 st => ?_)
  have c3 := st.1
  have f3 := st.2
  clear st
  have b3 := b2.fc f3
  have r3 := Rel.put r2 21 0
  have ob3 := b3.ob
  have lb3 := b3.lt
  have z1 := kid_rd c3 hx (a := 1) (by omega) e1
  have z1 : id < h3.n ∧ rd1 h3 id (off + 1 * 1) = some (.int .i64 (k1 : Nat)) := by
    obtain ⟨a, b, d, e, l, q⟩ := z1
    injection e with e _ _
    injection e with e
    injection e with e1 e2
    subst e1 e2
    exact ⟨l, q⟩
  have li3 := z1.1
  have q3 := z1.2
  clear z1
  simp (maxSteps := 1000000) -implicitDefEqProofs only [push_cast, seval, ob3, rd_of ob3, rd1_of ob3, lb3, q3, li3, yk]
  repeat (with_reducible refine And.intro ?_ ?_; · (first | omega | decide))
  have le3 := putI_len s2 21 0
  have te3 : (putI s2 21 0).tx = s2.tx := rfl
  with_reducible refine CC.mono (CC.wf (E1 h3 _ _ vT2 vL3 c3 r3 (by omega) (by rw [te3]; omega))) (fun v h4 hv => ?_)
  have wf4 := hv.2
  have ev := hv.1.1
  have st := hv.1.2
  clear hv
  subst ev
  unfold StepP at st
  with_reducible refine Exists.elim st (fun s4 st => ?_)
  with_reducible refine Exists.elim st (fun vT4 st => ?_)
  with_reducible refine Exists.elim st (fun vL4 st => ?_)
  have c4 := st.1
  have r4 := st.2.1
  have ge4 := st.2.2.1
  have le4 := st.2.2.2.1
  have tx4 := st.2.2.2.2.1
  have f4 := st.2.2.2.2.2
  clear st
  have b4 := b3.fc f4
  have ob4 := b4.ob
  have lb4 := b4.lt
  have pt4 := c4.pt
  have lk4 := c4.lt
  have gu4 := comp_len (L.map Prod.fst) g k1 (putI (comp (L.map Prod.fst) g k0 u) 21 0)
  rw [putI_len] at gu4
  with_reducible refine Or.elim hl (fun hl => ?_) (fun hl => ?_)
  · have d3 : decide ((x.kids.length : Int) = 3) = false := decide_eq_false (by omega)
    simp (maxSteps := 1000000) -implicitDefEqProofs only [push_cast, seval, ob4, rd_of ob4, rd1_of ob4, lb4, d3, yk]
    rw [if_neg (by omega)]
    have y4 := c4.ones.2.2.2
    have o4 := GrL.open c4.gL (li_len s4) (by omega) (by decide)
    with_reducible refine Exists.elim o4 (fun il o4 => ?_)
    with_reducible refine Exists.elim o4 (fun ol o4 => ?_)
    have el := o4.1
    have ow4 := o4.2.1
    clear o4
    subst el
    have ll := ow4.lt
    refine WC.draw' (by kernel_rfl) (by kernel_rfl) (.q 0 (.q 1 (.q 2 (.q 3 (.q 4 (.q 5 (.q 6 (.q 7 (.q 8 (.q 9 (.q 10 (.q 11 (.q 12 (.q 13 (.a 14 false (.done)))))))))))))))) (by kernel_rfl) ?_
    simp (maxSteps := 1000000) -implicitDefEqProofs only [push_cast, seval, pt4, rd_of pt4, rd1_of pt4, lk4, ll]
    repeat (with_reducible refine And.intro ?_ ?_; · (first | omega | decide))
    refine (show Own _ il ol s4.li.length 2 _ from ow4).wr (lo := s2.li.length * 2 + 1) (vs := [.int .i64 (s4.li.length : Nat)]) (by simp only [List.length_cons, List.length_nil]; omega) (fun h5 o5 x5 => ?_)
    have ca := c4.arg wf4 (z := s2.li.length) (by omega) rfl rfl o5 x5
    have ek := ca.1.pt.trans pt4.symm
    simp (maxSteps := 1000000) -implicitDefEqProofs only [push_cast, seval]
    refine And.intro ek (And.intro ek ?_)
    have gs : (setArg s4 s2.li.length (s4.li.length : Nat)).li.length = s4.li.length := setArg_len _ _ _
    exact ⟨_, vT4, _, ca.1, Rel.patch r2 r4 (by omega) (by omega) (fun e => by rw [e]), by rw [gs]; omega, by rw [gs]; omega, by rw [gs, setArg_tx]; omega, f1.trans (f2.trans (f3.trans (f4.trans ca.2)))⟩
  · have d3 : decide ((x.kids.length : Int) = 3) = true := decide_eq_true (by omega)
    have hl3 := hl.1
    have hk2 := hl.2
    with_reducible refine Exists.elim hk2 (fun k2 hk2 => ?_)
    have e2 := hk2.1
    have l2 := hk2.2
    clear hk2 hl
    have kn2 : kidN x 2 = k2 := by unfold kidN; rw [e2]; rfl
    have E2 := ih k2 l2
    unfold NodeOk at E2
    rw [if_pos hl3, kn2]
    simp (maxSteps := 1000000) -implicitDefEqProofs only [push_cast, seval, ob4, rd_of ob4, rd1_of ob4, lb4, d3, yk]
    with_reducible refine CC.mono (CC.wf (kput_c h4 c4 22 0 (by omega))) (fun v h5 hv => ?_)
    have wf5 := hv.2
    have ev := hv.1.1
    have st := hv.1.2
    clear hv
    subst ev
    with_reducible refine Exists.elim st (fun vL5 st => ?_)
    have c5 := st.1
    have f5 := st.2
    clear st
    have b5 := b4.fc f5
    have r5 := Rel.put r4 22 0
    have le5 := putI_len s4 22 0
    have te5 : (putI s4 22 0).tx = s4.tx := rfl
    have pt5 := c5.pt
    have lk5 := c5.lt
    have o5 := GrL.open c5.gL (li_len _) (by omega) (by decide)
    with_reducible refine Exists.elim o5 (fun il o5 => ?_)
    with_reducible refine Exists.elim o5 (fun ol o5 => ?_)
    have el := o5.1
    have ow5 := o5.2.1
    clear o5
    rw [le5] at el ow5
    subst el
    have ll := ow5.lt
    have w5 : ((s4.li.length + 1 : Nat) : Int) = (s4.li.length : Int) + 1 := by omega
    have y5 := c5.ones.2.2.2
    simp (maxSteps := 1000000) -implicitDefEqProofs only [push_cast, seval]
    refine WC.draw' (by kernel_rfl) (by kernel_rfl) (.q 0 (.q 1 (.q 2 (.q 3 (.q 4 (.q 5 (.q 6 (.q 7 (.q 8 (.q 9 (.q 10 (.q 11 (.q 12 (.q 13 (.a 14 false (.done)))))))))))))))) (by kernel_rfl) ?_
    simp (maxSteps := 1000000) -implicitDefEqProofs only [push_cast, seval, pt5, rd_of pt5, rd1_of pt5, lk5, ll]
    repeat (with_reducible refine And.intro ?_ ?_; · (first | omega | decide))
    rw [← w5]
    refine (show Own _ il ol (s4.li.length + 1) 2 _ from ow5).wr (lo := s2.li.length * 2 + 1) (vs := [.int .i64 ((s4.li.length + 1 : Nat) : Int)]) (by simp only [List.length_cons, List.length_nil]; omega) (fun h6 o6 x6 => ?_)
    have ca := c5.arg wf5 (z := s2.li.length) (by omega) le5.symm rfl o6 x6
    have ek := ca.1.pt.trans pt5.symm
    simp (maxSteps := 1000000) -implicitDefEqProofs only [push_cast, seval]
    refine And.intro ek (And.intro ek ?_)
    have b6 := b5.fc ca.2
    have ob6 := b6.ob
    have lb6 := b6.lt
    have c6 := ca.1
    have f6 := ca.2
    clear ca
    have r6 : Rel (setArg (putI s4 22 0) s2.li.length ((s4.li.length + 1 : Nat) : Int)) (setArg (putI (comp (L.map Prod.fst) g k1 (putI (comp (L.map Prod.fst) g k0 u) 21 0)) 22 0) (comp (L.map Prod.fst) g k0 u).li.length ((comp (L.map Prod.fst) g k1 (putI (comp (L.map Prod.fst) g k0 u) 21 0)).li.length + 1 : Nat)) :=
      Rel.patch r2 r5 (by omega) (by rw [putI_len]; omega) (fun e => by
        have e2 := congrArg (fun q => q.li.length) e
        simp only [putI_len] at e2
        omega)
    have z2 := kid_rd c6 hx (a := 2) (by omega) e2
    have z2 : id < h6.n ∧ rd1 h6 id (off + 2 * 1) = some (.int .i64 (k2 : Nat)) := by
      obtain ⟨a, b, d, e, l, q⟩ := z2
      injection e with e _ _
      injection e with e
      injection e with e1 e2
      subst e1 e2
      exact ⟨l, q⟩
    have li6 := z2.1
    have q6 := z2.2
    clear z2
    have gs : (setArg (putI s4 22 0) s2.li.length ((s4.li.length + 1 : Nat) : Int)).li.length = s4.li.length + 1 := by rw [setArg_len, putI_len]
    have gt : (setArg (putI s4 22 0) s2.li.length ((s4.li.length + 1 : Nat) : Int)).tx = s4.tx := rfl
    simp (maxSteps := 1000000) -implicitDefEqProofs only [push_cast, seval, ob6, rd_of ob6, rd1_of ob6, lb6, q6, li6, yk]
    repeat (with_reducible refine And.intro ?_ ?_; · (first | omega | decide))
    with_reducible refine CC.mono (CC.wf (E2 h6 _ _ vT4 _ c6 r6 (by omega) (by rw [gt]; omega))) (fun v h7 hv => ?_)
    have wf7 := hv.2
    have ev := hv.1.1
    have st := hv.1.2
    clear hv
    subst ev
    unfold StepP at st
    with_reducible refine Exists.elim st (fun s7 st => ?_)
    with_reducible refine Exists.elim st (fun vT7 st => ?_)
    with_reducible refine Exists.elim st (fun vL7 st => ?_)
    have c7 := st.1
    have r7 := st.2.1
    have ge7 := st.2.2.1
    have le7 := st.2.2.2.1
    have tx7 := st.2.2.2.2.1
    have f7 := st.2.2.2.2.2
    clear st
    have pt7 := c7.pt
    have lk7 := c7.lt
    have y7 := c7.ones.2.2.2
    have o7 := GrL.open c7.gL (li_len _) (by omega) (by decide)
    with_reducible refine Exists.elim o7 (fun il7 o7 => ?_)
    with_reducible refine Exists.elim o7 (fun ol7 o7 => ?_)
    have el := o7.1
    have ow7 := o7.2.1
    clear o7
    subst el
    have ll7 := ow7.lt
    simp (maxSteps := 1000000) -implicitDefEqProofs only [push_cast, seval]
    refine WC.draw' (by kernel_rfl) (by kernel_rfl) (.q 0 (.q 1 (.q 2 (.q 3 (.q 4 (.q 5 (.q 6 (.q 7 (.q 8 (.q 9 (.q 10 (.q 11 (.q 12 (.q 13 (.a 14 false (.done)))))))))))))))) (by kernel_rfl) ?_
    simp (maxSteps := 1000000) -implicitDefEqProofs only [push_cast, seval, pt7, rd_of pt7, rd1_of pt7, lk7, ll7]
    repeat (with_reducible refine And.intro ?_ ?_; · (first | omega | decide))
    refine (show Own _ il7 ol7 s7.li.length 2 _ from ow7).wr (lo := s4.li.length * 2 + 1) (vs := [.int .i64 (s7.li.length : Nat)]) (by simp only [List.length_cons, List.length_nil]; omega) (fun h8 o8 x8 => ?_)
    have ca := c7.arg wf7 (z := s4.li.length) (by omega) rfl rfl o8 x8
    have ek := ca.1.pt.trans pt7.symm
    simp (maxSteps := 1000000) -implicitDefEqProofs only [push_cast, seval]
    refine And.intro ek (And.intro ek ?_)
    have gs8 : (setArg s7 s4.li.length (s7.li.length : Nat)).li.length = s7.li.length := setArg_len _ _ _
    have gu7 := comp_len (L.map Prod.fst) g k2 (setArg (putI (comp (L.map Prod.fst) g k1 (putI (comp (L.map Prod.fst) g k0 u) 21 0)) 22 0) (comp (L.map Prod.fst) g k0 u).li.length ((comp (L.map Prod.fst) g k1 (putI (comp (L.map Prod.fst) g k0 u) 21 0)).li.length + 1 : Nat))
    rw [setArg_len, putI_len] at gu7
    exact ⟨_, vT7, _, ca.1, Rel.patch r4 r7 (by omega) (by omega) (fun e => by rw [e]; push_cast; rfl), by rw [gs8]; omega, by rw [gs8]; omega, by rw [gs8, setArg_tx]; omega, f1.trans (f2.trans (f3.trans (f4.trans (f5.trans (f6.trans (f7.trans ca.2))))))⟩
end Go.Proofs.YtdlpdfclljnmhaaGreat
namespace Go.Proofs.YtdlpdfclljnmhaaGreat
open Go Go.Sim Go.Proofs
set_option linter.unusedSimpArgs false
set_option linter.unusedVariables false
set_option maxRecDepth 100000
set_option maxHeartbeats 1000000
variable {kp : Nat} {vN vR vT vL vT' vL' vT2 vL2 : Value} {L : List (Nd × Value)} {R : List Ru} {s s' s2 u u' t : Wr0} {ln fn : Int} {h h1 h2 h' : AH}
theorem opOf_d (op : Int) (h : AH) (h0 : op = 24 ∨ op = 17) : CD Tryz.prog 114 [.int .i64 op] h (.int .i64 23) h := by
  refine CD.quiet ?_ (low_int _ _ _)
  rcases h0 with rfl | rfl
  all_goals
    refine CC.ofN Tryz.func114 Tryz.ntmps114 Tryz.results114 rfl (by decide) (by kernel_rfl) ?_
    simp (maxSteps := 1000000) -implicitDefEqProofs only [push_cast, seval]
    repeat' (first | with_reducible (first | exact Keep.refl _ _ | assumption | exact byte_lt _ _ | apply Keep.alloc | (refine Keep.set ?_ ?_; rotate_left; · omega) | apply Pre.alloc | apply Pre.set | exact Pre.refl _ | exact le_alloc _ | (refine Pre.keep ?_; assumption) | (refine Pre.n ?_; assumption)) | ((with_reducible (first | refine bcase_d (fun hb => ?_) (fun hb => ?_) | refine bcase_mk (fun hb => ?_) (fun hb => ?_))) <;> try simp (maxSteps := 1000000) -implicitDefEqProofs only [push_cast, seval]) | with_reducible refine And.intro ?_ ?_ | omega | (simp only [alloc_n, set_n, kill_n]; omega) | (exfalso; omega))
def foldC (N : List Nd) (f : Nat) (kids : List Int) (u : Wr0) : Wr0 := kids.foldl (fun u k => comp N f k.toNat u) u
theorem foldC_succ {N : List Nd} {f : Nat} {kids : List Int} {u : Wr0} {i k : Nat} (hi : i < kids.length) (e : kids.getD i 0 = (k : Int)) : foldC N f (kids.take (i + 1)) u = comp N f k (foldC N f (kids.take i) u) := by
  have e2 : kids[i] = (k : Int) := by rw [← e]; simp [List.getD_eq_getElem?_getD, hi]
  unfold foldC
  rw [List.take_add_one, List.getElem?_eq_getElem hi, Option.toList_some, List.foldl_append, e2]
  rfl
theorem putT_tx (u : Wr0) (s : ByteArray) : (putT u s).tx.length ≤ u.tx.length + 1 := by
  unfold putT
  split
  · omega
  · simp
/-- A node's own instruction. -/
theorem Rel.own (r : Rel s u) (x : Nd) : Rel (ownI x s) (ownI x u) := r.len (ownI_len x s) (ownI_len x u) (fun e => by rw [e])
theorem node_i (hok : programOk ⟨L.map Prod.fst, R⟩ = true) : ∀ k, k < L.length → ∀ f, k < f → NodeOk 78 kp vN vR L R ln fn f k := by
  have okG := OkG.of hok
  intro k
  induction k using Nat.strongRecOn with
  | ind k ih =>
  intro hk f hf
  obtain ⟨g, rfl⟩ : ∃ g, f = g + 1 := ⟨f - 1, by omega⟩
  have ihg : ∀ j, j < k → NodeOk 78 kp vN vR L R ln fn g j := fun j hj => ih j hj (by omega) g (by omega)
  have hL := okG.n
  have klen := okG.klen k hk
  have okN := OkN.of hok hk
  have hN : nd (L.map Prod.fst) k = L[k].1 := getD_map L k hk
  unfold NodeOk
  intro h s u vT vL c r hz ht
  have pt := c.pt
  have lt := c.lt
  have y1 := c.ones.1
  obtain ⟨iN, oN, qN, eN, lN, rN⟩ := c.rd.nodes.el (fun _ => rfl) hk
  simp only [encD] at rN
  have r0 := (rd_3 rN).1
  have r1 := (rd_3 rN).2.1
  have r2 := (rd_3 rN).2.2
  have hx : (L[k].1, L[k].2) ∈ L := List.getElem_mem hk
  have u1 := (c.rd.kids _ hx).one
  generalize L[k].1 = x at *
  generalize L[k].2 = kv at *
  have p0 : Pre h ((h.alloc (.cells [.int .i64 0, .string ⟨#[]⟩, .slice none 0 0] .solo h.n)).set h.n (.cells [.int .i64 x.op, .string x.text, kv] .solo h.n)) := ((Pre.refl h).alloc _).set (Nat.le_refl _) _
  have c1 := c.pre p0
  have f1 := c.fc p0
  have b1 : Bx ((h.alloc (.cells [.int .i64 0, .string ⟨#[]⟩, .slice none 0 0] .solo h.n)).set h.n (.cells [.int .i64 x.op, .string x.text, kv] .solo h.n)) kp h.n vT vL [.int .i64 x.op, .string x.text, kv] :=
    ⟨set_same _ _, Nat.lt_succ_self _, by omega, fun e => by have := c.far (.inl e); omega, fun e => by have := c.far (.inr e); omega⟩
  refine CC.ofN Tryz.func78 Tryz.ntmps78 Tryz.results78 rfl (by decide) (by kernel_rfl) ?_
  subst eN
  simp (maxSteps := 1000000) -implicitDefEqProofs only [push_cast, seval, pt, rd_of pt, rd1_of pt, lt, y1, lN, rN, r0, r1, r2, u1]
  repeat (with_reducible refine And.intro ?_ ?_; · (first | omega | decide))
  generalize ((h.alloc (.cells [.int .i64 0, .string ⟨#[]⟩, .slice none 0 0] .solo h.n)).set h.n (.cells [.int .i64 x.op, .string x.text, kv] .solo h.n)) = h1 at *
  have ob1 := b1.ob
  have lb1 := b1.lt
  with_reducible refine CD.to (full_c h1 c1) ?_
  simp (maxSteps := 1000000) -implicitDefEqProofs only [push_cast, seval]
  with_reducible refine bcase_d (fun hfull => ?_) (fun hfull => ?_)
  · simp (maxSteps := 1000000) -implicitDefEqProofs only [push_cast, seval]
    have cl := comp_len (L.map Prod.fst) (g + 1) k u
    refine ⟨s, vT, vL, c1, ?_, Nat.le_refl _, by omega, ht, f1⟩
    rcases r with e | ⟨a, b⟩
    · subst e; exact .inr ⟨by omega, by omega⟩
    · exact .inr ⟨a, by omega⟩
  have hs250 : s.li.length ≤ 250 := by omega
  simp (maxSteps := 1000000) -implicitDefEqProofs only [push_cast, seval, ob1, rd_of ob1, rd1_of ob1, lb1]
  with_reducible refine bcase_d (fun hop => ?_) (fun hop => ?_)
  · simp (maxSteps := 1000000) -implicitDefEqProofs only [push_cast, seval, ob1, rd_of ob1, rd1_of ob1, lb1, u1]
    have hlen := okN.len
    rw [hop] at hlen
    have hlen : 2 ≤ x.kids.length ∧ x.kids.length ≤ 3 := by
      simp only [manyP, inB, Bool.and_eq_true, decide_eq_true_eq, if_true] at hlen; omega
    have g0 := okN.kid 0 (by omega)
    have g1 := okN.kid 1 (by omega)
    have g2 := fun e : x.kids.length = 3 => okN.kid 2 (by omega)
    with_reducible refine Exists.elim g0 (fun k0 g0 => ?_)
    with_reducible refine Exists.elim g1 (fun k1 g1 => ?_)
    have hl : x.kids.length = 2 ∨ (x.kids.length = 3 ∧ ∃ k2 : Nat, x.kids.getD 2 0 = (k2 : Int) ∧ k2 < k) := by
      by_cases e : x.kids.length = 3
      · obtain ⟨k2, a, b, _⟩ := g2 e
        exact .inr ⟨e, k2, a, b⟩
      · exact .inl (by omega)
    with_reducible refine CC.mono (choice_c x kv k g k0 k1 hx hN hop g0.1 g1.1 g0.2.1 g1.2.1 (by omega) hl ihg h1 c1 r (by omega) ht) (fun v h2 hv => ?_)
    have ev := hv.1
    have st := hv.2
    clear hv
    subst ev
    unfold StepP at st
    with_reducible refine Exists.elim st (fun s2 st => ?_)
    with_reducible refine Exists.elim st (fun vT2 st => ?_)
    with_reducible refine Exists.elim st (fun vL2 st => ?_)
    simp (maxSteps := 1000000) -implicitDefEqProofs only [push_cast, seval]
    exact ⟨s2, vT2, vL2, st.1, st.2.1, st.2.2.1, by have := st.2.2.2.1; omega, st.2.2.2.2.1, f1.trans st.2.2.2.2.2⟩
  have et : comp (L.map Prod.fst) (g + 1) k u = ownI x (foldC (L.map Prod.fst) g x.kids u) := comp_no hN hop u
  rw [et]
  have kr : RdV h1 kv 1 encZ x.kids := c1.rd.kids _ hx
  have kf := kr.rde (fun _ => rfl)
  clear kr
  with_reducible refine Exists.elim kf (fun Ak kf => ?_)
  with_reducible refine Exists.elim kf (fun ck kf => ?_)
  have ek := kf.1
  clear kf
  subst ek
  simp (maxSteps := 1000000) -implicitDefEqProofs only [push_cast, seval, ob1, rd_of ob1, rd1_of ob1, lb1, u1]
  refine WC.loopA (by kernel_rfl) [28] [6, 29, 30, 31, 32, 33, 34, 35] (fun i : Nat => [.int .i64 (i : Nat)]) (fun i h' => i ≤ x.kids.length ∧ (∃ s', ∃ vT' vL', Cw h' kp (.slice (some ⟨iN, oN, none⟩) L.length qN) vR L R s' ln fn vT' vL' ∧ Rel s' (foldC (L.map Prod.fst) g (x.kids.take i) u) ∧ s.li.length ≤ s'.li.length ∧ s'.li.length ≤ 400 + 40 * k + i ∧ s'.tx.length ≤ s'.li.length ∧ Fc kp h h' vT vL vT' vL' ∧ Bx h' kp h.n vT' vL' [.int .i64 x.op, .string x.text, .slice Ak x.kids.length ck])) (fun i => x.kids.length - i) 0 (by kernel_rfl) ⟨Nat.zero_le _, s, vT, vL, c1, r, Nat.le_refl _, by omega, ht, f1, b1⟩ ?_
  intro i gg h2 hJ
  have hi := hJ.1
  have st := hJ.2
  clear hJ c1 f1 b1 ob1 lb1
  with_reducible refine Exists.elim st (fun s2 st => ?_)
  with_reducible refine Exists.elim st (fun vT2 st => ?_)
  with_reducible refine Exists.elim st (fun vL2 st => ?_)
  have c2 := st.1
  have r2' := st.2.1
  have ge2 := st.2.2.1
  have le2 := st.2.2.2.1
  have tx2 := st.2.2.2.2.1
  have f2 := st.2.2.2.2.2.1
  have b2 := st.2.2.2.2.2.2
  clear st
  have ob2 := b2.ob
  have lb2 := b2.lt
  simp (maxSteps := 1000000) -implicitDefEqProofs only [push_cast, seval]
  with_reducible refine bcase_d (fun hb => ?_) (fun hb => ?_)
  · have hi' : i < x.kids.length := by omega
    have kk := okN.kid i hi'
    with_reducible refine Exists.elim kk (fun j kk => ?_)
    have ej := kk.1
    have lj := kk.2.1
    have fs := foldC_succ (N := L.map Prod.fst) (f := g) (u := u) hi' ej
    have Ej := ihg j lj
    unfold NodeOk at Ej
    have z0 := kid_rd c2 hx hi' ej
    with_reducible refine Exists.elim z0 (fun id z0 => ?_)
    with_reducible refine Exists.elim z0 (fun off z0 => ?_)
    with_reducible refine Exists.elim z0 (fun q z0 => ?_)
    have ekv := z0.1
    injection ekv with ekv _ _
    subst ekv
    have lid := z0.2.1
    have rk := z0.2.2
    clear z0
    simp (maxSteps := 1000000) -implicitDefEqProofs only [push_cast, seval, rk, lid]
    repeat (with_reducible refine And.intro ?_ ?_; · (first | omega | decide))
    with_reducible refine CC.mono (Ej h2 s2 _ vT2 vL2 c2 r2' (by omega) tx2) (fun v h3 hv => ?_)
    have ev := hv.1
    have st := hv.2
    clear hv
    subst ev
    unfold StepP at st
    with_reducible refine Exists.elim st (fun s3 st => ?_)
    with_reducible refine Exists.elim st (fun vT3 st => ?_)
    with_reducible refine Exists.elim st (fun vL3 st => ?_)
    simp (maxSteps := 1000000) -implicitDefEqProofs only [push_cast, seval]
    rw [wrapSucc (by omega)]
    refine ⟨i + 1, by kernel_rfl, ⟨by omega, s3, vT3, vL3, st.1, by rw [fs]; exact st.2.1, by have := st.2.2.1; omega, by have := st.2.2.2.1; omega, st.2.2.2.2.1, f2.trans st.2.2.2.2.2, b2.fc st.2.2.2.2.2⟩, by omega⟩
  have ei : i = x.kids.length := by omega
  rw [ei, List.take_length] at r2'
  rw [ei] at le2
  generalize foldC (L.map Prod.fst) g x.kids u = U at *
  have ro := Rel.own r2' x
  simp (maxSteps := 1000000) -implicitDefEqProofs only [push_cast, seval, ob2, rd_of ob2, rd1_of ob2, lb2]
  have op1 := okN.op
  by_cases h24 : x.op = 24
  · with_reducible refine CD.to (opOf_d x.op h2 (.inl h24)) ?_
    have d24 : decide (x.op = 24) = true := decide_eq_true h24
    simp (maxSteps := 1000000) -implicitDefEqProofs only [push_cast, seval, ob2, rd_of ob2, rd1_of ob2, lb2, d24]
    have eo : ∀ t, ownI x t = t := fun t => by unfold ownI; rw [if_pos h24]
    rw [eo]
    exact ⟨s2, vT2, vL2, c2, r2', ge2, by omega, tx2, f2⟩
  have d24 : decide (x.op = 24) = false := decide_eq_false h24
  by_cases h17 : x.op = 17
  · with_reducible refine CD.to (opOf_d x.op h2 (.inr h17)) ?_
    have d17 : decide (x.op = 17) = true := decide_eq_true h17
    have eo : ∀ t, ownI x t = putI t 16 x.kids.length := fun t => by unfold ownI; rw [if_neg h24, if_pos h17]
    rw [eo, eo] at ro
    rw [eo]
    simp (maxSteps := 1000000) -implicitDefEqProofs only [push_cast, seval, ob2, rd_of ob2, rd1_of ob2, lb2, d24, d17]
    with_reducible refine CC.mono (kput_c h2 c2 16 x.kids.length (by omega)) (fun v h3 hv => ?_)
    have ev := hv.1
    have st := hv.2
    clear hv
    subst ev
    with_reducible refine Exists.elim st (fun vL3 st => ?_)
    have gl := putI_len s2 16 x.kids.length
    simp (maxSteps := 1000000) -implicitDefEqProofs only [push_cast, seval]
    exact ⟨_, vT2, vL3, st.1, ro, by omega, by omega, by show s2.tx.length ≤ _; omega, f2.trans st.2⟩
  have d17 : decide (x.op = 17) = false := decide_eq_false h17
  with_reducible refine CD.to (opOf_c x.op h2 op1 hop h24 h17) ?_
  simp (maxSteps := 1000000) -implicitDefEqProofs only [push_cast, seval, ob2, rd_of ob2, rd1_of ob2, lb2, d24, d17]
  with_reducible refine CD.to (hasText_c _ _) ?_
  simp (maxSteps := 1000000) -implicitDefEqProofs only [push_cast, seval]
  with_reducible refine bcase_mk (fun htx => ?_) (fun htx => ?_)
  · have eo : ∀ t, ownI x t = putI (putT t x.text) (codeOp x.op) (txI t x.text) := fun t => by unfold ownI; rw [if_neg h24, if_neg h17, if_pos htx]
    rw [eo, eo] at ro
    rw [eo]
    simp (maxSteps := 1000000) -implicitDefEqProofs only [push_cast, seval, ob2, rd_of ob2, rd1_of ob2, lb2]
    with_reducible refine CC.mono (ktext_c h2 c2 x.text (by omega)) (fun v h3 hv => ?_)
    have ev := hv.1
    have st := hv.2
    clear hv
    subst ev
    with_reducible refine Exists.elim st (fun vT3 st => ?_)
    have c3 := st.1
    have f3 := st.2
    clear st
    have gt := putT_len s2 x.text
    have gtx := putT_tx s2 x.text
    simp (maxSteps := 1000000) -implicitDefEqProofs only [push_cast, seval]
    with_reducible refine CC.mono (kput_c h3 c3 (codeOp x.op) (txI s2 x.text : Nat) (by rw [gt]; omega)) (fun v h4 hv => ?_)
    have ev := hv.1
    have st := hv.2
    clear hv
    subst ev
    with_reducible refine Exists.elim st (fun vL4 st => ?_)
    have gl := putI_len (putT s2 x.text) (codeOp x.op) (txI s2 x.text : Nat)
    rw [gt] at gl
    simp (maxSteps := 1000000) -implicitDefEqProofs only [push_cast, seval]
    exact ⟨_, vT3, vL4, st.1, ro, by omega, by omega, by show (putT s2 x.text).tx.length ≤ _; omega, f2.trans (f3.trans st.2)⟩
  · have eo : ∀ t, ownI x t = putI t (codeOp x.op) 0 := fun t => by unfold ownI; rw [if_neg h24, if_neg h17, if_neg (by rw [htx]; simp)]
    rw [eo, eo] at ro
    rw [eo]
    simp (maxSteps := 1000000) -implicitDefEqProofs only [push_cast, seval]
    with_reducible refine CC.mono (kput_c h2 c2 (codeOp x.op) 0 (by omega)) (fun v h3 hv => ?_)
    have ev := hv.1
    have st := hv.2
    clear hv
    subst ev
    with_reducible refine Exists.elim st (fun vL3 st => ?_)
    have gl := putI_len s2 (codeOp x.op) 0
    simp (maxSteps := 1000000) -implicitDefEqProofs only [push_cast, seval]
    exact ⟨_, vT2, vL3, st.1, ro, by omega, by omega, by show s2.tx.length ≤ _; omega, f2.trans st.2⟩
end Go.Proofs.YtdlpdfclljnmhaaGreat
namespace Go.Proofs.YtdlpdfclljnmhaaGreat
open Go Go.Sim Go.Proofs
set_option linter.unusedSimpArgs false
set_option linter.unusedVariables false
set_option maxRecDepth 100000
set_option maxHeartbeats 1000000
variable {kp : Nat} {vN vR vT vL vT' vL' vT2 vL2 : Value} {L : List (Nd × Value)} {R : List Ru} {s s' s2 u u' t : Wr0} {ln fn : Int} {h h1 h2 h' : AH}
theorem compRules_succ {N : List Nd} {w : Int} {u : Wr0} {i : Nat} (hi : i < R.length) : compRules N (R.take (i + 1)) w u = compRule N w (compRules N (R.take i) w u) R[i] := by
  unfold compRules
  rw [List.take_add_one, List.getElem?_eq_getElem hi, Option.toList_some, List.foldl_append]
  rfl
theorem rules_i (hok : programOk ⟨L.map Prod.fst, R⟩ = true) (w : Int) (h : AH) (c : Cw h kp vN vR L R s ln fn vT vL) (r : Rel s u) (hz : s.li.length ≤ 10000) (ht : s.tx.length ≤ s.li.length) :
    CC Tryz.prog 50 [.pointer (some ⟨kp, 0, none⟩), .int .i64 w] h (fun v h' => v = .tuple #[] ∧ StepP kp vN vR L R ln fn h s vT vL (compRules (L.map Prod.fst) R w u) (max s.li.length 8400 + 36) h') := by
  have okG := OkG.of hok
  have hL := okG.n
  have hR := okG.r
  have nodes := fun (k : Nat) (hk : k < L.length) => node_i (kp := kp) (vN := vN) (vR := vR) (ln := ln) (fn := fn) hok k hk (L.map Prod.fst).length (by rw [List.length_map]; exact hk)
  unfold NodeOk at nodes
  have pt := c.pt
  have lt := c.lt
  have y2 := c.ones.2.1
  have kf := c.rd.rules.rde (fun _ => rfl)
  obtain ⟨Ar, qr, er, _⟩ := kf
  refine CC.ofN Tryz.func50 Tryz.ntmps50 Tryz.results50 rfl (by decide) (by kernel_rfl) ?_
  subst er
  simp (maxSteps := 1000000) -implicitDefEqProofs only [push_cast, seval, pt, rd_of pt, rd1_of pt, lt, y2]
  refine WC.loopA (by kernel_rfl) [13] [5, 6, 14, 15, 16, 17, 18, 19, 20, 21, 22, 23, 24, 25, 26, 27, 28, 29, 30, 31, 32, 33, 34, 35, 36, 37, 38, 39, 40, 41, 42, 43, 44, 45, 46, 47, 48, 49, 50, 51, 52] (fun i : Nat => [.int .i64 (i : Nat)]) (fun i h' => i ≤ R.length ∧ (∃ s', ∃ vT' vL', Cw h' kp vN (.slice Ar R.length qr) L R s' ln fn vT' vL' ∧ Rel s' (compRules (L.map Prod.fst) (R.take i) w u) ∧ s.li.length ≤ s'.li.length ∧ s'.li.length ≤ max s.li.length 8400 + 3 * i ∧ s'.tx.length ≤ s'.li.length ∧ Fc kp h h' vT vL vT' vL')) (fun i => R.length - i) 0 (by kernel_rfl) ⟨Nat.zero_le _, s, vT, vL, c, r, Nat.le_refl _, by omega, ht, Fc.refl _ _ _ _⟩ ?_
  intro i gg h2 hJ
  have hi := hJ.1
  have st := hJ.2
  clear hJ
  with_reducible refine Exists.elim st (fun s2 st => ?_)
  with_reducible refine Exists.elim st (fun vT2 st => ?_)
  with_reducible refine Exists.elim st (fun vL2 st => ?_)
  have c2 := st.1
  have r2 := st.2.1
  have ge2 := st.2.2.1
  have le2 := st.2.2.2.1
  have tx2 := st.2.2.2.2.1
  have f2 := st.2.2.2.2.2
  clear st
  simp (maxSteps := 1000000) -implicitDefEqProofs only [push_cast, seval]
  with_reducible refine bcase_d (fun hb => ?_) (fun hb => ?_)
  rotate_left
  · have ei : i = R.length := by omega
    rw [ei, List.take_length] at r2
    simp (maxSteps := 1000000) -implicitDefEqProofs only [push_cast, seval]
    exact ⟨s2, vT2, vL2, c2, r2, ge2, by omega, tx2, f2⟩
  have hi' : i < R.length := by omega
  have cs := compRules_succ (R := R) (N := L.map Prod.fst) (w := w) (u := u) hi'
  have oact := okG.act i hi'
  have ocond := okG.cond i hi'
  have z0 := c2.rd.rules.el (fun _ => rfl) hi'
  generalize R[i] = X at *
  obtain ⟨wh, cd, ac⟩ := X
  simp only at oact ocond
  with_reducible refine Exists.elim z0 (fun id z0 => ?_)
  with_reducible refine Exists.elim z0 (fun off z0 => ?_)
  with_reducible refine Exists.elim z0 (fun q z0 => ?_)
  have ekv := z0.1
  injection ekv with ekv _ _
  subst ekv
  have lid := z0.2.1
  have rU := z0.2.2
  clear z0
  simp only [encU] at rU
  have q0 := (rd_3 rU).1
  have q1 := (rd_3 rU).2.1
  have q2 := (rd_3 rU).2.2
  have p0 : Pre h2 ((h2.alloc (.cells [.int .i64 0, .int .i64 0, .int .i64 0] .solo h2.n)).set h2.n (.cells [.int .i64 wh, .int .i64 cd, .int .i64 ac] .solo h2.n)) := ((Pre.refl h2).alloc _).set (Nat.le_refl _) _
  have c3 := c2.pre p0
  have f3 := c2.fc p0
  have b3 : Bx ((h2.alloc (.cells [.int .i64 0, .int .i64 0, .int .i64 0] .solo h2.n)).set h2.n (.cells [.int .i64 wh, .int .i64 cd, .int .i64 ac] .solo h2.n)) kp h2.n vT2 vL2 [.int .i64 wh, .int .i64 cd, .int .i64 ac] :=
    ⟨set_same _ _, Nat.lt_succ_self _, by have := c2.lt; omega, fun e => by have := c2.far (.inl e); omega, fun e => by have := c2.far (.inr e); omega⟩
  simp (maxSteps := 1000000) -implicitDefEqProofs only [push_cast, seval, rU, q0, q1, q2, lid]
  repeat (with_reducible refine And.intro ?_ ?_; · (first | omega | decide))
  generalize ((h2.alloc (.cells [.int .i64 0, .int .i64 0, .int .i64 0] .solo h2.n)).set h2.n (.cells [.int .i64 wh, .int .i64 cd, .int .i64 ac] .solo h2.n)) = h3 at *
  have ob3 := b3.ob
  have lb3 := b3.lt
  simp (maxSteps := 1000000) -implicitDefEqProofs only [push_cast, seval, ob3, rd_of ob3, rd1_of ob3, lb3]
  with_reducible refine bcase_d (fun hw => ?_) (fun hw => ?_)
  rotate_left
  · have ce : ∀ t, compRule (L.map Prod.fst) w t ⟨wh, cd, ac⟩ = t := fun t => by unfold compRule; rw [if_neg hw]
    rw [ce] at cs
    simp (maxSteps := 1000000) -implicitDefEqProofs only [push_cast, seval]
    rw [wrapSucc (by omega)]
    exact ⟨i + 1, by kernel_rfl, ⟨by omega, s2, vT2, vL2, c3, by rw [cs]; exact r2, ge2, by omega, tx2, f2.trans f3⟩, by omega⟩
  generalize compRules (L.map Prod.fst) (R.take i) w u = U at *
  with_reducible refine Exists.elim oact (fun a oact => ?_)
  have ea := oact.1
  have la := oact.2
  clear oact
  subst ea
  simp (maxSteps := 1000000) -implicitDefEqProofs only [push_cast, seval, ob3, rd_of ob3, rd1_of ob3, lb3]
  with_reducible refine bcase_d (fun hc => ?_) (fun hc => ?_)
  · have ce : compRule (L.map Prod.fst) w U ⟨wh, cd, (a : Int)⟩ = comp (L.map Prod.fst) (L.map Prod.fst).length a U := by
      unfold compRule; rw [if_pos hw, if_pos hc]; rfl
    rw [ce] at cs
    simp (maxSteps := 1000000) -implicitDefEqProofs only [push_cast, seval, ob3, rd_of ob3, rd1_of ob3, lb3]
    with_reducible refine CC.mono (nodes a la h3 s2 _ vT2 vL2 c3 r2 (by omega) tx2) (fun v h4 hv => ?_)
    have ev := hv.1
    have st := hv.2
    clear hv
    subst ev
    unfold StepP at st
    with_reducible refine Exists.elim st (fun s4 st => ?_)
    with_reducible refine Exists.elim st (fun vT4 st => ?_)
    with_reducible refine Exists.elim st (fun vL4 st => ?_)
    simp (maxSteps := 1000000) -implicitDefEqProofs only [push_cast, seval]
    rw [wrapSucc (by omega)]
    refine ⟨i + 1, by kernel_rfl, ⟨by omega, s4, vT4, vL4, st.1, by rw [cs]; exact st.2.1, by have := st.2.2.1; omega, by have := st.2.2.2.1; omega, st.2.2.2.2.1, f2.trans (f3.trans st.2.2.2.2.2)⟩, by omega⟩
  have hcm : ∃ m : Nat, cd = m ∧ m < L.length := by
    rcases ocond with e | e
    · omega
    · exact e
  with_reducible refine Exists.elim hcm (fun m hcm => ?_)
  have em := hcm.1
  have lm := hcm.2
  clear hcm ocond
  subst em
  have ce : compRule (L.map Prod.fst) w U ⟨wh, (m : Int), (a : Int)⟩ = setArg (comp (L.map Prod.fst) (L.map Prod.fst).length a (putI (comp (L.map Prod.fst) (L.map Prod.fst).length m U) 21 0)) (comp (L.map Prod.fst) (L.map Prod.fst).length m U).li.length ((comp (L.map Prod.fst) (L.map Prod.fst).length a (putI (comp (L.map Prod.fst) (L.map Prod.fst).length m U) 21 0)).li.length : Nat) := by
    unfold compRule; rw [if_pos hw, if_neg hc]; rfl
  rw [ce] at cs
  simp (maxSteps := 1000000) -implicitDefEqProofs only [push_cast, seval, ob3, rd_of ob3, rd1_of ob3, lb3]
  with_reducible refine CC.mono (nodes m lm h3 s2 _ vT2 vL2 c3 r2 (by omega) tx2) (fun v h4 hv => ?_)
  have ev := hv.1
  have st := hv.2
  clear hv
  subst ev
  unfold StepP at st
  with_reducible refine Exists.elim st (fun s4 st => ?_)
  with_reducible refine Exists.elim st (fun vT4 st => ?_)
  with_reducible refine Exists.elim st (fun vL4 st => ?_)
  have c4 := st.1
  have r4 := st.2.1
  have ge4 := st.2.2.1
  have le4 := st.2.2.2.1
  have tx4 := st.2.2.2.2.1
  have f4 := st.2.2.2.2.2
  clear st
  have b4 := b3.fc f4
  simp (maxSteps := 1000000) -implicitDefEqProofs only [push_cast, seval]
  with_reducible refine CC.mono (kput_c h4 c4 21 0 (by omega)) (fun v h5 hv => ?_)
  have ev := hv.1
  have st := hv.2
  clear hv
  subst ev
  with_reducible refine Exists.elim st (fun vL5 st => ?_)
  have c5 := st.1
  have f5 := st.2
  clear st
  have b5 := b4.fc f5
  have r5 := Rel.put r4 21 0
  have ob5 := b5.ob
  have lb5 := b5.lt
  have le5 := putI_len s4 21 0
  have te5 : (putI s4 21 0).tx = s4.tx := rfl
  simp (maxSteps := 1000000) -implicitDefEqProofs only [push_cast, seval, ob5, rd_of ob5, rd1_of ob5, lb5]
  with_reducible refine CC.mono (CC.wf (nodes a la h5 _ _ vT4 vL5 c5 r5 (by omega) (by rw [te5]; omega))) (fun v h6 hv => ?_)
  have wf6 := hv.2
  have ev := hv.1.1
  have st := hv.1.2
  clear hv
  subst ev
  unfold StepP at st
  with_reducible refine Exists.elim st (fun s6 st => ?_)
  with_reducible refine Exists.elim st (fun vT6 st => ?_)
  with_reducible refine Exists.elim st (fun vL6 st => ?_)
  have c6 := st.1
  have r6 := st.2.1
  have ge6 := st.2.2.1
  have le6 := st.2.2.2.1
  have tx6 := st.2.2.2.2.1
  have f6 := st.2.2.2.2.2
  clear st
  have pt6 := c6.pt
  have lk6 := c6.lt
  have y6 := c6.ones.2.2.2
  have o6 := GrL.open c6.gL (li_len _) (by omega) (by decide)
  with_reducible refine Exists.elim o6 (fun il o6 => ?_)
  with_reducible refine Exists.elim o6 (fun ol o6 => ?_)
  have el := o6.1
  have ow6 := o6.2.1
  clear o6
  subst el
  have ll := ow6.lt
  simp (maxSteps := 1000000) -implicitDefEqProofs only [push_cast, seval]
  refine WC.draw' (by kernel_rfl) (by kernel_rfl) (.q 0 (.q 1 (.q 2 (.q 3 (.q 4 (.q 5 (.q 6 (.q 7 (.q 8 (.q 9 (.q 10 (.q 11 (.q 12 (.q 13 (.a 14 false (.done)))))))))))))))) (by kernel_rfl) ?_
  simp (maxSteps := 1000000) -implicitDefEqProofs only [push_cast, seval, pt6, rd_of pt6, rd1_of pt6, lk6, ll]
  repeat (with_reducible refine And.intro ?_ ?_; · (first | omega | decide))
  refine (show Own _ il ol s6.li.length 2 _ from ow6).wr (lo := s4.li.length * 2 + 1) (vs := [.int .i64 (s6.li.length : Nat)]) (by simp only [List.length_cons, List.length_nil]; omega) (fun h7 o7 x7 => ?_)
  have ca := c6.arg wf6 (z := s4.li.length) (by omega) rfl rfl o7 x7
  have ek := ca.1.pt.trans pt6.symm
  simp (maxSteps := 1000000) -implicitDefEqProofs only [push_cast, seval]
  refine And.intro ek (And.intro ek ?_)
  rw [wrapSucc (by omega)]
  have gs : (setArg s6 s4.li.length (s6.li.length : Nat)).li.length = s6.li.length := setArg_len _ _ _
  have gu := comp_len (L.map Prod.fst) (L.map Prod.fst).length a (putI (comp (L.map Prod.fst) (L.map Prod.fst).length m U) 21 0)
  rw [putI_len] at gu
  refine ⟨i + 1, by kernel_rfl, ⟨by omega, _, vT6, _, ca.1, by rw [cs]; exact Rel.patch r4 r6 (by omega) (by omega) (fun e => by rw [e]), by rw [gs]; omega, by rw [gs]; omega, by rw [gs, setArg_tx]; omega, f2.trans (f3.trans (f4.trans (f5.trans (f6.trans ca.2))))⟩, by omega⟩
end Go.Proofs.YtdlpdfclljnmhaaGreat
namespace Go.Proofs.YtdlpdfclljnmhaaGreat
open Go Go.Sim Go.Proofs
set_option linter.unusedSimpArgs false
set_option linter.unusedVariables false
set_option maxRecDepth 100000
set_option maxHeartbeats 1000000
theorem CodeOk_ix (c : Cod) (vA vB : Value) (h : AH) (r : RdC h vA vB c) (ht : c.texts.length ≤ 1048576) (hl : c.list.length ≤ 1048576) :
    CD Tryz.prog 51 [.agg #[vA, vB, .int .i64 c.bgn, .int .i64 c.line, .int .i64 c.fin]] h (.bool (codeOk c)) h := by
  refine CD.withBig (fun big => ?_)
  refine CD.quiet ?_ (low_bool _ _)
  have y1 := r.texts.one
  have y2 := rdv_cells r.texts
  have y3 := r.list.one
  have y4 := rdv_cells r.list
  obtain ⟨A, cA, rfl, hA⟩ := r.texts.rde (fun _ => rfl)
  obtain ⟨B, cB, rfl, hB⟩ := r.list.rde (fun _ => rfl)
  refine CC.ofN Tryz.func51 Tryz.ntmps51 Tryz.results51 rfl (by decide) (by kernel_rfl) ?_
  simp (maxSteps := 1000000) -implicitDefEqProofs only [push_cast, seval]
  have pA : Pre h (h.alloc (.cells [.slice A c.texts.length cA, .slice B c.list.length cB, .int .i64 c.bgn, .int .i64 c.line, .int .i64 c.fin] .solo h.n)) := (Pre.refl h).alloc _
  refine WC.loopA (by kernel_rfl) [10] [2, 4, 11, 12, 13, 14, 15, 16, 17] (fun i : Nat => [.int .i64 i]) (fun i h' => (i ≤ c.texts.length ∧ ∀ j (hj : j < c.texts.length), j < i → c.texts[j].size ≤ 30) ∧ Pre (h.alloc (.cells [.slice A c.texts.length cA, .slice B c.list.length cB, .int .i64 c.bgn, .int .i64 c.line, .int .i64 c.fin] .solo h.n)) h') (fun i => c.texts.length - i) 0 (by kernel_rfl) ⟨⟨Nat.zero_le _, fun j hj h0 => by omega⟩, Pre.refl _⟩ ?_
  intro i g h1 hJ
  have hi := hJ.1.1
  have hj := hJ.1.2
  have p1 := hJ.2
  clear hJ
  have e1 : h1.ob h.n = _ := (p1.ob _ (lt_alloc _)).trans (alloc_same _)
  have l1 : h.n < h1.n := Nat.lt_of_lt_of_le (lt_alloc _) p1.n
  simp (maxSteps := 1000000) -implicitDefEqProofs only [push_cast, seval]
  with_reducible refine bcase_d (fun hb => ?_) (fun hb => ?_)
  · have hi' : i < c.texts.length := by omega
    with_reducible refine hA.use big (pA.trans p1) hi' (fun id off eA hlt hr => ?_)
    subst eA
    simp only [encTx] at hr
    have r0 := rd_1 hr
    simp (maxSteps := 1000000) -implicitDefEqProofs only [push_cast, seval, hr, r0, hlt]
    repeat (with_reducible refine And.intro ?_ ?_; · (first | omega | decide))
    with_reducible refine bcase_d (fun hb2 => ?_) (fun hb2 => ?_)
    · simp (maxSteps := 1000000) -implicitDefEqProofs only [push_cast, seval]
      rw [codeOk_no (fun o => by have := o.t30 _ (List.getElem_mem hi'); omega)]
      exact ⟨rfl, (pA.trans p1).keep⟩
    · simp (maxSteps := 1000000) -implicitDefEqProofs only [push_cast, seval]
      rw [wrapSucc (by omega)]
      refine ⟨i + 1, by kernel_rfl, ⟨⟨by omega, fun j hj1 hj2 => ?_⟩, p1⟩, by omega⟩
      by_cases e : j = i
      · subst e; omega
      · exact hj j hj1 (by omega)
  have t30 : ∀ s ∈ c.texts, s.size ≤ 30 := fun s hs => by
    obtain ⟨j, hj1, rfl⟩ := List.getElem_of_mem hs
    exact hj j hj1 (by omega)
  clear hj
  simp (maxSteps := 1000000) -implicitDefEqProofs only [push_cast, seval, e1, rd_of e1, rd1_of e1, l1]
  refine WC.loopA (by kernel_rfl) [21] [2, 6, 22, 23, 24, 25, 26, 27, 28, 29, 30, 31, 32, 33, 34, 35] (fun i : Nat => [.int .i64 i]) (fun i h' => (i ≤ c.list.length ∧ ∀ j (hj : j < c.list.length), j < i → insOk c.list[j] = true) ∧ Pre h1 h') (fun i => c.list.length - i) 0 (by kernel_rfl) ⟨⟨Nat.zero_le _, fun j hj h0 => by omega⟩, Pre.refl _⟩ ?_
  clear hb hi
  intro k g' h2 hJ
  have hi := hJ.1.1
  have hj := hJ.1.2
  have p2 := hJ.2
  clear hJ
  have e2 : h2.ob h.n = _ := (p2.ob _ l1).trans e1
  have l2 : h.n < h2.n := Nat.lt_of_lt_of_le l1 p2.n
  have pre2 := (pA.trans p1).trans p2
  simp (maxSteps := 1000000) -implicitDefEqProofs only [push_cast, seval]
  with_reducible refine bcase_d (fun hb => ?_) (fun hb => ?_)
  · have hi' : k < c.list.length := by omega
    with_reducible refine hB.use big pre2 hi' (fun id off eA hlt hr => ?_)
    subst eA
    generalize hX : c.list[k] = X at *
    simp only [encN] at hr
    have r0 := (rd_2 hr).1
    have r1 := (rd_2 hr).2
    simp (maxSteps := 1000000) -implicitDefEqProofs only [push_cast, seval, hr, r0, r1, hlt]
    repeat (with_reducible refine And.intro ?_ ?_; · (first | omega | decide))
    have pF : Pre h1 ((h2.alloc (AOb.cells [Value.int IntKind.i64 0, Value.int IntKind.i64 0] .solo h2.n)).set h2.n (AOb.cells [Value.int IntKind.i64 X.op, Value.int IntKind.i64 X.arg] .solo h2.n)) := (p2.alloc _).set (p2.n) _
    with_reducible refine CD.to (within_c _ _ _ _) ?_
    cases hop : inB X.op 1 24 with
    | false =>
      simp (maxSteps := 1000000) -implicitDefEqProofs only [push_cast, seval]
      rw [codeOk_bad hi' (by rw [hX, insOk, hop]; rfl)]
      exact ⟨rfl, ((pA.trans p1).trans pF).keep⟩
    | true =>
    simp (maxSteps := 1000000) -implicitDefEqProofs only [push_cast, seval]
    with_reducible refine CD.to (within_c _ _ _ _) ?_
    cases har : inB X.arg 0 255 with
    | false =>
      simp (maxSteps := 1000000) -implicitDefEqProofs only [push_cast, seval]
      rw [codeOk_bad hi' (by rw [hX, insOk, har, Bool.and_false])]
      exact ⟨rfl, ((pA.trans p1).trans pF).keep⟩
    | true =>
    simp (maxSteps := 1000000) -implicitDefEqProofs only [push_cast, seval]
    rw [wrapSucc (by omega)]
    refine ⟨k + 1, by kernel_rfl, ⟨⟨by omega, fun j hj1 hj2 => ?_⟩, pF⟩, by omega⟩
    by_cases e : j = k
    · subst e; rw [hX, insOk, hop, har]; rfl
    · exact hj j hj1 (by omega)
  have hok : ∀ j, j < c.list.length → insOk (c.list.getD j ⟨0, 0⟩) = true := fun j hj1 => by
    rw [getD_of _ _ _ hj1]; exact hj j hj1 (by omega)
  clear hj
  simp (maxSteps := 1000000) -implicitDefEqProofs only [push_cast, seval, e2, rd_of e2, rd1_of e2, l2]
  with_reducible refine bcase_d (fun q1 => ?_) (fun q1 => ?_)
  · simp (maxSteps := 1000000) -implicitDefEqProofs only [push_cast, seval]
    rw [codeOk_no (fun o => by have := o.t60; omega)]
    exact ⟨rfl, pre2.keep⟩
  simp (maxSteps := 1000000) -implicitDefEqProofs only [push_cast, seval, e2, rd_of e2, rd1_of e2, l2]
  with_reducible refine bcase_d (fun q2 => ?_) (fun q2 => ?_)
  · simp (maxSteps := 1000000) -implicitDefEqProofs only [push_cast, seval]
    rw [codeOk_no (fun o => by have := o.l250; omega)]
    exact ⟨rfl, pre2.keep⟩
  simp (maxSteps := 1000000) -implicitDefEqProofs only [push_cast, seval, e2, rd_of e2, rd1_of e2, l2]
  with_reducible refine bcase_d (fun q3 => ?_) (fun q3 => ?_)
  case refine_2 =>
    simp (maxSteps := 1000000) -implicitDefEqProofs only [push_cast, seval, e2, rd_of e2, rd1_of e2, l2]
    rw [codeOk_no (fun o => q3 o.bgn)]
    exact ⟨rfl, pre2.keep⟩
  simp (maxSteps := 1000000) -implicitDefEqProofs only [push_cast, seval, e2, rd_of e2, rd1_of e2, l2]
  with_reducible refine CD.to (within_c _ _ _ _) ?_
  cases q4 : inB c.line 0 (c.list.length : Nat) with
  | false =>
    simp (maxSteps := 1000000) -implicitDefEqProofs only [push_cast, seval, e2, rd_of e2, rd1_of e2, l2]
    rw [codeOk_no (fun o => by have := o.line; simp only [inB, Bool.and_eq_false_iff, decide_eq_false_iff_not] at q4; omega)]
    exact ⟨rfl, pre2.keep⟩
  | true =>
  simp (maxSteps := 1000000) -implicitDefEqProofs only [push_cast, seval, e2, rd_of e2, rd1_of e2, l2]
  with_reducible refine CD.to (within_c _ _ _ _) ?_
  cases q5 : inB c.fin c.line (c.list.length : Nat) with
  | false =>
    simp (maxSteps := 1000000) -implicitDefEqProofs only [push_cast, seval, e2, rd_of e2, rd1_of e2, l2]
    rw [codeOk_no (fun o => by have := o.fin; simp only [inB, Bool.and_eq_false_iff, decide_eq_false_iff_not] at q5; omega)]
    exact ⟨rfl, pre2.keep⟩
  | true =>
  simp only [inB, Bool.and_eq_true, decide_eq_true_eq] at q4 q5
  have o : OkC c := ⟨t30, by omega, by omega, q3, by omega, by omega⟩
  rw [codeOk_parts o]
  have hP := fun a b h1 h2 (h3 : AH) (p : Pre h h3) => partFits_c c _ _ a b h3 (r.pre p) (by omega) t30 h1 h2 (by omega) hok
  have P1 := hP 0 c.line.toNat (Nat.zero_le _) (by omega)
  have P2 := hP c.line.toNat c.fin.toNat (by omega) (by omega)
  have P3 := hP c.fin.toNat c.list.length (by omega) (Nat.le_refl _)
  rw [Int.toNat_of_nonneg (by omega)] at P1
  rw [Int.toNat_of_nonneg (by omega), Int.toNat_of_nonneg (by omega)] at P2
  rw [Int.toNat_of_nonneg (by omega)] at P3
  rw [castLit0] at P1
  simp (maxSteps := 1000000) -implicitDefEqProofs only [push_cast, seval, e2, rd_of e2, rd1_of e2, l2]
  with_reducible refine CD.to (P1 _ pre2) ?_
  cases w1 : partP c.texts c.list 0 c.line.toNat with
  | false =>
    simp (maxSteps := 1000000) -implicitDefEqProofs only [push_cast, seval]
    exact pre2.keep
  | true =>
  simp (maxSteps := 1000000) -implicitDefEqProofs only [push_cast, seval, e2, rd_of e2, rd1_of e2, l2]
  with_reducible refine CD.to (P2 _ pre2) ?_
  cases w2 : partP c.texts c.list c.line.toNat c.fin.toNat with
  | false =>
    simp (maxSteps := 1000000) -implicitDefEqProofs only [push_cast, seval]
    exact pre2.keep
  | true =>
  simp (maxSteps := 1000000) -implicitDefEqProofs only [push_cast, seval, e2, rd_of e2, rd1_of e2, l2]
  with_reducible refine CD.to (P3 _ pre2) ?_
  simp (maxSteps := 1000000) -implicitDefEqProofs only [push_cast, seval]
  exact pre2.keep
end Go.Proofs.YtdlpdfclljnmhaaGreat
namespace Go.Proofs.YtdlpdfclljnmhaaGreat
open Go Go.Sim Go.Proofs
/-- Code that a call has made. -/
structure OwnC (h0 h : AH) (vA vB : Value) (c : Cod) : Prop where
  a : Gr (h0.n + 1) h vA 1 (c.texts.map encTx).flatten
  b : Gr (h0.n + 1) h vB 2 (c.list.map encN).flatten
  ne : ∀ i, atBlock vA i → ¬ atBlock vB i
def code0 : Cod := ⟨[], [], 0, 0, 0⟩
end Go.Proofs.YtdlpdfclljnmhaaGreat
namespace Go.Proofs.YtdlpdfclljnmhaaGreat
open Go Go.Sim Go.Proofs
set_option linter.unusedSimpArgs false
set_option linter.unusedVariables false
set_option maxRecDepth 100000
set_option maxHeartbeats 1000000
variable {kp : Nat} {vN vR vT vL vT' vL' vT2 vL2 : Value} {L : List (Nd × Value)} {R : List Ru} {s s' s2 u u' t : Wr0} {ln fn : Int} {h h1 h2 h' : AH}
/-- A new compiler. -/
theorem _root_.Go.Sim.Cw.new (p : Pre h h1) (r : RdG h1 vN vR L R) : Cw (h1.alloc (.cells [vN, vR, .slice none 0 0, .slice none 0 0, .int .i64 0, .int .i64 0, .int .i64 0] .solo h1.n)) h1.n vN vR L R ⟨[], []⟩ 0 0 (.slice none 0 0) (.slice none 0 0) := by
  have q : Pre h1 (h1.alloc (.cells [vN, vR, .slice none 0 0, .slice none 0 0, .int .i64 0, .int .i64 0, .int .i64 0] .solo h1.n)) := (Pre.refl h1).alloc _
  refine ⟨alloc_same _, lt_alloc _, r.pre q, fun i e => ?_, GrL.nil _ _ _ _, GrL.nil _ _ _ _, fun i e => e.elim⟩
  rcases e with e | e | ⟨x, hx, e⟩
  · exact r.nodes.lt e
  · exact r.rules.lt e
  · exact (r.kids x hx).lt e
/-- A number of the compiler's own is written. -/
theorem _root_.Go.Sim.Cw.num (c : Cw h kp vN vR L R u ln fn vT vL) (ln' fn' : Int) :
    Cw (h.set kp (.cells [vN, vR, vT, vL, .int .i64 0, .int .i64 ln', .int .i64 fn'] .solo kp)) kp vN vR L R u ln' fn' vT vL ∧ Fc kp h (h.set kp (.cells [vN, vR, vT, vL, .int .i64 0, .int .i64 ln', .int .i64 fn'] .solo kp)) vT vL vT vL := by
  have q : ∀ i, i ≠ kp → (h.set kp (.cells [vN, vR, vT, vL, .int .i64 0, .int .i64 ln', .int .i64 fn'] .solo kp)).ob i = h.ob i := fun i a => set_ne _ a
  have lo : ∀ i, i < kp → (h.set kp (.cells [vN, vR, vT, vL, .int .i64 0, .int .i64 ln', .int .i64 fn'] .solo kp)).ob i = h.ob i := fun i a => q i (by omega)
  refine ⟨⟨set_same _ _, c.lt, ⟨c.rd.nodes.keep (Nat.le_refl _) (fun i e => lo i (c.lo i (.inl e))), fun x hx => (c.rd.kids x hx).keep (Nat.le_refl _) (fun i e => lo i (c.lo i (.inr (.inr ⟨x, hx, e⟩)))), c.rd.rules.keep (Nat.le_refl _) (fun i e => lo i (c.lo i (.inr (.inl e))))⟩, c.lo, c.gT.keep (Nat.le_refl _) (fun i e => q i (by have := c.far (.inl e); omega)), c.gL.keep (Nat.le_refl _) (fun i e => q i (by have := c.far (.inr e); omega)), c.ne⟩, ⟨Nat.le_refl _, lo, fun i _ e _ _ _ => q i e, fun _ e => .inl e, fun _ e => .inl e⟩⟩
def cmpOk (L : List (Nd × Value)) (R : List Ru) : Bool := programOk ⟨L.map Prod.fst, R⟩ && codeOk (compAll ⟨L.map Prod.fst, R⟩)
def cmpC (L : List (Nd × Value)) (R : List Ru) : Cod := if cmpOk L R = true then compAll ⟨L.map Prod.fst, R⟩ else code0
/-- What a compiler hands back. -/
def CmpV (L : List (Nd × Value)) (R : List Ru) (h : AH) (v : Value) (h' : AH) : Prop :=
  ∃ wA wB, v = .tuple #[.agg #[wA, wB, .int .i64 0, .int .i64 (cmpC L R).line, .int .i64 (cmpC L R).fin], .bool (cmpOk L R)] ∧ (OwnC h h' wA wB (cmpC L R) ∧ Lo (h.n + 1) h' wA ∧ Lo (h.n + 1) h' wB) ∧ Pre h h'
theorem CmpV.no (e : cmpOk L R = false) (p : Pre h h') : CmpV L R h (.tuple #[.agg #[.slice none 0 0, .slice none 0 0, .int .i64 0, .int .i64 0, .int .i64 0], .bool false]) h' := by
  have ec : cmpC L R = code0 := by unfold cmpC; rw [if_neg (by rw [e]; decide)]
  refine ⟨.slice none 0 0, .slice none 0 0, ?_, ?_, p⟩
  · rw [ec, e]; rfl
  · rw [ec]; exact ⟨⟨Gr.nil _ _ _ _, Gr.nil _ _ _ _, fun i e => e.elim⟩, fun i e => e.elim, fun i e => e.elim⟩
theorem cmp_same {s1 s2 s3 : Wr0} (hP : programOk ⟨L.map Prod.fst, R⟩ = true) (q1 : Rel s1 (compRules (L.map Prod.fst) R 1 ⟨[], []⟩)) (q2 : Rel s2 (compRules (L.map Prod.fst) R 2 (compRules (L.map Prod.fst) R 1 ⟨[], []⟩))) (q3 : Rel s3 (compRules (L.map Prod.fst) R 3 (compRules (L.map Prod.fst) R 2 (compRules (L.map Prod.fst) R 1 ⟨[], []⟩)))) (g2 : s1.li.length ≤ s2.li.length) (g3 : s2.li.length ≤ s3.li.length) :
    (cmpOk L R = codeOk ⟨s3.tx, s3.li, 0, s1.li.length, s2.li.length⟩) ∧ (codeOk ⟨s3.tx, s3.li, 0, s1.li.length, s2.li.length⟩ = true → cmpC L R = ⟨s3.tx, s3.li, 0, s1.li.length, s2.li.length⟩) := by
  have main : cmpOk L R = codeOk ⟨s3.tx, s3.li, 0, s1.li.length, s2.li.length⟩ ∧ (codeOk ⟨s3.tx, s3.li, 0, s1.li.length, s2.li.length⟩ = true → compAll ⟨L.map Prod.fst, R⟩ = ⟨s3.tx, s3.li, 0, s1.li.length, s2.li.length⟩) := by
    have eA : compAll ⟨L.map Prod.fst, R⟩ = ⟨(compRules (L.map Prod.fst) R 3 (compRules (L.map Prod.fst) R 2 (compRules (L.map Prod.fst) R 1 ⟨[], []⟩))).tx, (compRules (L.map Prod.fst) R 3 (compRules (L.map Prod.fst) R 2 (compRules (L.map Prod.fst) R 1 ⟨[], []⟩))).li, 0, (compRules (L.map Prod.fst) R 1 ⟨[], []⟩).li.length, (compRules (L.map Prod.fst) R 2 (compRules (L.map Prod.fst) R 1 ⟨[], []⟩)).li.length⟩ := rfl
    unfold cmpOk
    rw [hP, Bool.true_and]
    have l3 := compRules_len (L.map Prod.fst) 3 R (compRules (L.map Prod.fst) R 2 (compRules (L.map Prod.fst) R 1 ⟨[], []⟩))
    have l2 := compRules_len (L.map Prod.fst) 2 R (compRules (L.map Prod.fst) R 1 ⟨[], []⟩)
    have long : 250 < s3.li.length ∧ 250 < (compRules (L.map Prod.fst) R 3 (compRules (L.map Prod.fst) R 2 (compRules (L.map Prod.fst) R 1 ⟨[], []⟩))).li.length → _ := fun e => show codeOk (compAll ⟨L.map Prod.fst, R⟩) = codeOk ⟨s3.tx, s3.li, 0, s1.li.length, s2.li.length⟩ ∧ (codeOk ⟨s3.tx, s3.li, 0, s1.li.length, s2.li.length⟩ = true → compAll ⟨L.map Prod.fst, R⟩ = ⟨s3.tx, s3.li, 0, s1.li.length, s2.li.length⟩) from by
      rw [codeOk_long (c := compAll ⟨L.map Prod.fst, R⟩) (by rw [eA]; exact e.2), codeOk_long (c := ⟨s3.tx, s3.li, 0, s1.li.length, s2.li.length⟩) e.1]
      exact ⟨rfl, by intro h; cases h⟩
    rcases q3 with e3 | e3
    · rcases q2 with e2 | e2
      · rcases q1 with e1 | e1
        · rw [eA, ← e3, ← e2, ← e1]
          exact ⟨rfl, fun _ => rfl⟩
        · exact long ⟨by omega, by omega⟩
      · exact long ⟨by omega, by omega⟩
    · exact long e3
  refine ⟨main.1, fun e => ?_⟩
  unfold cmpC
  rw [if_pos (by rw [main.1]; exact e)]
  exact main.2 e
theorem Compile_i (h : AH) (r0 : RdG h vN vR L R) (hz : SzG L R) :
    CC Tryz.prog 21 [.agg #[vN, vR]] h (CmpV L R h) := by
  have u0 := r0.nodes.one
  have u1 := r0.rules.one
  have p1 : Pre h ((h.alloc (.cells [vN, vR] .solo h.n)).alloc (.cells [.slice none 0 0, .slice none 0 0, .int .i64 0, .int .i64 0, .int .i64 0] .solo (h.n + 1))) := ((Pre.refl h).alloc _).alloc _
  have oA : ((h.alloc (.cells [vN, vR] .solo h.n)).alloc (.cells [.slice none 0 0, .slice none 0 0, .int .i64 0, .int .i64 0, .int .i64 0] .solo (h.n + 1))).ob h.n = .cells [vN, vR] .solo h.n := (alloc_lt _ (lt_alloc _)).trans (alloc_same _)
  have oB : ((h.alloc (.cells [vN, vR] .solo h.n)).alloc (.cells [.slice none 0 0, .slice none 0 0, .int .i64 0, .int .i64 0, .int .i64 0] .solo (h.n + 1))).ob (h.n + 1) = .cells [.slice none 0 0, .slice none 0 0, .int .i64 0, .int .i64 0, .int .i64 0] .solo (h.n + 1) := alloc_same _
  have n1 : ((h.alloc (.cells [vN, vR] .solo h.n)).alloc (.cells [.slice none 0 0, .slice none 0 0, .int .i64 0, .int .i64 0, .int .i64 0] .solo (h.n + 1))).n = h.n + 2 := rfl
  refine CC.ofN Tryz.func21 Tryz.ntmps21 Tryz.results21 rfl (by decide) (by kernel_rfl) ?_
  simp (maxSteps := 1000000) -implicitDefEqProofs only [push_cast, seval, u0, u1]
  repeat (with_reducible refine And.intro ?_ ?_; · (first | omega | decide))
  generalize ((h.alloc (.cells [vN, vR] .solo h.n)).alloc (.cells [.slice none 0 0, .slice none 0 0, .int .i64 0, .int .i64 0, .int .i64 0] .solo (h.n + 1))) = h1 at *
  have r1 := r0.pre p1
  have lA : h.n < h1.n := by omega
  have lB : h.n + 1 < h1.n := by omega
  with_reducible refine CD.to (ProgramOk_i L R vN vR h1 r1 hz) ?_
  cases hP : programOk ⟨L.map Prod.fst, R⟩ with
  | false =>
    simp (maxSteps := 1000000) -implicitDefEqProofs only [push_cast, seval, oA, rd_of oA, rd1_of oA, oB, rd_of oB, rd1_of oB, lA, lB]
    exact CmpV.no (by unfold cmpOk; rw [hP]; rfl) (p1.set (by omega) _)
  | true =>
  have cw0 := Cw.new p1 r1
  have pK : Pre h1 (h1.alloc (.cells [vN, vR, .slice none 0 0, .slice none 0 0, .int .i64 0, .int .i64 0, .int .i64 0] .solo h1.n)) := (Pre.refl h1).alloc _
  simp (maxSteps := 1000000) -implicitDefEqProofs only [push_cast, seval, oA, rd_of oA, rd1_of oA, oB, rd_of oB, rd1_of oB, lA, lB, u0, u1]
  generalize (h1.alloc (.cells [vN, vR, .slice none 0 0, .slice none 0 0, .int .i64 0, .int .i64 0, .int .i64 0] .solo h1.n)) = hK at *
  with_reducible refine nameN h1.n (fun kp hkp => ?_)
  rw [← hkp] at cw0
  rw [← hkp]
  with_reducible refine CC.mono (rules_i hP 1 hK cw0 (Rel.refl _) (Nat.zero_le _) (Nat.le_refl _)) (fun v h2 hv => ?_)
  have ev := hv.1
  have st := hv.2
  clear hv
  subst ev
  unfold StepP at st
  with_reducible refine Exists.elim st (fun s1 st => ?_)
  with_reducible refine Exists.elim st (fun vT1 st => ?_)
  with_reducible refine Exists.elim st (fun vL1 st => ?_)
  have c1 := st.1
  have q1 := st.2.1
  have le1 := st.2.2.2.1
  have tx1 := st.2.2.2.2.1
  have f1 := st.2.2.2.2.2
  clear st
  rw [show (Wr0.mk [] []).li.length = 0 from rfl] at le1
  have pt1 := c1.pt
  have lt1 := c1.lt
  have y1 := c1.ones
  have z1 := c1.gL.gr.sl (by decide) (li_len s1)
  with_reducible refine Exists.elim z1 (fun A1 z1 => ?_)
  with_reducible refine Exists.elim z1 (fun b1 z1 => ?_)
  subst z1
  have hc1 := c1.num (s1.li.length : Nat) 0
  simp (maxSteps := 1000000) -implicitDefEqProofs only [push_cast, seval, pt1, rd_of pt1, rd1_of pt1, lt1]
  generalize (h2.set kp (.cells [vN, vR, vT1, .slice A1 s1.li.length b1, .int .i64 0, .int .i64 (s1.li.length : Nat), .int .i64 0] .solo kp)) = h3 at *
  with_reducible refine CC.mono (rules_i hP 2 h3 hc1.1 q1 (by omega) tx1) (fun v h4 hv => ?_)
  have ev := hv.1
  have st := hv.2
  clear hv
  subst ev
  unfold StepP at st
  with_reducible refine Exists.elim st (fun s2 st => ?_)
  with_reducible refine Exists.elim st (fun vT2 st => ?_)
  with_reducible refine Exists.elim st (fun vL2 st => ?_)
  have c2 := st.1
  have q2 := st.2.1
  have ge2 := st.2.2.1
  have le2 := st.2.2.2.1
  have tx2 := st.2.2.2.2.1
  have f2 := st.2.2.2.2.2
  clear st
  have pt2 := c2.pt
  have lt2 := c2.lt
  have z2 := c2.gL.gr.sl (by decide) (li_len s2)
  with_reducible refine Exists.elim z2 (fun A2 z2 => ?_)
  with_reducible refine Exists.elim z2 (fun b2 z2 => ?_)
  subst z2
  have hc2 := c2.num (s1.li.length : Nat) (s2.li.length : Nat)
  simp (maxSteps := 1000000) -implicitDefEqProofs only [push_cast, seval, pt2, rd_of pt2, rd1_of pt2, lt2]
  generalize (h4.set kp (.cells [vN, vR, vT2, .slice A2 s2.li.length b2, .int .i64 0, .int .i64 (s1.li.length : Nat), .int .i64 (s2.li.length : Nat)] .solo kp)) = h5 at *
  with_reducible refine CC.mono (rules_i hP 3 h5 hc2.1 q2 (by omega) tx2) (fun v h6 hv => ?_)
  have ev := hv.1
  have st := hv.2
  clear hv
  subst ev
  unfold StepP at st
  with_reducible refine Exists.elim st (fun s3 st => ?_)
  with_reducible refine Exists.elim st (fun vT3 st => ?_)
  with_reducible refine Exists.elim st (fun vL3 st => ?_)
  have c3 := st.1
  have q3 := st.2.1
  have ge3 := st.2.2.1
  have le3 := st.2.2.2.1
  have tx3 := st.2.2.2.2.1
  have f3 := st.2.2.2.2.2
  clear st
  have pt3 := c3.pt
  have lt3 := c3.lt
  have y3 := c3.ones
  have y33 := y3.2.2.1
  have y34 := y3.2.2.2
  have fF : Fc kp hK h6 (.slice none 0 0) (.slice none 0 0) vT3 vL3 := f1.trans (hc1.2.trans (f2.trans (hc2.2.trans f3)))
  have pF : Pre h h6 := ⟨by have := p1.n; have := pK.n; have := fF.n; omega, fun i hi => (fF.low i (by have := p1.n; omega)).trans ((p1.trans pK).ob i hi)⟩
  have oB6 : h6.ob (h.n + 1) = _ := (fF.low _ (by omega)).trans ((pK.ob _ lB).trans oB)
  have lB6 : h.n + 1 < h6.n := by have := p1.n; have := pK.n; have := fF.n; omega
  have rC : RdC h6 vT3 vL3 ⟨s3.tx, s3.li, 0, s1.li.length, s2.li.length⟩ := ⟨c3.gT.gr.rdv (by decide) (fun _ => rfl), c3.gL.gr.rdv (by decide) (fun _ => rfl)⟩
  have hO := CodeOk_ix _ vT3 vL3 h6 rC (by show s3.tx.length ≤ 1048576; omega) (by show s3.li.length ≤ 1048576; omega)
  rw [show (Cod.mk s3.tx s3.li 0 s1.li.length s2.li.length).bgn = 0 from rfl, show (Cod.mk s3.tx s3.li 0 s1.li.length s2.li.length).line = (s1.li.length : Nat) from rfl, show (Cod.mk s3.tx s3.li 0 s1.li.length s2.li.length).fin = (s2.li.length : Nat) from rfl] at hO
  have key := cmp_same hP q1 q2 q3 ge2 ge3
  simp (maxSteps := 1000000) -implicitDefEqProofs only [push_cast, seval, pt3, rd_of pt3, rd1_of pt3, lt3, y33, y34]
  with_reducible refine CD.to hO ?_
  generalize hcd : codeOk ⟨s3.tx, s3.li, 0, (s1.li.length : Nat), (s2.li.length : Nat)⟩ = b at *
  cases b with
  | false =>
    simp (maxSteps := 1000000) -implicitDefEqProofs only [push_cast, seval, oB6, rd_of oB6, rd1_of oB6, lB6]
    exact CmpV.no key.1 (pF.set (by omega) _)
  | true =>
    simp (maxSteps := 1000000) -implicitDefEqProofs only [push_cast, seval, pt3, rd_of pt3, rd1_of pt3, oB6, rd_of oB6, rd1_of oB6, lt3, lB6, y33, y34]
    have ec := key.2 rfl
    have kn := (p1.trans pK).n
    refine ⟨vT3, vL3, by rw [ec, key.1], ?_, pF.set (by omega) _⟩
    rw [ec]
    have gT := fun o => c3.gT.gr.keep (h' := h6.set (h.n + 1) o) (Nat.le_refl _) (fun i e => set_ne _ (by have := (c3.far (.inl e)).1; omega))
    have gL := fun o => c3.gL.gr.keep (h' := h6.set (h.n + 1) o) (Nat.le_refl _) (fun i e => set_ne _ (by have := (c3.far (.inr e)).1; omega))
    have lT := fun o => Lo.keep (h' := h6.set (h.n + 1) o) c3.gT.lo (fun i e => set_ne _ (by have := (c3.far (.inl e)).1; omega))
    have lL := fun o => Lo.keep (h' := h6.set (h.n + 1) o) c3.gL.lo (fun i e => set_ne _ (by have := (c3.far (.inr e)).1; omega))
    exact ⟨⟨(gT _).mono (by omega), (gL _).mono (by omega), c3.ne⟩, fun i hi l hl => by have := lT _ i hi l hl; omega, fun i hi l hl => by have := lL _ i hi l hl; omega⟩
end Go.Proofs.YtdlpdfclljnmhaaGreat
namespace Go.Proofs.YtdlpdfclljnmhaaGreat
open Go Go.Sim Go.Proofs
set_option linter.unusedSimpArgs false
set_option linter.unusedVariables false
set_option maxRecDepth 100000
set_option maxHeartbeats 1000000
theorem CodeOk_sx (c : Cod) (vA vB : Value) (h : AH) (r : RdC h vA vB c) (ht : c.texts.length ≤ 1048576) (hl : c.list.length ≤ 1048576) :
    CD Tryz.prog 49 [.agg #[vA, vB, .int .i64 c.bgn, .int .i64 c.line, .int .i64 c.fin]] h (.bool (codeOk c)) h := by
  refine CD.withBig (fun big => ?_)
  refine CD.quiet ?_ (low_bool _ _)
  have y1 := r.texts.one
  have y2 := rdv_cells r.texts
  have y3 := r.list.one
  have y4 := rdv_cells r.list
  obtain ⟨A, cA, rfl, hA⟩ := r.texts.rde (fun _ => rfl)
  obtain ⟨B, cB, rfl, hB⟩ := r.list.rde (fun _ => rfl)
  refine CC.ofN Tryz.func49 Tryz.ntmps49 Tryz.results49 rfl (by decide) (by kernel_rfl) ?_
  simp (maxSteps := 1000000) -implicitDefEqProofs only [push_cast, seval]
  have pA : Pre h (h.alloc (.cells [.slice A c.texts.length cA, .slice B c.list.length cB, .int .i64 c.bgn, .int .i64 c.line, .int .i64 c.fin] .solo h.n)) := (Pre.refl h).alloc _
  refine WC.loopA (by kernel_rfl) [3] [2, 4, 5, 6, 7, 8, 9, 10, 11, 12, 13, 14, 15, 16, 17] (fun i : Nat => [.int .i64 i]) (fun i h' => (i ≤ c.texts.length ∧ ∀ j (hj : j < c.texts.length), j < i → c.texts[j].size ≤ 30) ∧ Pre (h.alloc (.cells [.slice A c.texts.length cA, .slice B c.list.length cB, .int .i64 c.bgn, .int .i64 c.line, .int .i64 c.fin] .solo h.n)) h') (fun i => c.texts.length - i) 0 (by kernel_rfl) ⟨⟨Nat.zero_le _, fun j hj h0 => by omega⟩, Pre.refl _⟩ ?_
  intro i g h1 hJ
  have hi := hJ.1.1
  have hj := hJ.1.2
  have p1 := hJ.2
  clear hJ
  have e1 : h1.ob h.n = _ := (p1.ob _ (lt_alloc _)).trans (alloc_same _)
  have l1 : h.n < h1.n := Nat.lt_of_lt_of_le (lt_alloc _) p1.n
  simp (maxSteps := 1000000) -implicitDefEqProofs only [push_cast, seval, e1, rd_of e1, rd1_of e1, l1]
  with_reducible refine bcase_d (fun hb => ?_) (fun hb => ?_)
  · have hi' : i < c.texts.length := by omega
    with_reducible refine hA.use big (pA.trans p1) hi' (fun id off eA hlt hr => ?_)
    subst eA
    simp only [encTx] at hr
    have r0 := rd_1 hr
    simp (maxSteps := 1000000) -implicitDefEqProofs only [push_cast, seval, e1, rd_of e1, rd1_of e1, l1, hr, r0, hlt]
    repeat (with_reducible refine And.intro ?_ ?_; · (first | omega | decide))
    with_reducible refine bcase_d (fun hb2 => ?_) (fun hb2 => ?_)
    · simp (maxSteps := 1000000) -implicitDefEqProofs only [push_cast, seval]
      rw [codeOk_no (fun o => by have := o.t30 _ (List.getElem_mem hi'); omega)]
      exact ⟨rfl, (pA.trans p1).keep⟩
    · simp (maxSteps := 1000000) -implicitDefEqProofs only [push_cast, seval]
      rw [wrapSucc (by omega)]
      refine ⟨i + 1, by kernel_rfl, ⟨⟨by omega, fun j hj1 hj2 => ?_⟩, p1⟩, by omega⟩
      by_cases e : j = i
      · subst e; omega
      · exact hj j hj1 (by omega)
  have t30 : ∀ s ∈ c.texts, s.size ≤ 30 := fun s hs => by
    obtain ⟨j, hj1, rfl⟩ := List.getElem_of_mem hs
    exact hj j hj1 (by omega)
  clear hj
  have pre2 := pA.trans p1
  simp (maxSteps := 1000000) -implicitDefEqProofs only [push_cast, seval, e1, rd_of e1, rd1_of e1, l1]
  with_reducible refine bcase_d (fun q1 => ?_) (fun q1 => ?_)
  · simp (maxSteps := 1000000) -implicitDefEqProofs only [push_cast, seval]
    rw [codeOk_no (fun o => by have := o.t60; omega)]
    exact ⟨rfl, pre2.keep⟩
  simp (maxSteps := 1000000) -implicitDefEqProofs only [push_cast, seval, e1, rd_of e1, rd1_of e1, l1]
  with_reducible refine bcase_d (fun q2 => ?_) (fun q2 => ?_)
  · simp (maxSteps := 1000000) -implicitDefEqProofs only [push_cast, seval]
    rw [codeOk_no (fun o => by have := o.l250; omega)]
    exact ⟨rfl, pre2.keep⟩
  simp (maxSteps := 1000000) -implicitDefEqProofs only [push_cast, seval, e1, rd_of e1, rd1_of e1, l1]
  with_reducible refine bcase_d (fun q3 => ?_) (fun q3 => ?_)
  case refine_2 =>
    simp (maxSteps := 1000000) -implicitDefEqProofs only [push_cast, seval, e1, rd_of e1, rd1_of e1, l1]
    rw [codeOk_no (fun o => q3 o.bgn)]
    exact ⟨rfl, pre2.keep⟩
  simp (maxSteps := 1000000) -implicitDefEqProofs only [push_cast, seval, e1, rd_of e1, rd1_of e1, l1]
  with_reducible refine CD.to (l01In_c _ _ _ _) ?_
  cases q4 : inB c.line 0 (c.list.length : Nat) with
  | false =>
    simp (maxSteps := 1000000) -implicitDefEqProofs only [push_cast, seval, e1, rd_of e1, rd1_of e1, l1]
    rw [codeOk_no (fun o => by have := o.line; simp only [inB, Bool.and_eq_false_iff, decide_eq_false_iff_not] at q4; omega)]
    exact ⟨rfl, pre2.keep⟩
  | true =>
  simp (maxSteps := 1000000) -implicitDefEqProofs only [push_cast, seval, e1, rd_of e1, rd1_of e1, l1]
  with_reducible refine CD.to (l01In_c _ _ _ _) ?_
  cases q5 : inB c.fin c.line (c.list.length : Nat) with
  | false =>
    simp (maxSteps := 1000000) -implicitDefEqProofs only [push_cast, seval, e1, rd_of e1, rd1_of e1, l1]
    rw [codeOk_no (fun o => by have := o.fin; simp only [inB, Bool.and_eq_false_iff, decide_eq_false_iff_not] at q5; omega)]
    exact ⟨rfl, pre2.keep⟩
  | true =>
  simp only [inB, Bool.and_eq_true, decide_eq_true_eq] at q4 q5
  have o : OkC c := ⟨t30, by omega, by omega, q3, by omega, by omega⟩
  rw [codeOk_parts o]
  have hP := fun a b h1 h2 (h3 : AH) (p : Pre h h3) => l07Part_c c _ _ a b h3 (r.pre p) (by omega) t30 h1 h2 (by omega)
  have P1 := hP 0 c.line.toNat (Nat.zero_le _) (by omega)
  have P2 := hP c.line.toNat c.fin.toNat (by omega) (by omega)
  have P3 := hP c.fin.toNat c.list.length (by omega) (Nat.le_refl _)
  rw [Int.toNat_of_nonneg (by omega)] at P1
  rw [Int.toNat_of_nonneg (by omega), Int.toNat_of_nonneg (by omega)] at P2
  rw [Int.toNat_of_nonneg (by omega)] at P3
  rw [castLit0] at P1
  simp (maxSteps := 1000000) -implicitDefEqProofs only [push_cast, seval, e1, rd_of e1, rd1_of e1, l1]
  with_reducible refine CD.to (P1 _ pre2) ?_
  cases w1 : partP c.texts c.list 0 c.line.toNat with
  | false =>
    simp (maxSteps := 1000000) -implicitDefEqProofs only [push_cast, seval]
    exact pre2.keep
  | true =>
  simp (maxSteps := 1000000) -implicitDefEqProofs only [push_cast, seval, e1, rd_of e1, rd1_of e1, l1]
  with_reducible refine CD.to (P2 _ pre2) ?_
  cases w2 : partP c.texts c.list c.line.toNat c.fin.toNat with
  | false =>
    simp (maxSteps := 1000000) -implicitDefEqProofs only [push_cast, seval]
    exact pre2.keep
  | true =>
  simp (maxSteps := 1000000) -implicitDefEqProofs only [push_cast, seval, e1, rd_of e1, rd1_of e1, l1]
  with_reducible refine CD.to (P3 _ pre2) ?_
  simp (maxSteps := 1000000) -implicitDefEqProofs only [push_cast, seval]
  exact pre2.keep
end Go.Proofs.YtdlpdfclljnmhaaGreat
namespace Go.Proofs.YtdlpdfclljnmhaaGreat
open Go Go.Sim Go.Proofs
set_option linter.unusedSimpArgs false
set_option linter.unusedVariables false
set_option maxRecDepth 100000
set_option maxHeartbeats 1000000
variable {kp : Nat} {vN vR vT vL vT' vL' vT2 vL2 : Value} {L : List (Nd × Value)} {R : List Ru} {s s' s2 u u' t : Wr0} {ln fn : Int} {h h1 h2 h' : AH}
theorem sput_c (h : AH) (c : Cw h kp vN vR L R u ln fn vT vL) (op arg : Int) (hz : u.li.length ≤ 100000) :
    CC Tryz.prog 75 [.pointer (some ⟨kp, 0, none⟩), .int .i64 op, .int .i64 arg] h (fun v h' => v = .int .i64 (u.li.length : Nat) ∧ ∃ vL', Cw h' kp vN vR L R (putI u op arg) ln fn vT vL' ∧ Fc kp h h' vT vL vT vL') := by
  have pt := c.pt
  have lt := c.lt
  have y := c.ones
  have y3 := y.2.2.1
  have y4 := y.2.2.2
  refine CC.ofN Tryz.func75 Tryz.ntmps75 Tryz.results75 rfl (by decide) (by kernel_rfl) ?_
  simp (maxSteps := 1000000) -implicitDefEqProofs only [push_cast, seval, pt, rd_of pt, rd1_of pt, lt, y4]
  refine GrL.app1 (h0 := ⟨kp + 1, h.ob⟩) si42 (by decide) (by decide) (notInt_sl und42) c.gL ⟨by show kp + 1 ≤ h.n; omega, fun _ _ => rfl⟩ rfl (by rw [li_len]; omega) (by decide) (fun h3 gr p3 n3 he => ?_)
  have gr : GrL (kp + 1) h3 (.slice (some ⟨h.n + 1, 0, none⟩) (((u.li.map encN).flatten).length / 2 + 1) 2) 2 (((putI u op arg).li.map encN).flatten) := by
    rw [putI, flat_snoc]; exact gr
  have cl := c.li (u' := putI u op arg) rfl (by omega) he gr (fun i e => .inr (by have e : h.n + 1 = i := e; omega))
  have pt3 : h3.ob kp = _ := (he kp (by omega) (fun e => by have := c.far (.inr e); omega)).trans pt
  have l3 : kp < h3.n := by omega
  have el : ((u.li.map encN).flatten).length / 2 + 1 = u.li.length + 1 := by rw [li_len]; omega
  rw [el] at cl ⊢
  simp (maxSteps := 1000000) -implicitDefEqProofs only [push_cast, seval, pt3, rd_of pt3, rd1_of pt3, l3]
  have w1 : IntKind.i64.wrap ((u.li.length : Int) + 1 - 1) = ((u.li.length : Nat) : Int) := by rw [w64 (by omega) (by omega)]; omega
  rw [w1]
  exact ⟨rfl, _, cl⟩
theorem sfull_c (h : AH) (c : Cw h kp vN vR L R u ln fn vT vL) :
    CD Tryz.prog 108 [.pointer (some ⟨kp, 0, none⟩)] h (.bool (decide ((400 : Int) < u.li.length))) h := by
  refine CD.quiet ?_ (low_bool _ _)
  have pt := c.pt
  have lt := c.lt
  have y4 := c.ones.2.2.2
  obtain ⟨A, q, rfl⟩ := c.gL.gr.sl (by decide) (li_len u)
  refine CC.ofN Tryz.func108 Tryz.ntmps108 Tryz.results108 rfl (by decide) (by kernel_rfl) ?_
  simp (maxSteps := 1000000) -implicitDefEqProofs only [push_cast, seval, pt, rd_of pt, rd1_of pt, lt, y4]
  repeat' (first | with_reducible (first | exact Keep.refl _ _ | assumption | exact byte_lt _ _ | apply Keep.alloc | (refine Keep.set ?_ ?_; rotate_left; · omega) | apply Pre.alloc | apply Pre.set | exact Pre.refl _ | exact le_alloc _ | (refine Pre.keep ?_; assumption) | (refine Pre.n ?_; assumption)) | ((with_reducible (first | refine bcase_d (fun hb => ?_) (fun hb => ?_) | refine bcase_mk (fun hb => ?_) (fun hb => ?_))) <;> try simp (maxSteps := 1000000) -implicitDefEqProofs only [push_cast, seval, pt, rd_of pt, rd1_of pt, lt, y4]) | with_reducible refine And.intro ?_ ?_ | omega | (simp only [alloc_n, set_n, kill_n]; omega) | (exfalso; omega))
theorem txI_at {u : Wr0} {s : ByteArray} {i : Nat} (hi : i < u.tx.length) (e : u.tx[i] = s) (hn : ∀ j (hj : j < u.tx.length), j < i → u.tx[j] ≠ s) : txI u s = i ∧ putT u s = u := by
  refine ⟨findIdx_any hi e hn, ?_⟩
  unfold putT
  rw [if_pos]
  unfold hasT
  rw [List.any_eq_true]
  exact ⟨_, List.getElem_mem hi, by simpa using e⟩
theorem txI_no {u : Wr0} {s : ByteArray} (hn : ∀ j (hj : j < u.tx.length), u.tx[j] ≠ s) : txI u s = u.tx.length ∧ putT u s = ⟨u.tx ++ [s], u.li⟩ := by
  have hf : hasT u s = false := by
    unfold hasT
    rw [List.any_eq_false]
    intro x hx
    obtain ⟨j, hj, rfl⟩ := List.getElem_of_mem hx
    simpa using hn j hj
  constructor
  · apply List.findIdx_eq_length_of_false
    intro x hx
    have := List.any_eq_false.1 hf x hx
    simpa using this
  · unfold putT; rw [if_neg (by rw [hf]; decide)]
theorem stext_c (h : AH) (c : Cw h kp vN vR L R u ln fn vT vL) (s : ByteArray) (hz : u.tx.length ≤ 100000) :
    CC Tryz.prog 109 [.pointer (some ⟨kp, 0, none⟩), .string s] h (fun v h' => v = .int .i64 (txI u s : Nat) ∧ ∃ vT', Cw h' kp vN vR L R (putT u s) ln fn vT' vL ∧ Fc kp h h' vT vL vT' vL) := by
  refine CC.withBig (fun big => ?_)
  have pt := c.pt
  have lt := c.lt
  have y3 := c.ones.2.2.1
  have rT : RdV h vT 1 encTx u.tx := c.gT.gr.rdv (by decide) (fun _ => rfl)
  obtain ⟨A, q, rfl, hR⟩ := rT.rde (fun _ => rfl)
  refine CC.ofN Tryz.func109 Tryz.ntmps109 Tryz.results109 rfl (by decide) (by kernel_rfl) ?_
  simp (maxSteps := 1000000) -implicitDefEqProofs only [push_cast, seval, pt, rd_of pt, rd1_of pt, lt, y3]
  refine WC.loopA (by kernel_rfl) [5] [4, 6, 7, 8, 9, 10, 11, 12, 13, 14, 15, 16, 17, 18, 19, 20, 21, 22, 23, 24, 25, 26] (fun i : Nat => [.int .i64 i]) (fun i h' => (i ≤ u.tx.length ∧ ∀ j (hj : j < u.tx.length), j < i → u.tx[j] ≠ s) ∧ Pre h h') (fun i => u.tx.length - i) 0 (by kernel_rfl) ⟨⟨Nat.zero_le _, fun j hj h0 => by omega⟩, Pre.refl _⟩ ?_
  intro i g h1 hJ
  have hi := hJ.1.1
  have hj := hJ.1.2
  have p1 := hJ.2
  clear hJ
  have c1 := c.pre p1
  have pt1 := c1.pt
  have lt1 := c1.lt
  simp (maxSteps := 1000000) -implicitDefEqProofs only [push_cast, seval, pt1, rd_of pt1, rd1_of pt1, lt1, y3]
  with_reducible refine bcase_d (fun hb => ?_) (fun hb => ?_)
  · have hi' : i < u.tx.length := by omega
    with_reducible refine hR.use big p1 hi' (fun id off eA hlt hr => ?_)
    subst eA
    generalize hX : u.tx[i] = X at *
    simp only [encTx] at hr
    have r0 := rd_1 hr
    simp (maxSteps := 1000000) -implicitDefEqProofs only [push_cast, seval, pt1, rd_of pt1, rd1_of pt1, lt1, y3, hr, r0, hlt]
    repeat (with_reducible refine And.intro ?_ ?_; · (first | omega | decide))
    with_reducible refine bcase_d (fun hx => ?_) (fun hx => ?_)
    · have tt := txI_at (u := u) (s := s) hi' (by rw [hX]; exact hx) hj
      simp (maxSteps := 1000000) -implicitDefEqProofs only [push_cast, seval]
      refine ⟨by rw [tt.1], _, ?_, c.fc p1⟩
      rw [tt.2]; exact c1
    · simp (maxSteps := 1000000) -implicitDefEqProofs only [push_cast, seval]
      rw [wrapSucc (by omega)]
      refine ⟨i + 1, by kernel_rfl, ⟨⟨by omega, fun j h1 h2 => ?_⟩, p1⟩, by omega⟩
      by_cases e : j = i
      · subst e; rw [hX]; exact hx
      · exact hj j h1 (by omega)
  · have tt := txI_no (u := u) (s := s) (fun j h1 => hj j h1 (by omega))
    simp (maxSteps := 1000000) -implicitDefEqProofs only [push_cast, seval, pt1, rd_of pt1, rd1_of pt1, lt1, y3]
    refine GrL.app1 (h0 := ⟨kp + 1, h1.ob⟩) si37 (by decide) (by decide) (notInt_sl und37) c1.gT ⟨by show kp + 1 ≤ h1.n; omega, fun _ _ => rfl⟩ rfl (by rw [tx_len]; omega) (by decide) (fun h3 gr p3 n3 he => ?_)
    have gr : GrL (kp + 1) h3 (.slice (some ⟨h1.n + 1, 0, none⟩) (((u.tx.map encTx).flatten).length / 1 + 1) 1) 1 (((putT u s).tx.map encTx).flatten) := by
      rw [tt.2, flat_snoc]; exact gr
    have cl := c1.tx (u' := putT u s) (by rw [tt.2]) (by omega) he gr (fun i e => .inr (by have e : h1.n + 1 = i := e; omega))
    have pt3 : h3.ob kp = _ := (he kp (by omega) (fun e => by have := c1.far (.inl e); omega)).trans pt1
    have l3 : kp < h3.n := by omega
    have el : ((u.tx.map encTx).flatten).length / 1 + 1 = u.tx.length + 1 := by rw [tx_len]; omega
    rw [el] at cl ⊢
    simp (maxSteps := 1000000) -implicitDefEqProofs only [push_cast, seval, pt3, rd_of pt3, rd1_of pt3, l3]
    have w1 : IntKind.i64.wrap ((u.tx.length : Int) + 1 - 1) = ((u.tx.length : Nat) : Int) := by rw [w64 (by omega) (by omega)]; omega
    rw [w1, tt.1]
    exact ⟨rfl, _, cl.1, (c.fc p1).trans cl.2⟩
end Go.Proofs.YtdlpdfclljnmhaaGreat
namespace Go.Proofs.YtdlpdfclljnmhaaGreat
open Go Go.Sim Go.Proofs
set_option linter.unusedSimpArgs false
set_option linter.unusedVariables false
set_option maxRecDepth 100000
set_option maxHeartbeats 1000000
variable {kp : Nat} {vN vR vT vL vT' vL' vT2 vL2 : Value} {L : List (Nd × Value)} {R : List Ru} {s s' s2 u u' t : Wr0} {ln fn : Int} {h h1 h2 h' : AH}
theorem foldC_len (N : List Nd) (f : Nat) : ∀ (l : List Int) (u : Wr0), u.li.length ≤ (foldC N f l u).li.length
  | [], _ => Nat.le_refl _
  | a :: r, u => Nat.le_trans (comp_len N f a.toNat u) (foldC_len N f r _)
theorem foldC_le (N : List Nd) (f : Nat) (l : List Int) (u : Wr0) (i : Nat) : (foldC N f (l.take i) u).li.length ≤ (foldC N f l u).li.length := by
  have : foldC N f l u = foldC N f (l.drop i) (foldC N f (l.take i) u) := by
    unfold foldC
    rw [← List.foldl_append, List.take_append_drop]
  rw [this]
  exact foldC_len _ _ _ _
theorem ownI_text {x : Nd} {c : Int} (h1 : x.op ≠ 24) (h2 : x.op ≠ 17) (e : codeOp x.op = c) (ht : texted c = true) (t : Wr0) : ownI x t = putI (putT t x.text) c (txI t x.text) := by
  unfold ownI; rw [if_neg h1, if_neg h2, e, if_pos ht]
theorem ownI_bare {x : Nd} {c : Int} (h1 : x.op ≠ 24) (h2 : x.op ≠ 17) (e : codeOp x.op = c) (ht : texted c = false) (t : Wr0) : ownI x t = putI t c 0 := by
  unfold ownI; rw [if_neg h1, if_neg h2, e, if_neg (by rw [ht]; decide)]
theorem kid_ex {x : Nd} {a : Nat} {kop : Int} (h : isEx x.op = true) (hk : kidP x.op a kop = true) : isEx kop = true := by
  simp only [isEx, inB, Bool.and_eq_true, decide_eq_true_eq] at h
  unfold kidP at hk
  rw [if_neg (by omega), if_neg (by omega)] at hk
  exact hk
theorem ex_s (hok : programOk ⟨L.map Prod.fst, R⟩ = true) : ∀ k, k < L.length → isEx (nd (L.map Prod.fst) k).op = true → ∀ f, k < f → NodeOk 74 kp vN vR L R ln fn f k := by
  have okG := OkG.of hok
  intro k
  induction k using Nat.strongRecOn with
  | ind k ih =>
  intro hk hx0 f hf
  obtain ⟨g, rfl⟩ : ∃ g, f = g + 1 := ⟨f - 1, by omega⟩
  have ihg : ∀ j, j < k → isEx (nd (L.map Prod.fst) j).op = true → NodeOk 74 kp vN vR L R ln fn g j := fun j hj he => ih j hj (by omega) he g (by omega)
  have hL := okG.n
  have klen := okG.klen k hk
  have okN := OkN.of hok hk
  have hN : nd (L.map Prod.fst) k = L[k].1 := getD_map L k hk
  rw [hN] at hx0
  unfold NodeOk
  intro h s u vT vL c r hz ht
  have pt := c.pt
  have lt := c.lt
  have y1 := c.ones.1
  obtain ⟨iN, oN, qN, eN, lN, rN⟩ := c.rd.nodes.el (fun _ => rfl) hk
  simp only [encD] at rN
  have r0 := (rd_3 rN).1
  have r1 := (rd_3 rN).2.1
  have r2 := (rd_3 rN).2.2
  have hx : (L[k].1, L[k].2) ∈ L := List.getElem_mem hk
  have u1 := (c.rd.kids _ hx).one
  generalize L[k].1 = x at *
  generalize L[k].2 = kv at *
  have hop : 1 ≤ x.op ∧ x.op ≤ 16 := by
    simp only [isEx, inB, Bool.and_eq_true, decide_eq_true_eq] at hx0; exact hx0
  have p0 : Pre h ((h.alloc (.cells [.int .i64 0, .string ⟨#[]⟩, .slice none 0 0] .solo h.n)).set h.n (.cells [.int .i64 x.op, .string x.text, kv] .solo h.n)) := ((Pre.refl h).alloc _).set (Nat.le_refl _) _
  have c1 := c.pre p0
  have f1 := c.fc p0
  have b1 : Bx ((h.alloc (.cells [.int .i64 0, .string ⟨#[]⟩, .slice none 0 0] .solo h.n)).set h.n (.cells [.int .i64 x.op, .string x.text, kv] .solo h.n)) kp h.n vT vL [.int .i64 x.op, .string x.text, kv] :=
    ⟨set_same _ _, Nat.lt_succ_self _, by omega, fun e => by have := c.far (.inl e); omega, fun e => by have := c.far (.inr e); omega⟩
  refine CC.ofN Tryz.func74 Tryz.ntmps74 Tryz.results74 rfl (by decide) (by kernel_rfl) ?_
  subst eN
  simp (maxSteps := 1000000) -implicitDefEqProofs only [push_cast, seval, pt, rd_of pt, rd1_of pt, lt, y1, lN, rN, r0, r1, r2, u1]
  repeat (with_reducible refine And.intro ?_ ?_; · (first | omega | decide))
  generalize ((h.alloc (.cells [.int .i64 0, .string ⟨#[]⟩, .slice none 0 0] .solo h.n)).set h.n (.cells [.int .i64 x.op, .string x.text, kv] .solo h.n)) = h1 at *
  have ob1 := b1.ob
  have lb1 := b1.lt
  have et : comp (L.map Prod.fst) (g + 1) k u = ownI x (foldC (L.map Prod.fst) g x.kids u) := comp_no hN (by omega) u
  rw [et]
  have kr : RdV h1 kv 1 encZ x.kids := c1.rd.kids _ hx
  have kf := kr.rde (fun _ => rfl)
  clear kr
  with_reducible refine Exists.elim kf (fun Ak kf => ?_)
  with_reducible refine Exists.elim kf (fun ck kf => ?_)
  have ek := kf.1
  clear kf
  subst ek
  simp (maxSteps := 1000000) -implicitDefEqProofs only [push_cast, seval, ob1, rd_of ob1, rd1_of ob1, lb1, u1]
  refine WC.loopA (by kernel_rfl) [5] [14, 15, 16, 17, 18, 19, 20, 21, 22, 23, 24, 25, 26, 27, 28, 29, 30, 31, 32] (fun i : Nat => [.int .i64 (i : Nat)]) (fun i h' => i ≤ x.kids.length ∧ (∃ s', ∃ vT' vL', Cw h' kp (.slice (some ⟨iN, oN, none⟩) L.length qN) vR L R s' ln fn vT' vL' ∧ Rel s' (foldC (L.map Prod.fst) g (x.kids.take i) u) ∧ s.li.length ≤ s'.li.length ∧ s'.li.length ≤ max s.li.length (400 + 40 * k + 1) ∧ s'.tx.length ≤ s'.li.length ∧ Fc kp h h' vT vL vT' vL' ∧ Bx h' kp h.n vT' vL' [.int .i64 x.op, .string x.text, .slice Ak x.kids.length ck])) (fun i => x.kids.length - i) 0 (by kernel_rfl) ⟨Nat.zero_le _, s, vT, vL, c1, r, Nat.le_refl _, by omega, ht, f1, b1⟩ ?_
  intro i gg h2 hJ
  have hi := hJ.1
  have st := hJ.2
  clear hJ c1 f1 b1 ob1 lb1
  with_reducible refine Exists.elim st (fun s2 st => ?_)
  with_reducible refine Exists.elim st (fun vT2 st => ?_)
  with_reducible refine Exists.elim st (fun vL2 st => ?_)
  have c2 := st.1
  have r2' := st.2.1
  have ge2 := st.2.2.1
  have le2 := st.2.2.2.1
  have tx2 := st.2.2.2.2.1
  have f2 := st.2.2.2.2.2.1
  have b2 := st.2.2.2.2.2.2
  clear st
  have ob2 := b2.ob
  have lb2 := b2.lt
  simp (maxSteps := 1000000) -implicitDefEqProofs only [push_cast, seval, ob2, rd_of ob2, rd1_of ob2, lb2]
  with_reducible refine bcase_d (fun hb => ?_) (fun hb => ?_)
  rotate_left
  · have ei : i = x.kids.length := by omega
    have r3 : Rel s2 (foldC (L.map Prod.fst) g x.kids u) := by rw [ei, List.take_length] at r2'; exact r2'
    clear r2'
    generalize foldC (L.map Prod.fst) g x.kids u = U at *
    have ro := Rel.own r3 x
    simp (maxSteps := 1000000) -implicitDefEqProofs only [push_cast, seval, ob2, rd_of ob2, rd1_of ob2, lb2]
    with_reducible refine bcase_d (fun o1 => ?_) (fun o1 => ?_)
    · have d1 : decide (x.op = 1) = true := decide_eq_true o1
      simp (maxSteps := 1000000) -implicitDefEqProofs only [push_cast, seval, ob2, rd_of ob2, rd1_of ob2, lb2, d1]
      have eo := ownI_text (x := x) (c := 1) (by omega) (by omega) (by unfold codeOp; first | rw [if_pos (by omega)] | rw [if_neg (by omega), if_pos (by omega)] | (rw [if_neg (by omega), if_neg (by omega), if_neg (by omega)]; omega)) (by decide)
      rw [eo, eo] at ro
      rw [eo]
      simp (maxSteps := 1000000) -implicitDefEqProofs only [push_cast, seval, ob2, rd_of ob2, rd1_of ob2, lb2]
      with_reducible refine CC.mono (stext_c h2 c2 x.text (by omega)) (fun v h3 hv => ?_)
      have ev := hv.1
      have st := hv.2
      clear hv
      subst ev
      with_reducible refine Exists.elim st (fun vT3 st => ?_)
      have c3 := st.1
      have f3 := st.2
      clear st
      have gt := putT_len s2 x.text
      have gtx := putT_tx s2 x.text
      simp (maxSteps := 1000000) -implicitDefEqProofs only [push_cast, seval]
      with_reducible refine CC.mono (sput_c h3 c3 1 (txI s2 x.text : Nat) (by rw [gt]; omega)) (fun v h4 hv => ?_)
      have ev := hv.1
      have st := hv.2
      clear hv
      subst ev
      with_reducible refine Exists.elim st (fun vL4 st => ?_)
      have gl := putI_len (putT s2 x.text) 1 (txI s2 x.text : Nat)
      rw [gt] at gl
      simp (maxSteps := 1000000) -implicitDefEqProofs only [push_cast, seval]
      exact ⟨_, vT3, vL4, st.1, ro, by omega, by omega, by show (putT s2 x.text).tx.length ≤ _; omega, f2.trans (f3.trans st.2)⟩
    simp (maxSteps := 1000000) -implicitDefEqProofs only [push_cast, seval, ob2, rd_of ob2, rd1_of ob2, lb2]
    with_reducible refine bcase_d (fun o2 => ?_) (fun o2 => ?_)
    · simp (maxSteps := 1000000) -implicitDefEqProofs only [push_cast, seval, ob2, rd_of ob2, rd1_of ob2, lb2]
      have eo := ownI_text (x := x) (c := 1) (by omega) (by omega) (by unfold codeOp; first | rw [if_pos (by omega)] | rw [if_neg (by omega), if_pos (by omega)] | (rw [if_neg (by omega), if_neg (by omega), if_neg (by omega)]; omega)) (by decide)
      rw [eo, eo] at ro
      rw [eo]
      simp (maxSteps := 1000000) -implicitDefEqProofs only [push_cast, seval, ob2, rd_of ob2, rd1_of ob2, lb2]
      with_reducible refine CC.mono (stext_c h2 c2 x.text (by omega)) (fun v h3 hv => ?_)
      have ev := hv.1
      have st := hv.2
      clear hv
      subst ev
      with_reducible refine Exists.elim st (fun vT3 st => ?_)
      have c3 := st.1
      have f3 := st.2
      clear st
      have gt := putT_len s2 x.text
      have gtx := putT_tx s2 x.text
      simp (maxSteps := 1000000) -implicitDefEqProofs only [push_cast, seval]
      with_reducible refine CC.mono (sput_c h3 c3 1 (txI s2 x.text : Nat) (by rw [gt]; omega)) (fun v h4 hv => ?_)
      have ev := hv.1
      have st := hv.2
      clear hv
      subst ev
      with_reducible refine Exists.elim st (fun vL4 st => ?_)
      have gl := putI_len (putT s2 x.text) 1 (txI s2 x.text : Nat)
      rw [gt] at gl
      simp (maxSteps := 1000000) -implicitDefEqProofs only [push_cast, seval]
      exact ⟨_, vT3, vL4, st.1, ro, by omega, by omega, by show (putT s2 x.text).tx.length ≤ _; omega, f2.trans (f3.trans st.2)⟩
    simp (maxSteps := 1000000) -implicitDefEqProofs only [push_cast, seval, ob2, rd_of ob2, rd1_of ob2, lb2]
    with_reducible refine bcase_d (fun o3 => ?_) (fun o3 => ?_)
    · simp (maxSteps := 1000000) -implicitDefEqProofs only [push_cast, seval, ob2, rd_of ob2, rd1_of ob2, lb2]
      have eo := ownI_text (x := x) (c := 2) (by omega) (by omega) (by unfold codeOp; first | rw [if_pos (by omega)] | rw [if_neg (by omega), if_pos (by omega)] | (rw [if_neg (by omega), if_neg (by omega), if_neg (by omega)]; omega)) (by decide)
      rw [eo, eo] at ro
      rw [eo]
      simp (maxSteps := 1000000) -implicitDefEqProofs only [push_cast, seval, ob2, rd_of ob2, rd1_of ob2, lb2]
      with_reducible refine CC.mono (stext_c h2 c2 x.text (by omega)) (fun v h3 hv => ?_)
      have ev := hv.1
      have st := hv.2
      clear hv
      subst ev
      with_reducible refine Exists.elim st (fun vT3 st => ?_)
      have c3 := st.1
      have f3 := st.2
      clear st
      have gt := putT_len s2 x.text
      have gtx := putT_tx s2 x.text
      simp (maxSteps := 1000000) -implicitDefEqProofs only [push_cast, seval]
      with_reducible refine CC.mono (sput_c h3 c3 2 (txI s2 x.text : Nat) (by rw [gt]; omega)) (fun v h4 hv => ?_)
      have ev := hv.1
      have st := hv.2
      clear hv
      subst ev
      with_reducible refine Exists.elim st (fun vL4 st => ?_)
      have gl := putI_len (putT s2 x.text) 2 (txI s2 x.text : Nat)
      rw [gt] at gl
      simp (maxSteps := 1000000) -implicitDefEqProofs only [push_cast, seval]
      exact ⟨_, vT3, vL4, st.1, ro, by omega, by omega, by show (putT s2 x.text).tx.length ≤ _; omega, f2.trans (f3.trans st.2)⟩
    simp (maxSteps := 1000000) -implicitDefEqProofs only [push_cast, seval, ob2, rd_of ob2, rd1_of ob2, lb2]
    with_reducible refine bcase_d (fun o4 => ?_) (fun o4 => ?_)
    · simp (maxSteps := 1000000) -implicitDefEqProofs only [push_cast, seval, ob2, rd_of ob2, rd1_of ob2, lb2]
      have eo := ownI_text (x := x) (c := 3) (by omega) (by omega) (by unfold codeOp; first | rw [if_pos (by omega)] | rw [if_neg (by omega), if_pos (by omega)] | (rw [if_neg (by omega), if_neg (by omega), if_neg (by omega)]; omega)) (by decide)
      rw [eo, eo] at ro
      rw [eo]
      simp (maxSteps := 1000000) -implicitDefEqProofs only [push_cast, seval, ob2, rd_of ob2, rd1_of ob2, lb2]
      with_reducible refine CC.mono (stext_c h2 c2 x.text (by omega)) (fun v h3 hv => ?_)
      have ev := hv.1
      have st := hv.2
      clear hv
      subst ev
      with_reducible refine Exists.elim st (fun vT3 st => ?_)
      have c3 := st.1
      have f3 := st.2
      clear st
      have gt := putT_len s2 x.text
      have gtx := putT_tx s2 x.text
      simp (maxSteps := 1000000) -implicitDefEqProofs only [push_cast, seval]
      with_reducible refine CC.mono (sput_c h3 c3 3 (txI s2 x.text : Nat) (by rw [gt]; omega)) (fun v h4 hv => ?_)
      have ev := hv.1
      have st := hv.2
      clear hv
      subst ev
      with_reducible refine Exists.elim st (fun vL4 st => ?_)
      have gl := putI_len (putT s2 x.text) 3 (txI s2 x.text : Nat)
      rw [gt] at gl
      simp (maxSteps := 1000000) -implicitDefEqProofs only [push_cast, seval]
      exact ⟨_, vT3, vL4, st.1, ro, by omega, by omega, by show (putT s2 x.text).tx.length ≤ _; omega, f2.trans (f3.trans st.2)⟩
    simp (maxSteps := 1000000) -implicitDefEqProofs only [push_cast, seval, ob2, rd_of ob2, rd1_of ob2, lb2]
    with_reducible refine bcase_d (fun o16 => ?_) (fun o16 => ?_)
    · simp (maxSteps := 1000000) -implicitDefEqProofs only [push_cast, seval, ob2, rd_of ob2, rd1_of ob2, lb2]
      have eo := ownI_text (x := x) (c := 15) (by omega) (by omega) (by unfold codeOp; first | rw [if_pos (by omega)] | rw [if_neg (by omega), if_pos (by omega)] | (rw [if_neg (by omega), if_neg (by omega), if_neg (by omega)]; omega)) (by decide)
      rw [eo, eo] at ro
      rw [eo]
      simp (maxSteps := 1000000) -implicitDefEqProofs only [push_cast, seval, ob2, rd_of ob2, rd1_of ob2, lb2]
      with_reducible refine CC.mono (stext_c h2 c2 x.text (by omega)) (fun v h3 hv => ?_)
      have ev := hv.1
      have st := hv.2
      clear hv
      subst ev
      with_reducible refine Exists.elim st (fun vT3 st => ?_)
      have c3 := st.1
      have f3 := st.2
      clear st
      have gt := putT_len s2 x.text
      have gtx := putT_tx s2 x.text
      simp (maxSteps := 1000000) -implicitDefEqProofs only [push_cast, seval]
      with_reducible refine CC.mono (sput_c h3 c3 15 (txI s2 x.text : Nat) (by rw [gt]; omega)) (fun v h4 hv => ?_)
      have ev := hv.1
      have st := hv.2
      clear hv
      subst ev
      with_reducible refine Exists.elim st (fun vL4 st => ?_)
      have gl := putI_len (putT s2 x.text) 15 (txI s2 x.text : Nat)
      rw [gt] at gl
      simp (maxSteps := 1000000) -implicitDefEqProofs only [push_cast, seval]
      exact ⟨_, vT3, vL4, st.1, ro, by omega, by omega, by show (putT s2 x.text).tx.length ≤ _; omega, f2.trans (f3.trans st.2)⟩
    have w4 : IntKind.i64.wrap (IntKind.i64.wrap (4 + x.op) - 5) = x.op - 1 := by rw [w64 (n := 4 + x.op) (by omega) (by omega), w64 (by omega) (by omega)]; omega
    have et2 : texted (x.op - 1) = false := by
      have : x.op = 5 ∨ x.op = 6 ∨ x.op = 7 ∨ x.op = 8 ∨ x.op = 9 ∨ x.op = 10 ∨ x.op = 11 ∨ x.op = 12 ∨ x.op = 13 ∨ x.op = 14 ∨ x.op = 15 := by omega
      rcases this with e | e | e | e | e | e | e | e | e | e | e <;> rw [e] <;> decide
    have eo := ownI_bare (x := x) (c := x.op - 1) (by omega) (by omega) (by unfold codeOp; rw [if_neg (by omega), if_neg (by omega), if_neg (by omega)]) et2
    rw [eo, eo] at ro
    rw [eo]
    simp (maxSteps := 1000000) -implicitDefEqProofs only [push_cast, seval, ob2, rd_of ob2, rd1_of ob2, lb2, w4]
    with_reducible refine CC.mono (sput_c h2 c2 (x.op - 1) 0 (by omega)) (fun v h3 hv => ?_)
    have ev := hv.1
    have st := hv.2
    clear hv
    subst ev
    with_reducible refine Exists.elim st (fun vL3 st => ?_)
    have gl := putI_len s2 (x.op - 1) 0
    simp (maxSteps := 1000000) -implicitDefEqProofs only [push_cast, seval]
    exact ⟨_, vT2, vL3, st.1, ro, by omega, by omega, by show s2.tx.length ≤ _; omega, f2.trans st.2⟩
  have hi' : i < x.kids.length := by omega
  simp (maxSteps := 1000000) -implicitDefEqProofs only [push_cast, seval, ob2, rd_of ob2, rd1_of ob2, lb2]
  with_reducible refine CD.to (sfull_c h2 c2) ?_
  simp (maxSteps := 1000000) -implicitDefEqProofs only [push_cast, seval, ob2, rd_of ob2, rd1_of ob2, lb2]
  with_reducible refine bcase_d (fun hfull => ?_) (fun hfull => ?_)
  · have hfl : 400 < s2.li.length := by omega
    have r3 : Rel s2 (foldC (L.map Prod.fst) g x.kids u) := by
      have := foldC_le (L.map Prod.fst) g x.kids u i
      rcases r2' with e | e
      · rw [e] at hfl ⊢; exact .inr ⟨by omega, by omega⟩
      · exact .inr ⟨e.1, by omega⟩
    clear r2'
    generalize foldC (L.map Prod.fst) g x.kids u = U at *
    have ro := Rel.own r3 x
    simp (maxSteps := 1000000) -implicitDefEqProofs only [push_cast, seval, ob2, rd_of ob2, rd1_of ob2, lb2]
    with_reducible refine bcase_d (fun o1 => ?_) (fun o1 => ?_)
    · have d1 : decide (x.op = 1) = true := decide_eq_true o1
      simp (maxSteps := 1000000) -implicitDefEqProofs only [push_cast, seval, ob2, rd_of ob2, rd1_of ob2, lb2, d1]
      have eo := ownI_text (x := x) (c := 1) (by omega) (by omega) (by unfold codeOp; first | rw [if_pos (by omega)] | rw [if_neg (by omega), if_pos (by omega)] | (rw [if_neg (by omega), if_neg (by omega), if_neg (by omega)]; omega)) (by decide)
      rw [eo, eo] at ro
      rw [eo]
      simp (maxSteps := 1000000) -implicitDefEqProofs only [push_cast, seval, ob2, rd_of ob2, rd1_of ob2, lb2]
      with_reducible refine CC.mono (stext_c h2 c2 x.text (by omega)) (fun v h3 hv => ?_)
      have ev := hv.1
      have st := hv.2
      clear hv
      subst ev
      with_reducible refine Exists.elim st (fun vT3 st => ?_)
      have c3 := st.1
      have f3 := st.2
      clear st
      have gt := putT_len s2 x.text
      have gtx := putT_tx s2 x.text
      simp (maxSteps := 1000000) -implicitDefEqProofs only [push_cast, seval]
      with_reducible refine CC.mono (sput_c h3 c3 1 (txI s2 x.text : Nat) (by rw [gt]; omega)) (fun v h4 hv => ?_)
      have ev := hv.1
      have st := hv.2
      clear hv
      subst ev
      with_reducible refine Exists.elim st (fun vL4 st => ?_)
      have gl := putI_len (putT s2 x.text) 1 (txI s2 x.text : Nat)
      rw [gt] at gl
      simp (maxSteps := 1000000) -implicitDefEqProofs only [push_cast, seval]
      exact ⟨_, vT3, vL4, st.1, ro, by omega, by omega, by show (putT s2 x.text).tx.length ≤ _; omega, f2.trans (f3.trans st.2)⟩
    simp (maxSteps := 1000000) -implicitDefEqProofs only [push_cast, seval, ob2, rd_of ob2, rd1_of ob2, lb2]
    with_reducible refine bcase_d (fun o2 => ?_) (fun o2 => ?_)
    · simp (maxSteps := 1000000) -implicitDefEqProofs only [push_cast, seval, ob2, rd_of ob2, rd1_of ob2, lb2]
      have eo := ownI_text (x := x) (c := 1) (by omega) (by omega) (by unfold codeOp; first | rw [if_pos (by omega)] | rw [if_neg (by omega), if_pos (by omega)] | (rw [if_neg (by omega), if_neg (by omega), if_neg (by omega)]; omega)) (by decide)
      rw [eo, eo] at ro
      rw [eo]
      simp (maxSteps := 1000000) -implicitDefEqProofs only [push_cast, seval, ob2, rd_of ob2, rd1_of ob2, lb2]
      with_reducible refine CC.mono (stext_c h2 c2 x.text (by omega)) (fun v h3 hv => ?_)
      have ev := hv.1
      have st := hv.2
      clear hv
      subst ev
      with_reducible refine Exists.elim st (fun vT3 st => ?_)
      have c3 := st.1
      have f3 := st.2
      clear st
      have gt := putT_len s2 x.text
      have gtx := putT_tx s2 x.text
      simp (maxSteps := 1000000) -implicitDefEqProofs only [push_cast, seval]
      with_reducible refine CC.mono (sput_c h3 c3 1 (txI s2 x.text : Nat) (by rw [gt]; omega)) (fun v h4 hv => ?_)
      have ev := hv.1
      have st := hv.2
      clear hv
      subst ev
      with_reducible refine Exists.elim st (fun vL4 st => ?_)
      have gl := putI_len (putT s2 x.text) 1 (txI s2 x.text : Nat)
      rw [gt] at gl
      simp (maxSteps := 1000000) -implicitDefEqProofs only [push_cast, seval]
      exact ⟨_, vT3, vL4, st.1, ro, by omega, by omega, by show (putT s2 x.text).tx.length ≤ _; omega, f2.trans (f3.trans st.2)⟩
    simp (maxSteps := 1000000) -implicitDefEqProofs only [push_cast, seval, ob2, rd_of ob2, rd1_of ob2, lb2]
    with_reducible refine bcase_d (fun o3 => ?_) (fun o3 => ?_)
    · simp (maxSteps := 1000000) -implicitDefEqProofs only [push_cast, seval, ob2, rd_of ob2, rd1_of ob2, lb2]
      have eo := ownI_text (x := x) (c := 2) (by omega) (by omega) (by unfold codeOp; first | rw [if_pos (by omega)] | rw [if_neg (by omega), if_pos (by omega)] | (rw [if_neg (by omega), if_neg (by omega), if_neg (by omega)]; omega)) (by decide)
      rw [eo, eo] at ro
      rw [eo]
      simp (maxSteps := 1000000) -implicitDefEqProofs only [push_cast, seval, ob2, rd_of ob2, rd1_of ob2, lb2]
      with_reducible refine CC.mono (stext_c h2 c2 x.text (by omega)) (fun v h3 hv => ?_)
      have ev := hv.1
      have st := hv.2
      clear hv
      subst ev
      with_reducible refine Exists.elim st (fun vT3 st => ?_)
      have c3 := st.1
      have f3 := st.2
      clear st
      have gt := putT_len s2 x.text
      have gtx := putT_tx s2 x.text
      simp (maxSteps := 1000000) -implicitDefEqProofs only [push_cast, seval]
      with_reducible refine CC.mono (sput_c h3 c3 2 (txI s2 x.text : Nat) (by rw [gt]; omega)) (fun v h4 hv => ?_)
      have ev := hv.1
      have st := hv.2
      clear hv
      subst ev
      with_reducible refine Exists.elim st (fun vL4 st => ?_)
      have gl := putI_len (putT s2 x.text) 2 (txI s2 x.text : Nat)
      rw [gt] at gl
      simp (maxSteps := 1000000) -implicitDefEqProofs only [push_cast, seval]
      exact ⟨_, vT3, vL4, st.1, ro, by omega, by omega, by show (putT s2 x.text).tx.length ≤ _; omega, f2.trans (f3.trans st.2)⟩
    simp (maxSteps := 1000000) -implicitDefEqProofs only [push_cast, seval, ob2, rd_of ob2, rd1_of ob2, lb2]
    with_reducible refine bcase_d (fun o4 => ?_) (fun o4 => ?_)
    · simp (maxSteps := 1000000) -implicitDefEqProofs only [push_cast, seval, ob2, rd_of ob2, rd1_of ob2, lb2]
      have eo := ownI_text (x := x) (c := 3) (by omega) (by omega) (by unfold codeOp; first | rw [if_pos (by omega)] | rw [if_neg (by omega), if_pos (by omega)] | (rw [if_neg (by omega), if_neg (by omega), if_neg (by omega)]; omega)) (by decide)
      rw [eo, eo] at ro
      rw [eo]
      simp (maxSteps := 1000000) -implicitDefEqProofs only [push_cast, seval, ob2, rd_of ob2, rd1_of ob2, lb2]
      with_reducible refine CC.mono (stext_c h2 c2 x.text (by omega)) (fun v h3 hv => ?_)
      have ev := hv.1
      have st := hv.2
      clear hv
      subst ev
      with_reducible refine Exists.elim st (fun vT3 st => ?_)
      have c3 := st.1
      have f3 := st.2
      clear st
      have gt := putT_len s2 x.text
      have gtx := putT_tx s2 x.text
      simp (maxSteps := 1000000) -implicitDefEqProofs only [push_cast, seval]
      with_reducible refine CC.mono (sput_c h3 c3 3 (txI s2 x.text : Nat) (by rw [gt]; omega)) (fun v h4 hv => ?_)
      have ev := hv.1
      have st := hv.2
      clear hv
      subst ev
      with_reducible refine Exists.elim st (fun vL4 st => ?_)
      have gl := putI_len (putT s2 x.text) 3 (txI s2 x.text : Nat)
      rw [gt] at gl
      simp (maxSteps := 1000000) -implicitDefEqProofs only [push_cast, seval]
      exact ⟨_, vT3, vL4, st.1, ro, by omega, by omega, by show (putT s2 x.text).tx.length ≤ _; omega, f2.trans (f3.trans st.2)⟩
    simp (maxSteps := 1000000) -implicitDefEqProofs only [push_cast, seval, ob2, rd_of ob2, rd1_of ob2, lb2]
    with_reducible refine bcase_d (fun o16 => ?_) (fun o16 => ?_)
    · simp (maxSteps := 1000000) -implicitDefEqProofs only [push_cast, seval, ob2, rd_of ob2, rd1_of ob2, lb2]
      have eo := ownI_text (x := x) (c := 15) (by omega) (by omega) (by unfold codeOp; first | rw [if_pos (by omega)] | rw [if_neg (by omega), if_pos (by omega)] | (rw [if_neg (by omega), if_neg (by omega), if_neg (by omega)]; omega)) (by decide)
      rw [eo, eo] at ro
      rw [eo]
      simp (maxSteps := 1000000) -implicitDefEqProofs only [push_cast, seval, ob2, rd_of ob2, rd1_of ob2, lb2]
      with_reducible refine CC.mono (stext_c h2 c2 x.text (by omega)) (fun v h3 hv => ?_)
      have ev := hv.1
      have st := hv.2
      clear hv
      subst ev
      with_reducible refine Exists.elim st (fun vT3 st => ?_)
      have c3 := st.1
      have f3 := st.2
      clear st
      have gt := putT_len s2 x.text
      have gtx := putT_tx s2 x.text
      simp (maxSteps := 1000000) -implicitDefEqProofs only [push_cast, seval]
      with_reducible refine CC.mono (sput_c h3 c3 15 (txI s2 x.text : Nat) (by rw [gt]; omega)) (fun v h4 hv => ?_)
      have ev := hv.1
      have st := hv.2
      clear hv
      subst ev
      with_reducible refine Exists.elim st (fun vL4 st => ?_)
      have gl := putI_len (putT s2 x.text) 15 (txI s2 x.text : Nat)
      rw [gt] at gl
      simp (maxSteps := 1000000) -implicitDefEqProofs only [push_cast, seval]
      exact ⟨_, vT3, vL4, st.1, ro, by omega, by omega, by show (putT s2 x.text).tx.length ≤ _; omega, f2.trans (f3.trans st.2)⟩
    have w4 : IntKind.i64.wrap (IntKind.i64.wrap (4 + x.op) - 5) = x.op - 1 := by rw [w64 (n := 4 + x.op) (by omega) (by omega), w64 (by omega) (by omega)]; omega
    have et2 : texted (x.op - 1) = false := by
      have : x.op = 5 ∨ x.op = 6 ∨ x.op = 7 ∨ x.op = 8 ∨ x.op = 9 ∨ x.op = 10 ∨ x.op = 11 ∨ x.op = 12 ∨ x.op = 13 ∨ x.op = 14 ∨ x.op = 15 := by omega
      rcases this with e | e | e | e | e | e | e | e | e | e | e <;> rw [e] <;> decide
    have eo := ownI_bare (x := x) (c := x.op - 1) (by omega) (by omega) (by unfold codeOp; rw [if_neg (by omega), if_neg (by omega), if_neg (by omega)]) et2
    rw [eo, eo] at ro
    rw [eo]
    simp (maxSteps := 1000000) -implicitDefEqProofs only [push_cast, seval, ob2, rd_of ob2, rd1_of ob2, lb2, w4]
    with_reducible refine CC.mono (sput_c h2 c2 (x.op - 1) 0 (by omega)) (fun v h3 hv => ?_)
    have ev := hv.1
    have st := hv.2
    clear hv
    subst ev
    with_reducible refine Exists.elim st (fun vL3 st => ?_)
    have gl := putI_len s2 (x.op - 1) 0
    simp (maxSteps := 1000000) -implicitDefEqProofs only [push_cast, seval]
    exact ⟨_, vT2, vL3, st.1, ro, by omega, by omega, by show s2.tx.length ≤ _; omega, f2.trans st.2⟩
  have hs4 : s2.li.length ≤ 400 := by omega
  have kk := okN.kid i hi'
  with_reducible refine Exists.elim kk (fun j kk => ?_)
  have ej := kk.1
  have lj := kk.2.1
  have kj := kid_ex hx0 kk.2.2
  have fs := foldC_succ (N := L.map Prod.fst) (f := g) (u := u) hi' ej
  have Ej := ihg j lj kj
  unfold NodeOk at Ej
  have z0 := kid_rd c2 hx hi' ej
  with_reducible refine Exists.elim z0 (fun id z0 => ?_)
  with_reducible refine Exists.elim z0 (fun off z0 => ?_)
  with_reducible refine Exists.elim z0 (fun q z0 => ?_)
  have ekv := z0.1
  injection ekv with ekv _ _
  subst ekv
  have lid := z0.2.1
  have rk := z0.2.2
  clear z0
  simp (maxSteps := 1000000) -implicitDefEqProofs only [push_cast, seval, ob2, rd_of ob2, rd1_of ob2, lb2, rk, lid]
  repeat (with_reducible refine And.intro ?_ ?_; · (first | omega | decide))
  with_reducible refine CC.mono (Ej h2 s2 _ vT2 vL2 c2 r2' (by omega) tx2) (fun v h3 hv => ?_)
  have ev := hv.1
  have st := hv.2
  clear hv
  subst ev
  unfold StepP at st
  with_reducible refine Exists.elim st (fun s3 st => ?_)
  with_reducible refine Exists.elim st (fun vT3 st => ?_)
  with_reducible refine Exists.elim st (fun vL3 st => ?_)
  simp (maxSteps := 1000000) -implicitDefEqProofs only [push_cast, seval]
  rw [wrapSucc (by omega)]
  refine ⟨i + 1, by kernel_rfl, ⟨by omega, s3, vT3, vL3, st.1, by rw [fs]; exact st.2.1, by have := st.2.2.1; omega, by have := st.2.2.2.1; omega, st.2.2.2.2.1, f2.trans st.2.2.2.2.2, b2.fc st.2.2.2.2.2⟩, by omega⟩
end Go.Proofs.YtdlpdfclljnmhaaGreat
namespace Go.Proofs.YtdlpdfclljnmhaaGreat
open Go Go.Sim Go.Proofs
set_option linter.unusedSimpArgs false
set_option linter.unusedVariables false
set_option maxRecDepth 100000
set_option maxHeartbeats 1000000
variable {kp : Nat} {vN vR vT vL vT' vL' vT2 vL2 : Value} {L : List (Nd × Value)} {R : List Ru} {s s' s2 u u' t : Wr0} {ln fn : Int} {h h1 h2 h' : AH}
theorem kid_24 {a : Nat} {kop : Int} (hk : kidP 24 a kop = true) : isEx kop = false := by
  unfold kidP at hk
  rw [if_neg (by omega), if_pos rfl] at hk
  simpa using hk
theorem kid_22a {kop : Int} (hk : kidP 22 0 kop = true) : isEx kop = true := by
  unfold kidP at hk
  rw [if_neg (by omega), if_neg (by omega)] at hk
  exact hk
theorem kid_22b {a : Nat} {kop : Int} (h0 : 0 < a) (hk : kidP 22 a kop = true) : isEx kop = false := by
  unfold kidP at hk
  rw [if_pos ⟨rfl, h0⟩] at hk
  simp only [Bool.and_eq_true, Bool.not_eq_true'] at hk
  exact hk.1
theorem kid_st {op : Int} {a : Nat} {kop : Int} (h2 : op ≠ 22) (h4 : op ≠ 24) (hk : kidP op a kop = true) : isEx kop = true := by
  unfold kidP at hk
  rw [if_neg (fun e => h2 e.1), if_neg h4] at hk
  exact hk
theorem st_s (hok : programOk ⟨L.map Prod.fst, R⟩ = true) : ∀ k, k < L.length → isEx (nd (L.map Prod.fst) k).op = false → ∀ f, k < f → NodeOk 76 kp vN vR L R ln fn f k := by
  have okG := OkG.of hok
  intro k
  induction k using Nat.strongRecOn with
  | ind k ih =>
  intro hk hx0 f hf
  obtain ⟨g, rfl⟩ : ∃ g, f = g + 1 := ⟨f - 1, by omega⟩
  have ihg : ∀ j, j < k → isEx (nd (L.map Prod.fst) j).op = false → NodeOk 76 kp vN vR L R ln fn g j := fun j hj he => ih j hj (by omega) he g (by omega)
  have hL := okG.n
  have klen := okG.klen k hk
  have okN := OkN.of hok hk
  have hN : nd (L.map Prod.fst) k = L[k].1 := getD_map L k hk
  rw [hN] at hx0
  unfold NodeOk
  intro h s u vT vL c r hz ht
  have pt := c.pt
  have lt := c.lt
  have y1 := c.ones.1
  obtain ⟨iN, oN, qN, eN, lN, rN⟩ := c.rd.nodes.el (fun _ => rfl) hk
  simp only [encD] at rN
  have r0 := (rd_3 rN).1
  have r1 := (rd_3 rN).2.1
  have r2 := (rd_3 rN).2.2
  have hx : (L[k].1, L[k].2) ∈ L := List.getElem_mem hk
  have u1 := (c.rd.kids _ hx).one
  generalize L[k].1 = x at *
  generalize L[k].2 = kv at *
  have hop : 17 ≤ x.op ∧ x.op ≤ 25 := by
    have := okN.op
    have h1 : ¬ isEx x.op = true := by rw [hx0]; decide
    simp only [isEx, inB, Bool.and_eq_true, decide_eq_true_eq] at h1 this
    omega
  have p0 : Pre h ((h.alloc (.cells [.int .i64 0, .string ⟨#[]⟩, .slice none 0 0] .solo h.n)).set h.n (.cells [.int .i64 x.op, .string x.text, kv] .solo h.n)) := ((Pre.refl h).alloc _).set (Nat.le_refl _) _
  have c1 := c.pre p0
  have f1 := c.fc p0
  have b1 : Bx ((h.alloc (.cells [.int .i64 0, .string ⟨#[]⟩, .slice none 0 0] .solo h.n)).set h.n (.cells [.int .i64 x.op, .string x.text, kv] .solo h.n)) kp h.n vT vL [.int .i64 x.op, .string x.text, kv] :=
    ⟨set_same _ _, Nat.lt_succ_self _, by omega, fun e => by have := c.far (.inl e); omega, fun e => by have := c.far (.inr e); omega⟩
  refine CC.ofN Tryz.func76 Tryz.ntmps76 Tryz.results76 rfl (by decide) (by kernel_rfl) ?_
  subst eN
  simp (maxSteps := 1000000) -implicitDefEqProofs only [push_cast, seval, pt, rd_of pt, rd1_of pt, lt, y1, lN, rN, r0, r1, r2, u1]
  repeat (with_reducible refine And.intro ?_ ?_; · (first | omega | decide))
  generalize ((h.alloc (.cells [.int .i64 0, .string ⟨#[]⟩, .slice none 0 0] .solo h.n)).set h.n (.cells [.int .i64 x.op, .string x.text, kv] .solo h.n)) = h1 at *
  have ob1 := b1.ob
  have lb1 := b1.lt
  with_reducible refine CD.to (sfull_c h1 c1) ?_
  simp (maxSteps := 1000000) -implicitDefEqProofs only [push_cast, seval]
  with_reducible refine bcase_d (fun hfull => ?_) (fun hfull => ?_)
  · simp (maxSteps := 1000000) -implicitDefEqProofs only [push_cast, seval]
    have cl := comp_len (L.map Prod.fst) (g + 1) k u
    refine ⟨s, vT, vL, c1, ?_, Nat.le_refl _, by omega, ht, f1⟩
    rcases r with e | ⟨a, b⟩
    · subst e; exact .inr ⟨by omega, by omega⟩
    · exact .inr ⟨a, by omega⟩
  have hs4 : s.li.length ≤ 400 := by omega
  have EX := fun j (hj : j < k) (e : isEx (nd (L.map Prod.fst) j).op = true) => ex_s (kp := kp) (vN := (.slice (some ⟨iN, oN, none⟩) L.length qN)) (vR := vR) (ln := ln) (fn := fn) hok j (by omega) e g (by omega)
  by_cases h24 : x.op = 24
  · have d24 : decide (x.op = 24) = true := decide_eq_true h24
    have et : comp (L.map Prod.fst) (g + 1) k u = ownI x (foldC (L.map Prod.fst) g x.kids u) := comp_no hN (by omega) u
    have eo : ∀ t, ownI x t = t := fun t => by unfold ownI; rw [if_pos h24]
    rw [et, eo]
    have kr : RdV h1 kv 1 encZ x.kids := c1.rd.kids _ hx
    have kf := kr.rde (fun _ => rfl)
    clear kr
    with_reducible refine Exists.elim kf (fun Ak kf => ?_)
    with_reducible refine Exists.elim kf (fun ck kf => ?_)
    have ek := kf.1
    clear kf
    subst ek

    simp (maxSteps := 1000000) -implicitDefEqProofs only [push_cast, seval, ob1, rd_of ob1, rd1_of ob1, lb1, d24, u1]
    refine WC.loopA (by kernel_rfl) [5] [23, 24, 25, 26, 27, 28, 29, 30, 31, 32, 33, 34, 35, 36] (fun i : Nat => [.int .i64 (i : Nat)]) (fun i h' => i ≤ x.kids.length ∧ (∃ s', ∃ vT' vL', Cw h' kp (.slice (some ⟨iN, oN, none⟩) L.length qN) vR L R s' ln fn vT' vL' ∧ Rel s' (foldC (L.map Prod.fst) g (x.kids.take i) u) ∧ s.li.length ≤ s'.li.length ∧ s'.li.length ≤ 400 + 40 * k + i ∧ s'.tx.length ≤ s'.li.length ∧ Fc kp h h' vT vL vT' vL' ∧ Bx h' kp h.n vT' vL' [.int .i64 x.op, .string x.text, .slice Ak x.kids.length ck])) (fun i => x.kids.length - i) 0 (by kernel_rfl) ⟨Nat.zero_le _, s, vT, vL, c1, r, Nat.le_refl _, by omega, ht, f1, b1⟩ ?_
    intro i gg h2 hJ
    have hi := hJ.1
    have st := hJ.2
    clear hJ c1 f1 b1 ob1 lb1
    with_reducible refine Exists.elim st (fun s2 st => ?_)
    with_reducible refine Exists.elim st (fun vT2 st => ?_)
    with_reducible refine Exists.elim st (fun vL2 st => ?_)
    have c2 := st.1
    have r2' := st.2.1
    have ge2 := st.2.2.1
    have le2 := st.2.2.2.1
    have tx2 := st.2.2.2.2.1
    have f2 := st.2.2.2.2.2.1
    have b2 := st.2.2.2.2.2.2
    clear st
    have ob2 := b2.ob
    have lb2 := b2.lt
    simp (maxSteps := 1000000) -implicitDefEqProofs only [push_cast, seval, ob2, rd_of ob2, rd1_of ob2, lb2]
    with_reducible refine bcase_d (fun hb => ?_) (fun hb => ?_)
    rotate_left
    · have ei : i = x.kids.length := by omega
      have r3 : Rel s2 (foldC (L.map Prod.fst) g x.kids u) := by rw [ei, List.take_length] at r2'; exact r2'
      clear r2
      generalize foldC (L.map Prod.fst) g x.kids u = U at *
      have ro := Rel.own r3 x
      rw [eo, eo] at ro
      simp (maxSteps := 1000000) -implicitDefEqProofs only [push_cast, seval]
      exact ⟨s2, vT2, vL2, c2, ro, ge2, by omega, tx2, f2⟩
    have hi' : i < x.kids.length := by omega
    have kk := okN.kid i hi'
    with_reducible refine Exists.elim kk (fun j kk => ?_)
    have ej := kk.1
    have lj := kk.2.1
    have kj := kid_24 (by rw [← h24]; exact kk.2.2)
    have fs := foldC_succ (N := L.map Prod.fst) (f := g) (u := u) hi' ej
    have Ej := ihg j lj kj
    unfold NodeOk at Ej
    have z0 := kid_rd c2 hx hi' ej
    with_reducible refine Exists.elim z0 (fun id z0 => ?_)
    with_reducible refine Exists.elim z0 (fun off z0 => ?_)
    with_reducible refine Exists.elim z0 (fun q z0 => ?_)
    have ekv := z0.1
    injection ekv with ekv _ _
    subst ekv
    have lid := z0.2.1
    have rk := z0.2.2
    clear z0
    simp (maxSteps := 1000000) -implicitDefEqProofs only [push_cast, seval, ob2, rd_of ob2, rd1_of ob2, lb2, rk, lid]
    repeat (with_reducible refine And.intro ?_ ?_; · (first | omega | decide))
    with_reducible refine CC.mono (Ej h2 s2 _ vT2 vL2 c2 r2' (by omega) tx2) (fun v h3 hv => ?_)
    have ev := hv.1
    have st := hv.2
    clear hv
    subst ev
    unfold StepP at st
    with_reducible refine Exists.elim st (fun s3 st => ?_)
    with_reducible refine Exists.elim st (fun vT3 st => ?_)
    with_reducible refine Exists.elim st (fun vL3 st => ?_)
    simp (maxSteps := 1000000) -implicitDefEqProofs only [push_cast, seval]
    rw [wrapSucc (by omega)]
    refine ⟨i + 1, by kernel_rfl, ⟨by omega, s3, vT3, vL3, st.1, by rw [fs]; exact st.2.1, by have := st.2.2.1; omega, by have := st.2.2.2.1; omega, st.2.2.2.2.1, f2.trans st.2.2.2.2.2, b2.fc st.2.2.2.2.2⟩, by omega⟩

  have d24 : decide (x.op = 24) = false := decide_eq_false h24
  by_cases h23 : x.op = 23
  · have d23 : decide (x.op = 23) = true := decide_eq_true h23
    have et : comp (L.map Prod.fst) (g + 1) k u = ownI x (foldC (L.map Prod.fst) g x.kids u) := comp_no hN (by omega) u
    have e0 : x.kids = [] := by
      have := okN.len
      rw [h23] at this
      simp only [manyP, rangeP, inB, Bool.and_eq_true, decide_eq_true_eq] at this
      have : x.kids.length = 0 := by simpa using this
      exact List.eq_nil_of_length_eq_zero this
    have eo := ownI_bare (x := x) (c := 23) (by omega) (by omega) (by unfold codeOp; rw [if_neg (by omega), if_neg (by omega), if_pos h23]) (by decide)
    have ro := Rel.own r x
    rw [eo, eo] at ro
    rw [et, eo, e0]
    simp (maxSteps := 1000000) -implicitDefEqProofs only [push_cast, seval, ob1, rd_of ob1, rd1_of ob1, lb1, d24, d23, u1]
    with_reducible refine CC.mono (sput_c h1 c1 23 0 (by omega)) (fun v h3 hv => ?_)
    have ev := hv.1
    have st := hv.2
    clear hv
    subst ev
    with_reducible refine Exists.elim st (fun vL3 st => ?_)
    have gl := putI_len s 23 0
    simp (maxSteps := 1000000) -implicitDefEqProofs only [push_cast, seval]
    exact ⟨_, vT, vL3, st.1, ro, by omega, by omega, by show s.tx.length ≤ _; omega, f1.trans st.2⟩
  have d23 : decide (x.op = 23) = false := decide_eq_false h23
  by_cases h22 : x.op = 22
  · have d22 : decide (x.op = 22) = true := decide_eq_true h22
    have hlen := okN.len
    rw [h22] at hlen
    have hlen : 2 ≤ x.kids.length ∧ x.kids.length ≤ 3 := by
      simp only [manyP, inB, Bool.and_eq_true, decide_eq_true_eq, if_true] at hlen; omega
    have g0 := okN.kid 0 (by omega)
    have g1 := okN.kid 1 (by omega)
    have g2 := fun e : x.kids.length = 3 => okN.kid 2 (by omega)
    with_reducible refine Exists.elim g0 (fun k0 g0 => ?_)
    with_reducible refine Exists.elim g1 (fun k1 g1 => ?_)
    have hl : x.kids.length = 2 ∨ (x.kids.length = 3 ∧ ∃ k2 : Nat, x.kids.getD 2 0 = (k2 : Int) ∧ k2 < k ∧ isEx (nd (L.map Prod.fst) k2).op = false) := by
      by_cases e : x.kids.length = 3
      · obtain ⟨k2, a, b, d⟩ := g2 e
        exact .inr ⟨e, k2, a, b, kid_22b (a := 2) (by omega) (by rw [← h22]; exact d)⟩
      · exact .inl (by omega)
    have e0 := g0.1
    have e1 := g1.1
    have kn0 : kidN x 0 = k0 := by unfold kidN; rw [e0]; rfl
    have kn1 : kidN x 1 = k1 := by unfold kidN; rw [e1]; rfl
    have hl2 : 2 ≤ x.kids.length := by omega
    rw [comp_if hN h22, kn0, kn1]
    have E0 := EX k0 g0.2.1 (kid_22a (by rw [← h22]; exact g0.2.2))
    have E1 := ihg k1 g1.2.1 (kid_22b (a := 1) (by omega) (by rw [← h22]; exact g1.2.2))
    unfold NodeOk at E0 E1
    simp (maxSteps := 1000000) -implicitDefEqProofs only [push_cast, seval, ob1, rd_of ob1, rd1_of ob1, lb1, d24, d23, d22, u1]
    have z0 := kid_rd c1 hx (a := 0) (by omega) e0
    with_reducible refine Exists.elim z0 (fun id z0 => ?_)
    with_reducible refine Exists.elim z0 (fun off z0 => ?_)
    with_reducible refine Exists.elim z0 (fun q z0 => ?_)
    have ekv := z0.1
    have lid := z0.2.1
    have r0 := z0.2.2
    clear z0
    subst ekv
    rw [Nat.zero_mul, Nat.add_zero] at r0
    simp (maxSteps := 1000000) -implicitDefEqProofs only [push_cast, seval, ob1, rd_of ob1, rd1_of ob1, lb1, r0, lid, u1]
    repeat (with_reducible refine And.intro ?_ ?_; · (first | omega | decide))
    with_reducible refine CC.mono (E0 h1 s u vT vL c1 r (by omega) ht) (fun v h2 hv => ?_)
    have ev := hv.1
    have st := hv.2
    clear hv
    subst ev
    unfold StepP at st
    with_reducible refine Exists.elim st (fun s2 st => ?_)
    with_reducible refine Exists.elim st (fun vT2 st => ?_)
    with_reducible refine Exists.elim st (fun vL2 st => ?_)
    have c2 := st.1
    have r2 := st.2.1
    have ge2 := st.2.2.1
    have le2 := st.2.2.2.1
    have tx2 := st.2.2.2.2.1
    have f2 := st.2.2.2.2.2
    clear st
    have b2 := b1.fc f2
    simp (maxSteps := 1000000) -implicitDefEqProofs only [push_cast, seval]
    with_reducible refine CC.mono (sput_c h2 c2 21 0 (by omega)) (fun v h3 hv => ?_)
    have ev := hv.1
    have st := hv.2
    clear hv
    subst ev
    with_reducible refine Exists.elim st (fun vL3 st => ?_)
    have c3 := st.1
    have f3 := st.2
    clear st
    have b3 := b2.fc f3
    have r3 := Rel.put r2 21 0
    have ob3 := b3.ob
    have lb3 := b3.lt
    have z1 := kid_rd c3 hx (a := 1) (by omega) e1
    have z1 : id < h3.n ∧ rd1 h3 id (off + 1 * 1) = some (.int .i64 (k1 : Nat)) := by
      obtain ⟨a, b, d, e, l, q⟩ := z1
      injection e with e _ _
      injection e with e
      injection e with e1 e2
      subst e1 e2
      exact ⟨l, q⟩
    have li3 := z1.1
    have q3 := z1.2
    clear z1
    simp (maxSteps := 1000000) -implicitDefEqProofs only [push_cast, seval, ob3, rd_of ob3, rd1_of ob3, lb3, q3, li3, u1]
    repeat (with_reducible refine And.intro ?_ ?_; · (first | omega | decide))
    have le3 := putI_len s2 21 0
    have te3 : (putI s2 21 0).tx = s2.tx := rfl
    with_reducible refine CC.mono (CC.wf (E1 h3 _ _ vT2 vL3 c3 r3 (by omega) (by rw [te3]; omega))) (fun v h4 hv => ?_)
    have wf4 := hv.2
    have ev := hv.1.1
    have st := hv.1.2
    clear hv
    subst ev
    unfold StepP at st
    with_reducible refine Exists.elim st (fun s4 st => ?_)
    with_reducible refine Exists.elim st (fun vT4 st => ?_)
    with_reducible refine Exists.elim st (fun vL4 st => ?_)
    have c4 := st.1
    have r4 := st.2.1
    have ge4 := st.2.2.1
    have le4 := st.2.2.2.1
    have tx4 := st.2.2.2.2.1
    have f4 := st.2.2.2.2.2
    clear st
    have b4 := b3.fc f4
    have ob4 := b4.ob
    have lb4 := b4.lt
    have pt4 := c4.pt
    have lk4 := c4.lt
    have gu4 := comp_len (L.map Prod.fst) g k1 (putI (comp (L.map Prod.fst) g k0 u) 21 0)
    rw [putI_len] at gu4
    with_reducible refine Or.elim hl (fun hl => ?_) (fun hl => ?_)
    · have d3 : decide ((2 : Int) < x.kids.length) = false := decide_eq_false (by omega)
      simp (maxSteps := 1000000) -implicitDefEqProofs only [push_cast, seval, ob4, rd_of ob4, rd1_of ob4, lb4, d3, u1]
      rw [if_neg (by omega)]
      have y4 := c4.ones.2.2.2
      have o4 := GrL.open c4.gL (li_len s4) (by omega) (by decide)
      with_reducible refine Exists.elim o4 (fun il o4 => ?_)
      with_reducible refine Exists.elim o4 (fun ol o4 => ?_)
      have el := o4.1
      have ow4 := o4.2.1
      clear o4
      subst el
      have ll := ow4.lt
      refine WC.draw' (by kernel_rfl) (by kernel_rfl) (.q 0 (.q 1 (.q 2 (.q 3 (.q 4 (.q 5 (.q 6 (.q 7 (.q 8 (.q 9 (.q 10 (.q 11 (.q 12 (.q 13 (.a 14 false (.done)))))))))))))))) (by kernel_rfl) ?_
      simp (maxSteps := 1000000) -implicitDefEqProofs only [push_cast, seval, pt4, rd_of pt4, rd1_of pt4, lk4, ll]
      repeat (with_reducible refine And.intro ?_ ?_; · (first | omega | decide))
      refine (show Own _ il ol s4.li.length 2 _ from ow4).wr (lo := s2.li.length * 2 + 1) (vs := [.int .i64 (s4.li.length : Nat)]) (by simp only [List.length_cons, List.length_nil]; omega) (fun h5 o5 x5 => ?_)
      have ca := c4.arg wf4 (z := s2.li.length) (by omega) rfl rfl o5 x5
      have ek := ca.1.pt.trans pt4.symm
      simp (maxSteps := 1000000) -implicitDefEqProofs only [push_cast, seval]
      refine And.intro ek (And.intro ek ?_)
      have gs : (setArg s4 s2.li.length (s4.li.length : Nat)).li.length = s4.li.length := setArg_len _ _ _
      exact ⟨_, vT4, _, ca.1, Rel.patch r2 r4 (by omega) (by omega) (fun e => by rw [e]), by rw [gs]; omega, by rw [gs]; omega, by rw [gs, setArg_tx]; omega, f1.trans (f2.trans (f3.trans (f4.trans ca.2)))⟩
    · have d3 : decide ((2 : Int) < x.kids.length) = true := decide_eq_true (by omega)
      have hl3 := hl.1
      have hk2 := hl.2
      with_reducible refine Exists.elim hk2 (fun k2 hk2 => ?_)
      have e2 := hk2.1
      have l2 := hk2.2.1
      clear hl
      have kn2 : kidN x 2 = k2 := by unfold kidN; rw [e2]; rfl
      have E2 := ihg k2 l2 hk2.2.2
      unfold NodeOk at E2
      rw [if_pos hl3, kn2]
      simp (maxSteps := 1000000) -implicitDefEqProofs only [push_cast, seval, ob4, rd_of ob4, rd1_of ob4, lb4, d3, u1]
      with_reducible refine CC.mono (CC.wf (sput_c h4 c4 22 0 (by omega))) (fun v h5 hv => ?_)
      have wf5 := hv.2
      have ev := hv.1.1
      have st := hv.1.2
      clear hv
      subst ev
      with_reducible refine Exists.elim st (fun vL5 st => ?_)
      have c5 := st.1
      have f5 := st.2
      clear st
      have b5 := b4.fc f5
      have r5 := Rel.put r4 22 0
      have le5 := putI_len s4 22 0
      have te5 : (putI s4 22 0).tx = s4.tx := rfl
      have pt5 := c5.pt
      have lk5 := c5.lt
      have o5 := GrL.open c5.gL (li_len _) (by omega) (by decide)
      with_reducible refine Exists.elim o5 (fun il o5 => ?_)
      with_reducible refine Exists.elim o5 (fun ol o5 => ?_)
      have el := o5.1
      have ow5 := o5.2.1
      clear o5
      rw [le5] at el ow5
      subst el
      have ll := ow5.lt
      have w5 : ((s4.li.length + 1 : Nat) : Int) = (s4.li.length : Int) + 1 := by omega
      have y5 := c5.ones.2.2.2
      simp (maxSteps := 1000000) -implicitDefEqProofs only [push_cast, seval]
      refine WC.draw' (by kernel_rfl) (by kernel_rfl) (.q 0 (.q 1 (.q 2 (.q 3 (.q 4 (.q 5 (.q 6 (.q 7 (.q 8 (.q 9 (.q 10 (.q 11 (.q 12 (.q 13 (.a 14 false (.done)))))))))))))))) (by kernel_rfl) ?_
      simp (maxSteps := 1000000) -implicitDefEqProofs only [push_cast, seval, pt5, rd_of pt5, rd1_of pt5, lk5, ll]
      repeat (with_reducible refine And.intro ?_ ?_; · (first | omega | decide))
      rw [← w5]
      refine (show Own _ il ol (s4.li.length + 1) 2 _ from ow5).wr (lo := s2.li.length * 2 + 1) (vs := [.int .i64 ((s4.li.length + 1 : Nat) : Int)]) (by simp only [List.length_cons, List.length_nil]; omega) (fun h6 o6 x6 => ?_)
      have ca := c5.arg wf5 (z := s2.li.length) (by omega) le5.symm rfl o6 x6
      have ek := ca.1.pt.trans pt5.symm
      simp (maxSteps := 1000000) -implicitDefEqProofs only [push_cast, seval]
      refine And.intro ek (And.intro ek ?_)
      have b6 := b5.fc ca.2
      have ob6 := b6.ob
      have lb6 := b6.lt
      have c6 := ca.1
      have f6 := ca.2
      clear ca
      have r6 : Rel (setArg (putI s4 22 0) s2.li.length ((s4.li.length + 1 : Nat) : Int)) (setArg (putI (comp (L.map Prod.fst) g k1 (putI (comp (L.map Prod.fst) g k0 u) 21 0)) 22 0) (comp (L.map Prod.fst) g k0 u).li.length ((comp (L.map Prod.fst) g k1 (putI (comp (L.map Prod.fst) g k0 u) 21 0)).li.length + 1 : Nat)) :=
        Rel.patch r2 r5 (by omega) (by rw [putI_len]; omega) (fun e => by
          have e2 := congrArg (fun q => q.li.length) e
          simp only [putI_len] at e2
          omega)
      have z2 := kid_rd c6 hx (a := 2) (by omega) e2
      have z2 : id < h6.n ∧ rd1 h6 id (off + 2 * 1) = some (.int .i64 (k2 : Nat)) := by
        obtain ⟨a, b, d, e, l, q⟩ := z2
        injection e with e _ _
        injection e with e
        injection e with e1 e2
        subst e1 e2
        exact ⟨l, q⟩
      have li6 := z2.1
      have q6 := z2.2
      clear z2
      have gs : (setArg (putI s4 22 0) s2.li.length ((s4.li.length + 1 : Nat) : Int)).li.length = s4.li.length + 1 := by rw [setArg_len, putI_len]
      have gt : (setArg (putI s4 22 0) s2.li.length ((s4.li.length + 1 : Nat) : Int)).tx = s4.tx := rfl
      simp (maxSteps := 1000000) -implicitDefEqProofs only [push_cast, seval, ob6, rd_of ob6, rd1_of ob6, lb6, q6, li6, u1]
      repeat (with_reducible refine And.intro ?_ ?_; · (first | omega | decide))
      with_reducible refine CC.mono (CC.wf (E2 h6 _ _ vT4 _ c6 r6 (by omega) (by rw [gt]; omega))) (fun v h7 hv => ?_)
      have wf7 := hv.2
      have ev := hv.1.1
      have st := hv.1.2
      clear hv
      subst ev
      unfold StepP at st
      with_reducible refine Exists.elim st (fun s7 st => ?_)
      with_reducible refine Exists.elim st (fun vT7 st => ?_)
      with_reducible refine Exists.elim st (fun vL7 st => ?_)
      have c7 := st.1
      have r7 := st.2.1
      have ge7 := st.2.2.1
      have le7 := st.2.2.2.1
      have tx7 := st.2.2.2.2.1
      have f7 := st.2.2.2.2.2
      clear st
      have pt7 := c7.pt
      have lk7 := c7.lt
      have y7 := c7.ones.2.2.2
      have o7 := GrL.open c7.gL (li_len _) (by omega) (by decide)
      with_reducible refine Exists.elim o7 (fun il7 o7 => ?_)
      with_reducible refine Exists.elim o7 (fun ol7 o7 => ?_)
      have el := o7.1
      have ow7 := o7.2.1
      clear o7
      subst el
      have ll7 := ow7.lt
      simp (maxSteps := 1000000) -implicitDefEqProofs only [push_cast, seval]
      refine WC.draw' (by kernel_rfl) (by kernel_rfl) (.q 0 (.q 1 (.q 2 (.q 3 (.q 4 (.q 5 (.q 6 (.q 7 (.q 8 (.q 9 (.q 10 (.q 11 (.q 12 (.q 13 (.a 14 false (.done)))))))))))))))) (by kernel_rfl) ?_
      simp (maxSteps := 1000000) -implicitDefEqProofs only [push_cast, seval, pt7, rd_of pt7, rd1_of pt7, lk7, ll7]
      repeat (with_reducible refine And.intro ?_ ?_; · (first | omega | decide))
      refine (show Own _ il7 ol7 s7.li.length 2 _ from ow7).wr (lo := s4.li.length * 2 + 1) (vs := [.int .i64 (s7.li.length : Nat)]) (by simp only [List.length_cons, List.length_nil]; omega) (fun h8 o8 x8 => ?_)
      have ca := c7.arg wf7 (z := s4.li.length) (by omega) rfl rfl o8 x8
      have ek := ca.1.pt.trans pt7.symm
      simp (maxSteps := 1000000) -implicitDefEqProofs only [push_cast, seval]
      refine And.intro ek (And.intro ek ?_)
      have gs8 : (setArg s7 s4.li.length (s7.li.length : Nat)).li.length = s7.li.length := setArg_len _ _ _
      have gu7 := comp_len (L.map Prod.fst) g k2 (setArg (putI (comp (L.map Prod.fst) g k1 (putI (comp (L.map Prod.fst) g k0 u) 21 0)) 22 0) (comp (L.map Prod.fst) g k0 u).li.length ((comp (L.map Prod.fst) g k1 (putI (comp (L.map Prod.fst) g k0 u) 21 0)).li.length + 1 : Nat))
      rw [setArg_len, putI_len] at gu7
      exact ⟨_, vT7, _, ca.1, Rel.patch r4 r7 (by omega) (by omega) (fun e => by rw [e]; push_cast; rfl), by rw [gs8]; omega, by rw [gs8]; omega, by rw [gs8, setArg_tx]; omega, f1.trans (f2.trans (f3.trans (f4.trans (f5.trans (f6.trans (f7.trans ca.2))))))⟩
  have d22 : decide (x.op = 22) = false := decide_eq_false h22
  have et : comp (L.map Prod.fst) (g + 1) k u = ownI x (foldC (L.map Prod.fst) g x.kids u) := comp_no hN (by omega) u
  rw [et]
  have kr : RdV h1 kv 1 encZ x.kids := c1.rd.kids _ hx
  have kf := kr.rde (fun _ => rfl)
  clear kr
  with_reducible refine Exists.elim kf (fun Ak kf => ?_)
  with_reducible refine Exists.elim kf (fun ck kf => ?_)
  have ek := kf.1
  clear kf
  subst ek

  simp (maxSteps := 1000000) -implicitDefEqProofs only [push_cast, seval, ob1, rd_of ob1, rd1_of ob1, lb1, d24, d23, d22, u1]
  refine WC.loopA (by kernel_rfl) [8] [98, 99, 100, 101, 102, 103, 104, 105, 106, 107, 108, 109, 110, 111] (fun i : Nat => [.int .i64 (i : Nat)]) (fun i h' => i ≤ x.kids.length ∧ (∃ s', ∃ vT' vL', Cw h' kp (.slice (some ⟨iN, oN, none⟩) L.length qN) vR L R s' ln fn vT' vL' ∧ Rel s' (foldC (L.map Prod.fst) g (x.kids.take i) u) ∧ s.li.length ≤ s'.li.length ∧ s'.li.length ≤ 400 + 40 * k + i ∧ s'.tx.length ≤ s'.li.length ∧ Fc kp h h' vT vL vT' vL' ∧ Bx h' kp h.n vT' vL' [.int .i64 x.op, .string x.text, .slice Ak x.kids.length ck])) (fun i => x.kids.length - i) 0 (by kernel_rfl) ⟨Nat.zero_le _, s, vT, vL, c1, r, Nat.le_refl _, by omega, ht, f1, b1⟩ ?_
  intro i gg h2 hJ
  have hi := hJ.1
  have st := hJ.2
  clear hJ c1 f1 b1 ob1 lb1
  with_reducible refine Exists.elim st (fun s2 st => ?_)
  with_reducible refine Exists.elim st (fun vT2 st => ?_)
  with_reducible refine Exists.elim st (fun vL2 st => ?_)
  have c2 := st.1
  have r2' := st.2.1
  have ge2 := st.2.2.1
  have le2 := st.2.2.2.1
  have tx2 := st.2.2.2.2.1
  have f2 := st.2.2.2.2.2.1
  have b2 := st.2.2.2.2.2.2
  clear st
  have ob2 := b2.ob
  have lb2 := b2.lt
  simp (maxSteps := 1000000) -implicitDefEqProofs only [push_cast, seval, ob2, rd_of ob2, rd1_of ob2, lb2]
  with_reducible refine bcase_d (fun hb => ?_) (fun hb => ?_)
  rotate_left
  · have ei : i = x.kids.length := by omega
    have r3 : Rel s2 (foldC (L.map Prod.fst) g x.kids u) := by rw [ei, List.take_length] at r2'; exact r2'
    clear r2
    generalize foldC (L.map Prod.fst) g x.kids u = U at *
    have ro := Rel.own r3 x
    simp (maxSteps := 1000000) -implicitDefEqProofs only [push_cast, seval, ob2, rd_of ob2, rd1_of ob2, lb2]
    with_reducible refine bcase_d (fun o1 => ?_) (fun o1 => ?_)
    · have eo : ∀ t, ownI x t = putI t 16 x.kids.length := fun t => by unfold ownI; rw [if_neg h24, if_pos o1]
      rw [eo, eo] at ro
      rw [eo]
      simp (maxSteps := 1000000) -implicitDefEqProofs only [push_cast, seval, ob2, rd_of ob2, rd1_of ob2, lb2]
      with_reducible refine CC.mono (sput_c h2 c2 16 x.kids.length (by omega)) (fun v h3 hv => ?_)
      have ev := hv.1
      have st := hv.2
      clear hv
      subst ev
      with_reducible refine Exists.elim st (fun vL3 st => ?_)
      have gl := putI_len s2 16 x.kids.length
      simp (maxSteps := 1000000) -implicitDefEqProofs only [push_cast, seval]
      exact ⟨_, vT2, vL3, st.1, ro, by omega, by omega, by show s2.tx.length ≤ _; omega, f2.trans st.2⟩
    simp (maxSteps := 1000000) -implicitDefEqProofs only [push_cast, seval, ob2, rd_of ob2, rd1_of ob2, lb2]
    with_reducible refine bcase_d (fun o18 => ?_) (fun o18 => ?_)
    · simp (maxSteps := 1000000) -implicitDefEqProofs only [push_cast, seval, ob2, rd_of ob2, rd1_of ob2, lb2]
      have eo := ownI_text (x := x) (c := 17) (by omega) (by omega) (by unfold codeOp; first | rw [if_pos (by omega)] | rw [if_neg (by omega), if_pos (by omega)] | (rw [if_neg (by omega), if_neg (by omega), if_neg (by omega)]; omega)) (by decide)
      rw [eo, eo] at ro
      rw [eo]
      simp (maxSteps := 1000000) -implicitDefEqProofs only [push_cast, seval, ob2, rd_of ob2, rd1_of ob2, lb2]
      with_reducible refine CC.mono (stext_c h2 c2 x.text (by omega)) (fun v h3 hv => ?_)
      have ev := hv.1
      have st := hv.2
      clear hv
      subst ev
      with_reducible refine Exists.elim st (fun vT3 st => ?_)
      have c3 := st.1
      have f3 := st.2
      clear st
      have gt := putT_len s2 x.text
      have gtx := putT_tx s2 x.text
      simp (maxSteps := 1000000) -implicitDefEqProofs only [push_cast, seval]
      with_reducible refine CC.mono (sput_c h3 c3 17 (txI s2 x.text : Nat) (by rw [gt]; omega)) (fun v h4 hv => ?_)
      have ev := hv.1
      have st := hv.2
      clear hv
      subst ev
      with_reducible refine Exists.elim st (fun vL4 st => ?_)
      have gl := putI_len (putT s2 x.text) 17 (txI s2 x.text : Nat)
      rw [gt] at gl
      simp (maxSteps := 1000000) -implicitDefEqProofs only [push_cast, seval]
      exact ⟨_, vT3, vL4, st.1, ro, by omega, by omega, by show (putT s2 x.text).tx.length ≤ _; omega, f2.trans (f3.trans st.2)⟩
    simp (maxSteps := 1000000) -implicitDefEqProofs only [push_cast, seval, ob2, rd_of ob2, rd1_of ob2, lb2]
    with_reducible refine bcase_d (fun o19 => ?_) (fun o19 => ?_)
    · simp (maxSteps := 1000000) -implicitDefEqProofs only [push_cast, seval, ob2, rd_of ob2, rd1_of ob2, lb2]
      have eo := ownI_text (x := x) (c := 18) (by omega) (by omega) (by unfold codeOp; first | rw [if_pos (by omega)] | rw [if_neg (by omega), if_pos (by omega)] | (rw [if_neg (by omega), if_neg (by omega), if_neg (by omega)]; omega)) (by decide)
      rw [eo, eo] at ro
      rw [eo]
      simp (maxSteps := 1000000) -implicitDefEqProofs only [push_cast, seval, ob2, rd_of ob2, rd1_of ob2, lb2]
      with_reducible refine CC.mono (stext_c h2 c2 x.text (by omega)) (fun v h3 hv => ?_)
      have ev := hv.1
      have st := hv.2
      clear hv
      subst ev
      with_reducible refine Exists.elim st (fun vT3 st => ?_)
      have c3 := st.1
      have f3 := st.2
      clear st
      have gt := putT_len s2 x.text
      have gtx := putT_tx s2 x.text
      simp (maxSteps := 1000000) -implicitDefEqProofs only [push_cast, seval]
      with_reducible refine CC.mono (sput_c h3 c3 18 (txI s2 x.text : Nat) (by rw [gt]; omega)) (fun v h4 hv => ?_)
      have ev := hv.1
      have st := hv.2
      clear hv
      subst ev
      with_reducible refine Exists.elim st (fun vL4 st => ?_)
      have gl := putI_len (putT s2 x.text) 18 (txI s2 x.text : Nat)
      rw [gt] at gl
      simp (maxSteps := 1000000) -implicitDefEqProofs only [push_cast, seval]
      exact ⟨_, vT3, vL4, st.1, ro, by omega, by omega, by show (putT s2 x.text).tx.length ≤ _; omega, f2.trans (f3.trans st.2)⟩
    simp (maxSteps := 1000000) -implicitDefEqProofs only [push_cast, seval, ob2, rd_of ob2, rd1_of ob2, lb2]
    with_reducible refine bcase_d (fun o20 => ?_) (fun o20 => ?_)
    · simp (maxSteps := 1000000) -implicitDefEqProofs only [push_cast, seval, ob2, rd_of ob2, rd1_of ob2, lb2]
      have eo := ownI_text (x := x) (c := 19) (by omega) (by omega) (by unfold codeOp; first | rw [if_pos (by omega)] | rw [if_neg (by omega), if_pos (by omega)] | (rw [if_neg (by omega), if_neg (by omega), if_neg (by omega)]; omega)) (by decide)
      rw [eo, eo] at ro
      rw [eo]
      simp (maxSteps := 1000000) -implicitDefEqProofs only [push_cast, seval, ob2, rd_of ob2, rd1_of ob2, lb2]
      with_reducible refine CC.mono (stext_c h2 c2 x.text (by omega)) (fun v h3 hv => ?_)
      have ev := hv.1
      have st := hv.2
      clear hv
      subst ev
      with_reducible refine Exists.elim st (fun vT3 st => ?_)
      have c3 := st.1
      have f3 := st.2
      clear st
      have gt := putT_len s2 x.text
      have gtx := putT_tx s2 x.text
      simp (maxSteps := 1000000) -implicitDefEqProofs only [push_cast, seval]
      with_reducible refine CC.mono (sput_c h3 c3 19 (txI s2 x.text : Nat) (by rw [gt]; omega)) (fun v h4 hv => ?_)
      have ev := hv.1
      have st := hv.2
      clear hv
      subst ev
      with_reducible refine Exists.elim st (fun vL4 st => ?_)
      have gl := putI_len (putT s2 x.text) 19 (txI s2 x.text : Nat)
      rw [gt] at gl
      simp (maxSteps := 1000000) -implicitDefEqProofs only [push_cast, seval]
      exact ⟨_, vT3, vL4, st.1, ro, by omega, by omega, by show (putT s2 x.text).tx.length ≤ _; omega, f2.trans (f3.trans st.2)⟩
    simp (maxSteps := 1000000) -implicitDefEqProofs only [push_cast, seval, ob2, rd_of ob2, rd1_of ob2, lb2]
    with_reducible refine bcase_d (fun o21 => ?_) (fun o21 => ?_)
    · simp (maxSteps := 1000000) -implicitDefEqProofs only [push_cast, seval, ob2, rd_of ob2, rd1_of ob2, lb2]
      have eo := ownI_text (x := x) (c := 20) (by omega) (by omega) (by unfold codeOp; first | rw [if_pos (by omega)] | rw [if_neg (by omega), if_pos (by omega)] | (rw [if_neg (by omega), if_neg (by omega), if_neg (by omega)]; omega)) (by decide)
      rw [eo, eo] at ro
      rw [eo]
      simp (maxSteps := 1000000) -implicitDefEqProofs only [push_cast, seval, ob2, rd_of ob2, rd1_of ob2, lb2]
      with_reducible refine CC.mono (stext_c h2 c2 x.text (by omega)) (fun v h3 hv => ?_)
      have ev := hv.1
      have st := hv.2
      clear hv
      subst ev
      with_reducible refine Exists.elim st (fun vT3 st => ?_)
      have c3 := st.1
      have f3 := st.2
      clear st
      have gt := putT_len s2 x.text
      have gtx := putT_tx s2 x.text
      simp (maxSteps := 1000000) -implicitDefEqProofs only [push_cast, seval]
      with_reducible refine CC.mono (sput_c h3 c3 20 (txI s2 x.text : Nat) (by rw [gt]; omega)) (fun v h4 hv => ?_)
      have ev := hv.1
      have st := hv.2
      clear hv
      subst ev
      with_reducible refine Exists.elim st (fun vL4 st => ?_)
      have gl := putI_len (putT s2 x.text) 20 (txI s2 x.text : Nat)
      rw [gt] at gl
      simp (maxSteps := 1000000) -implicitDefEqProofs only [push_cast, seval]
      exact ⟨_, vT3, vL4, st.1, ro, by omega, by omega, by show (putT s2 x.text).tx.length ≤ _; omega, f2.trans (f3.trans st.2)⟩
    have h25 : x.op = 25 := by omega
    have d25 : decide (x.op = 25) = true := decide_eq_true h25
    simp (maxSteps := 1000000) -implicitDefEqProofs only [push_cast, seval, ob2, rd_of ob2, rd1_of ob2, lb2, d25]
    have eo := ownI_text (x := x) (c := 24) (by omega) (by omega) (by unfold codeOp; first | rw [if_pos (by omega)] | rw [if_neg (by omega), if_pos (by omega)] | (rw [if_neg (by omega), if_neg (by omega), if_neg (by omega)]; omega)) (by decide)
    rw [eo, eo] at ro
    rw [eo]
    simp (maxSteps := 1000000) -implicitDefEqProofs only [push_cast, seval, ob2, rd_of ob2, rd1_of ob2, lb2]
    with_reducible refine CC.mono (stext_c h2 c2 x.text (by omega)) (fun v h3 hv => ?_)
    have ev := hv.1
    have st := hv.2
    clear hv
    subst ev
    with_reducible refine Exists.elim st (fun vT3 st => ?_)
    have c3 := st.1
    have f3 := st.2
    clear st
    have gt := putT_len s2 x.text
    have gtx := putT_tx s2 x.text
    simp (maxSteps := 1000000) -implicitDefEqProofs only [push_cast, seval]
    with_reducible refine CC.mono (sput_c h3 c3 24 (txI s2 x.text : Nat) (by rw [gt]; omega)) (fun v h4 hv => ?_)
    have ev := hv.1
    have st := hv.2
    clear hv
    subst ev
    with_reducible refine Exists.elim st (fun vL4 st => ?_)
    have gl := putI_len (putT s2 x.text) 24 (txI s2 x.text : Nat)
    rw [gt] at gl
    simp (maxSteps := 1000000) -implicitDefEqProofs only [push_cast, seval]
    exact ⟨_, vT3, vL4, st.1, ro, by omega, by omega, by show (putT s2 x.text).tx.length ≤ _; omega, f2.trans (f3.trans st.2)⟩
  have hi' : i < x.kids.length := by omega
  have kk := okN.kid i hi'
  with_reducible refine Exists.elim kk (fun j kk => ?_)
  have ej := kk.1
  have lj := kk.2.1
  have kj := kid_st h22 h24 kk.2.2
  have fs := foldC_succ (N := L.map Prod.fst) (f := g) (u := u) hi' ej
  have Ej := EX j lj kj
  unfold NodeOk at Ej
  have z0 := kid_rd c2 hx hi' ej
  with_reducible refine Exists.elim z0 (fun id z0 => ?_)
  with_reducible refine Exists.elim z0 (fun off z0 => ?_)
  with_reducible refine Exists.elim z0 (fun q z0 => ?_)
  have ekv := z0.1
  injection ekv with ekv _ _
  subst ekv
  have lid := z0.2.1
  have rk := z0.2.2
  clear z0
  simp (maxSteps := 1000000) -implicitDefEqProofs only [push_cast, seval, ob2, rd_of ob2, rd1_of ob2, lb2, rk, lid]
  repeat (with_reducible refine And.intro ?_ ?_; · (first | omega | decide))
  with_reducible refine CC.mono (Ej h2 s2 _ vT2 vL2 c2 r2' (by omega) tx2) (fun v h3 hv => ?_)
  have ev := hv.1
  have st := hv.2
  clear hv
  subst ev
  unfold StepP at st
  with_reducible refine Exists.elim st (fun s3 st => ?_)
  with_reducible refine Exists.elim st (fun vT3 st => ?_)
  with_reducible refine Exists.elim st (fun vL3 st => ?_)
  simp (maxSteps := 1000000) -implicitDefEqProofs only [push_cast, seval]
  rw [wrapSucc (by omega)]
  refine ⟨i + 1, by kernel_rfl, ⟨by omega, s3, vT3, vL3, st.1, by rw [fs]; exact st.2.1, by have := st.2.2.1; omega, by have := st.2.2.2.1; omega, st.2.2.2.2.1, f2.trans st.2.2.2.2.2, b2.fc st.2.2.2.2.2⟩, by omega⟩
end Go.Proofs.YtdlpdfclljnmhaaGreat
namespace Go.Proofs.YtdlpdfclljnmhaaGreat
open Go Go.Sim Go.Proofs
set_option linter.unusedSimpArgs false
set_option linter.unusedVariables false
set_option maxRecDepth 100000
set_option maxHeartbeats 1000000
variable {kp : Nat} {vN vR vT vL vT' vL' vT2 vL2 : Value} {L : List (Nd × Value)} {R : List Ru} {s s' s2 u u' t : Wr0} {ln fn : Int} {h h1 h2 h' : AH}
/-- What a right program's rule is. -/
structure OkR (N : List Nd) (r : Ru) : Prop where
  act : ∃ m : Nat, r.act = m ∧ m < N.length ∧ isEx (nd N m).op = false
  cond : r.cond = -1 ∨ ∃ m : Nat, r.cond = m ∧ m < N.length ∧ isEx (nd N m).op = true
theorem OkR.of (hok : programOk ⟨L.map Prod.fst, R⟩ = true) {i : Nat} (hi : i < R.length) : OkR (L.map Prod.fst) R[i] := by
  rw [programOk_split] at hok
  simp only [Bool.and_eq_true, decide_eq_true_eq] at hok
  have h4 := hok.2
  rw [List.all_eq_true] at h4
  have := h4 _ (List.getElem_mem hi)
  generalize R[i] = r at *
  simp only [ruleP, Bool.and_eq_true, Bool.or_eq_true, decide_eq_true_eq] at this
  obtain ⟨⟨⟨a1, a2⟩, a3⟩, a4⟩ := this
  obtain ⟨m, e, hm⟩ := inB_nat a2
  refine ⟨⟨m, e, by omega, ?_⟩, ?_⟩
  · rw [e] at a3
    have : (nd (L.map Prod.fst) m).op = 24 := a3
    rw [this]; rfl
  · rcases a4 with a4 | ⟨⟨_, b2⟩, b3⟩
    · exact .inl a4
    · obtain ⟨c, ec, hc⟩ := inB_nat b2
      refine .inr ⟨c, ec, by omega, ?_⟩
      rw [ec] at b3
      exact b3
theorem rules_s (hok : programOk ⟨L.map Prod.fst, R⟩ = true) (w : Int) (h : AH) (c : Cw h kp vN vR L R s ln fn vT vL) (r : Rel s u) (hz : s.li.length ≤ 10000) (ht : s.tx.length ≤ s.li.length) :
    CC Tryz.prog 48 [.pointer (some ⟨kp, 0, none⟩), .int .i64 w] h (fun v h' => v = .tuple #[] ∧ StepP kp vN vR L R ln fn h s vT vL (compRules (L.map Prod.fst) R w u) (max s.li.length 8400 + 36) h') := by
  have okG := OkG.of hok
  have hL := okG.n
  have hR := okG.r
  have exs := fun (k : Nat) (hk : k < L.length) (e : isEx (nd (L.map Prod.fst) k).op = true) => ex_s (kp := kp) (vN := vN) (vR := vR) (ln := ln) (fn := fn) hok k hk e (L.map Prod.fst).length (by rw [List.length_map]; exact hk)
  have sts := fun (k : Nat) (hk : k < L.length) (e : isEx (nd (L.map Prod.fst) k).op = false) => st_s (kp := kp) (vN := vN) (vR := vR) (ln := ln) (fn := fn) hok k hk e (L.map Prod.fst).length (by rw [List.length_map]; exact hk)
  unfold NodeOk at exs sts
  have pt := c.pt
  have lt := c.lt
  have y2 := c.ones.2.1
  have kf := c.rd.rules.rde (fun _ => rfl)
  obtain ⟨Ar, qr, er, _⟩ := kf
  refine CC.ofN Tryz.func48 Tryz.ntmps48 Tryz.results48 rfl (by decide) (by kernel_rfl) ?_
  subst er
  simp (maxSteps := 1000000) -implicitDefEqProofs only [push_cast, seval, pt, rd_of pt, rd1_of pt, lt, y2]
  refine WC.loopA (by kernel_rfl) [4] [5, 6, 7, 8, 9, 10, 11, 12, 13, 14, 15, 16, 17, 18, 19, 20, 21, 22, 23, 24, 25, 26, 27, 28, 29, 30, 31, 32, 33, 34, 35, 36, 37, 38, 39, 40, 41, 42, 43, 44, 45, 46, 47, 48, 49, 50, 51, 52, 53, 54, 55, 56, 57] (fun i : Nat => [.int .i64 (i : Nat)]) (fun i h' => i ≤ R.length ∧ (∃ s', ∃ vT' vL', Cw h' kp vN (.slice Ar R.length qr) L R s' ln fn vT' vL' ∧ Rel s' (compRules (L.map Prod.fst) (R.take i) w u) ∧ s.li.length ≤ s'.li.length ∧ s'.li.length ≤ max s.li.length 8400 + 3 * i ∧ s'.tx.length ≤ s'.li.length ∧ Fc kp h h' vT vL vT' vL')) (fun i => R.length - i) 0 (by kernel_rfl) ⟨Nat.zero_le _, s, vT, vL, c, r, Nat.le_refl _, by omega, ht, Fc.refl _ _ _ _⟩ ?_
  intro i gg h2 hJ
  have hi := hJ.1
  have st := hJ.2
  clear hJ
  with_reducible refine Exists.elim st (fun s2 st => ?_)
  with_reducible refine Exists.elim st (fun vT2 st => ?_)
  with_reducible refine Exists.elim st (fun vL2 st => ?_)
  have c2 := st.1
  have r2 := st.2.1
  have ge2 := st.2.2.1
  have le2 := st.2.2.2.1
  have tx2 := st.2.2.2.2.1
  have f2 := st.2.2.2.2.2
  clear st
  have pt2 := c2.pt
  have lt2 := c2.lt
  simp (maxSteps := 1000000) -implicitDefEqProofs only [push_cast, seval, pt2, rd_of pt2, rd1_of pt2, lt2, y2]
  with_reducible refine bcase_d (fun hb => ?_) (fun hb => ?_)
  rotate_left
  · have ei : i = R.length := by omega
    rw [ei, List.take_length] at r2
    simp (maxSteps := 1000000) -implicitDefEqProofs only [push_cast, seval]
    exact ⟨s2, vT2, vL2, c2, r2, ge2, by omega, tx2, f2⟩
  have hi' : i < R.length := by omega
  have cs := compRules_succ (R := R) (N := L.map Prod.fst) (w := w) (u := u) hi'
  have oR := OkR.of hok hi'
  have oact := oR.act
  have ocond := oR.cond
  clear oR
  have z0 := c2.rd.rules.el (fun _ => rfl) hi'
  generalize R[i] = X at *
  obtain ⟨wh, cd, ac⟩ := X
  simp only at oact ocond
  with_reducible refine Exists.elim z0 (fun id z0 => ?_)
  with_reducible refine Exists.elim z0 (fun off z0 => ?_)
  with_reducible refine Exists.elim z0 (fun q z0 => ?_)
  have ekv := z0.1
  injection ekv with ekv _ _
  subst ekv
  have lid := z0.2.1
  have rU := z0.2.2
  clear z0
  simp only [encU] at rU
  have q0 := (rd_3 rU).1
  have q1 := (rd_3 rU).2.1
  have q2 := (rd_3 rU).2.2
  have p0 : Pre h2 ((h2.alloc (.cells [.int .i64 0, .int .i64 0, .int .i64 0] .solo h2.n)).set h2.n (.cells [.int .i64 wh, .int .i64 cd, .int .i64 ac] .solo h2.n)) := ((Pre.refl h2).alloc _).set (Nat.le_refl _) _
  have c3 := c2.pre p0
  have f3 := c2.fc p0
  have b3 : Bx ((h2.alloc (.cells [.int .i64 0, .int .i64 0, .int .i64 0] .solo h2.n)).set h2.n (.cells [.int .i64 wh, .int .i64 cd, .int .i64 ac] .solo h2.n)) kp h2.n vT2 vL2 [.int .i64 wh, .int .i64 cd, .int .i64 ac] :=
    ⟨set_same _ _, Nat.lt_succ_self _, by have := c2.lt; omega, fun e => by have := c2.far (.inl e); omega, fun e => by have := c2.far (.inr e); omega⟩
  simp (maxSteps := 1000000) -implicitDefEqProofs only [push_cast, seval, pt2, rd_of pt2, rd1_of pt2, lt2, y2, rU, q0, q1, q2, lid]
  repeat (with_reducible refine And.intro ?_ ?_; · (first | omega | decide))
  generalize ((h2.alloc (.cells [.int .i64 0, .int .i64 0, .int .i64 0] .solo h2.n)).set h2.n (.cells [.int .i64 wh, .int .i64 cd, .int .i64 ac] .solo h2.n)) = h3 at *
  have ob3 := b3.ob
  have lb3 := b3.lt
  simp (maxSteps := 1000000) -implicitDefEqProofs only [push_cast, seval, ob3, rd_of ob3, rd1_of ob3, lb3]
  with_reducible refine bcase_d (fun hw => ?_) (fun hw => ?_)
  rotate_left
  · have ce : ∀ t, compRule (L.map Prod.fst) w t ⟨wh, cd, ac⟩ = t := fun t => by unfold compRule; rw [if_neg hw]
    rw [ce] at cs
    simp (maxSteps := 1000000) -implicitDefEqProofs only [push_cast, seval]
    rw [wrapSucc (by omega)]
    exact ⟨i + 1, by kernel_rfl, ⟨by omega, s2, vT2, vL2, c3, by rw [cs]; exact r2, ge2, by omega, tx2, f2.trans f3⟩, by omega⟩
  generalize compRules (L.map Prod.fst) (R.take i) w u = U at *
  with_reducible refine Exists.elim oact (fun a oact => ?_)
  have ea := oact.1
  have la := oact.2.1
  have xa := oact.2.2
  rw [List.length_map] at la
  clear oact
  subst ea
  simp (maxSteps := 1000000) -implicitDefEqProofs only [push_cast, seval, ob3, rd_of ob3, rd1_of ob3, lb3]
  with_reducible refine bcase_d (fun hc => ?_) (fun hc => ?_)
  rotate_left
  · have ce : compRule (L.map Prod.fst) w U ⟨wh, cd, (a : Int)⟩ = comp (L.map Prod.fst) (L.map Prod.fst).length a U := by
      unfold compRule; rw [if_pos hw, if_pos (show cd < 0 by omega)]; rfl
    rw [ce] at cs
    simp (maxSteps := 1000000) -implicitDefEqProofs only [push_cast, seval, ob3, rd_of ob3, rd1_of ob3, lb3]
    with_reducible refine CC.mono (sts a la xa h3 s2 _ vT2 vL2 c3 r2 (by omega) tx2) (fun v h4 hv => ?_)
    have ev := hv.1
    have st := hv.2
    clear hv
    subst ev
    unfold StepP at st
    with_reducible refine Exists.elim st (fun s4 st => ?_)
    with_reducible refine Exists.elim st (fun vT4 st => ?_)
    with_reducible refine Exists.elim st (fun vL4 st => ?_)
    simp (maxSteps := 1000000) -implicitDefEqProofs only [push_cast, seval]
    rw [wrapSucc (by omega)]
    refine ⟨i + 1, by kernel_rfl, ⟨by omega, s4, vT4, vL4, st.1, by rw [cs]; exact st.2.1, by have := st.2.2.1; omega, by have := st.2.2.2.1; omega, st.2.2.2.2.1, f2.trans (f3.trans st.2.2.2.2.2)⟩, by omega⟩
  have hcm : ∃ m : Nat, cd = m ∧ m < (L.map Prod.fst).length ∧ isEx (nd (L.map Prod.fst) m).op = true := by
    rcases ocond with e | e
    · omega
    · exact e
  with_reducible refine Exists.elim hcm (fun m hcm => ?_)
  have em := hcm.1
  have lm := hcm.2.1
  have xm := hcm.2.2
  rw [List.length_map] at lm
  clear hcm ocond
  subst em
  have ce : compRule (L.map Prod.fst) w U ⟨wh, (m : Int), (a : Int)⟩ = setArg (comp (L.map Prod.fst) (L.map Prod.fst).length a (putI (comp (L.map Prod.fst) (L.map Prod.fst).length m U) 21 0)) (comp (L.map Prod.fst) (L.map Prod.fst).length m U).li.length ((comp (L.map Prod.fst) (L.map Prod.fst).length a (putI (comp (L.map Prod.fst) (L.map Prod.fst).length m U) 21 0)).li.length : Nat) := by
    unfold compRule; rw [if_pos hw, if_neg (show ¬ ((m : Int) < 0) by omega)]; rfl
  rw [ce] at cs
  simp (maxSteps := 1000000) -implicitDefEqProofs only [push_cast, seval, ob3, rd_of ob3, rd1_of ob3, lb3]
  with_reducible refine CC.mono (exs m lm xm h3 s2 _ vT2 vL2 c3 r2 (by omega) tx2) (fun v h4 hv => ?_)
  have ev := hv.1
  have st := hv.2
  clear hv
  subst ev
  unfold StepP at st
  with_reducible refine Exists.elim st (fun s4 st => ?_)
  with_reducible refine Exists.elim st (fun vT4 st => ?_)
  with_reducible refine Exists.elim st (fun vL4 st => ?_)
  have c4 := st.1
  have r4 := st.2.1
  have ge4 := st.2.2.1
  have le4 := st.2.2.2.1
  have tx4 := st.2.2.2.2.1
  have f4 := st.2.2.2.2.2
  clear st
  have b4 := b3.fc f4
  simp (maxSteps := 1000000) -implicitDefEqProofs only [push_cast, seval]
  with_reducible refine CC.mono (sput_c h4 c4 21 0 (by omega)) (fun v h5 hv => ?_)
  have ev := hv.1
  have st := hv.2
  clear hv
  subst ev
  with_reducible refine Exists.elim st (fun vL5 st => ?_)
  have c5 := st.1
  have f5 := st.2
  clear st
  have b5 := b4.fc f5
  have r5 := Rel.put r4 21 0
  have ob5 := b5.ob
  have lb5 := b5.lt
  have le5 := putI_len s4 21 0
  have te5 : (putI s4 21 0).tx = s4.tx := rfl
  simp (maxSteps := 1000000) -implicitDefEqProofs only [push_cast, seval, ob5, rd_of ob5, rd1_of ob5, lb5]
  with_reducible refine CC.mono (CC.wf (sts a la xa h5 _ _ vT4 vL5 c5 r5 (by omega) (by rw [te5]; omega))) (fun v h6 hv => ?_)
  have wf6 := hv.2
  have ev := hv.1.1
  have st := hv.1.2
  clear hv
  subst ev
  unfold StepP at st
  with_reducible refine Exists.elim st (fun s6 st => ?_)
  with_reducible refine Exists.elim st (fun vT6 st => ?_)
  with_reducible refine Exists.elim st (fun vL6 st => ?_)
  have c6 := st.1
  have r6 := st.2.1
  have ge6 := st.2.2.1
  have le6 := st.2.2.2.1
  have tx6 := st.2.2.2.2.1
  have f6 := st.2.2.2.2.2
  clear st
  have pt6 := c6.pt
  have lk6 := c6.lt
  have y6 := c6.ones.2.2.2
  have o6 := GrL.open c6.gL (li_len _) (by omega) (by decide)
  with_reducible refine Exists.elim o6 (fun il o6 => ?_)
  with_reducible refine Exists.elim o6 (fun ol o6 => ?_)
  have el := o6.1
  have ow6 := o6.2.1
  clear o6
  subst el
  have ll := ow6.lt
  have d0 : decide ((0 : Int) ≤ ((s4.li.length : Nat) : Int)) = true := decide_eq_true (by omega)
  simp (maxSteps := 1000000) -implicitDefEqProofs only [push_cast, seval, d0]
  refine WC.draw' (by kernel_rfl) (by kernel_rfl) (.q 0 (.q 1 (.q 2 (.q 3 (.q 4 (.q 5 (.q 6 (.q 7 (.q 8 (.q 9 (.q 10 (.q 11 (.q 12 (.q 13 (.a 14 false (.done)))))))))))))))) (by kernel_rfl) ?_
  simp (maxSteps := 1000000) -implicitDefEqProofs only [push_cast, seval, pt6, rd_of pt6, rd1_of pt6, lk6, ll]
  repeat (with_reducible refine And.intro ?_ ?_; · (first | omega | decide))
  refine (show Own _ il ol s6.li.length 2 _ from ow6).wr (lo := s4.li.length * 2 + 1) (vs := [.int .i64 (s6.li.length : Nat)]) (by simp only [List.length_cons, List.length_nil]; omega) (fun h7 o7 x7 => ?_)
  have ca := c6.arg wf6 (z := s4.li.length) (by omega) rfl rfl o7 x7
  have ek := ca.1.pt.trans pt6.symm
  simp (maxSteps := 1000000) -implicitDefEqProofs only [push_cast, seval]
  refine And.intro ek (And.intro ek ?_)
  rw [wrapSucc (by omega)]
  have gs : (setArg s6 s4.li.length (s6.li.length : Nat)).li.length = s6.li.length := setArg_len _ _ _
  have gu := comp_len (L.map Prod.fst) (L.map Prod.fst).length a (putI (comp (L.map Prod.fst) (L.map Prod.fst).length m U) 21 0)
  rw [putI_len] at gu
  refine ⟨i + 1, by kernel_rfl, ⟨by omega, _, vT6, _, ca.1, by rw [cs]; exact Rel.patch r4 r6 (by omega) (by omega) (fun e => by rw [e]), by rw [gs]; omega, by rw [gs]; omega, by rw [gs, setArg_tx]; omega, f2.trans (f3.trans (f4.trans (f5.trans (f6.trans ca.2))))⟩, by omega⟩
end Go.Proofs.YtdlpdfclljnmhaaGreat
namespace Go.Proofs.YtdlpdfclljnmhaaGreat
open Go Go.Sim Go.Proofs
set_option linter.unusedSimpArgs false
set_option linter.unusedVariables false
set_option maxRecDepth 100000
set_option maxHeartbeats 1000000
variable {kp : Nat} {vN vR vT vL vT' vL' vT2 vL2 : Value} {L : List (Nd × Value)} {R : List Ru} {s s' s2 u u' t : Wr0} {ln fn : Int} {h h1 h2 h' : AH}
theorem Compile_s (h : AH) (r0 : RdG h vN vR L R) (hz : SzG L R) :
    CC Tryz.prog 20 [.agg #[vN, vR]] h (CmpV L R h) := by
  have u0 := r0.nodes.one
  have u1 := r0.rules.one
  have p1 : Pre h ((h.alloc (.cells [vN, vR] .solo h.n)).alloc (.cells [.slice none 0 0, .slice none 0 0, .int .i64 0, .int .i64 0, .int .i64 0] .solo (h.n + 1))) := ((Pre.refl h).alloc _).alloc _
  have oA : ((h.alloc (.cells [vN, vR] .solo h.n)).alloc (.cells [.slice none 0 0, .slice none 0 0, .int .i64 0, .int .i64 0, .int .i64 0] .solo (h.n + 1))).ob h.n = .cells [vN, vR] .solo h.n := (alloc_lt _ (lt_alloc _)).trans (alloc_same _)
  have oB : ((h.alloc (.cells [vN, vR] .solo h.n)).alloc (.cells [.slice none 0 0, .slice none 0 0, .int .i64 0, .int .i64 0, .int .i64 0] .solo (h.n + 1))).ob (h.n + 1) = .cells [.slice none 0 0, .slice none 0 0, .int .i64 0, .int .i64 0, .int .i64 0] .solo (h.n + 1) := alloc_same _
  have n1 : ((h.alloc (.cells [vN, vR] .solo h.n)).alloc (.cells [.slice none 0 0, .slice none 0 0, .int .i64 0, .int .i64 0, .int .i64 0] .solo (h.n + 1))).n = h.n + 2 := rfl
  refine CC.ofN Tryz.func20 Tryz.ntmps20 Tryz.results20 rfl (by decide) (by kernel_rfl) ?_
  simp (maxSteps := 1000000) -implicitDefEqProofs only [push_cast, seval, u0, u1]
  repeat (with_reducible refine And.intro ?_ ?_; · (first | omega | decide))
  generalize ((h.alloc (.cells [vN, vR] .solo h.n)).alloc (.cells [.slice none 0 0, .slice none 0 0, .int .i64 0, .int .i64 0, .int .i64 0] .solo (h.n + 1))) = h1 at *
  have r1 := r0.pre p1
  have lA : h.n < h1.n := by omega
  have lB : h.n + 1 < h1.n := by omega
  with_reducible refine CD.to (ProgramOk_s L R vN vR h1 r1 hz) ?_
  cases hP : programOk ⟨L.map Prod.fst, R⟩ with
  | false =>
    simp (maxSteps := 1000000) -implicitDefEqProofs only [push_cast, seval, oA, rd_of oA, rd1_of oA, oB, rd_of oB, rd1_of oB, lA, lB]
    exact CmpV.no (by unfold cmpOk; rw [hP]; rfl) (p1.set (by omega) _)
  | true =>
  have cw0 := Cw.new p1 r1
  have pK : Pre h1 (h1.alloc (.cells [vN, vR, .slice none 0 0, .slice none 0 0, .int .i64 0, .int .i64 0, .int .i64 0] .solo h1.n)) := (Pre.refl h1).alloc _
  simp (maxSteps := 1000000) -implicitDefEqProofs only [push_cast, seval, oA, rd_of oA, rd1_of oA, oB, rd_of oB, rd1_of oB, lA, lB, u0, u1]
  generalize (h1.alloc (.cells [vN, vR, .slice none 0 0, .slice none 0 0, .int .i64 0, .int .i64 0, .int .i64 0] .solo h1.n)) = hK at *
  with_reducible refine nameN h1.n (fun kp hkp => ?_)
  rw [← hkp] at cw0
  rw [← hkp]
  with_reducible refine CC.mono (rules_s hP 1 hK cw0 (Rel.refl _) (Nat.zero_le _) (Nat.le_refl _)) (fun v h2 hv => ?_)
  have ev := hv.1
  have st := hv.2
  clear hv
  subst ev
  unfold StepP at st
  with_reducible refine Exists.elim st (fun s1 st => ?_)
  with_reducible refine Exists.elim st (fun vT1 st => ?_)
  with_reducible refine Exists.elim st (fun vL1 st => ?_)
  have c1 := st.1
  have q1 := st.2.1
  have le1 := st.2.2.2.1
  have tx1 := st.2.2.2.2.1
  have f1 := st.2.2.2.2.2
  clear st
  rw [show (Wr0.mk [] []).li.length = 0 from rfl] at le1
  have pt1 := c1.pt
  have lt1 := c1.lt
  have y1 := c1.ones
  have z1 := c1.gL.gr.sl (by decide) (li_len s1)
  with_reducible refine Exists.elim z1 (fun A1 z1 => ?_)
  with_reducible refine Exists.elim z1 (fun b1 z1 => ?_)
  subst z1
  have hc1 := c1.num (s1.li.length : Nat) 0
  simp (maxSteps := 1000000) -implicitDefEqProofs only [push_cast, seval, pt1, rd_of pt1, rd1_of pt1, lt1]
  generalize (h2.set kp (.cells [vN, vR, vT1, .slice A1 s1.li.length b1, .int .i64 0, .int .i64 (s1.li.length : Nat), .int .i64 0] .solo kp)) = h3 at *
  with_reducible refine CC.mono (rules_s hP 2 h3 hc1.1 q1 (by omega) tx1) (fun v h4 hv => ?_)
  have ev := hv.1
  have st := hv.2
  clear hv
  subst ev
  unfold StepP at st
  with_reducible refine Exists.elim st (fun s2 st => ?_)
  with_reducible refine Exists.elim st (fun vT2 st => ?_)
  with_reducible refine Exists.elim st (fun vL2 st => ?_)
  have c2 := st.1
  have q2 := st.2.1
  have ge2 := st.2.2.1
  have le2 := st.2.2.2.1
  have tx2 := st.2.2.2.2.1
  have f2 := st.2.2.2.2.2
  clear st
  have pt2 := c2.pt
  have lt2 := c2.lt
  have z2 := c2.gL.gr.sl (by decide) (li_len s2)
  with_reducible refine Exists.elim z2 (fun A2 z2 => ?_)
  with_reducible refine Exists.elim z2 (fun b2 z2 => ?_)
  subst z2
  have hc2 := c2.num (s1.li.length : Nat) (s2.li.length : Nat)
  simp (maxSteps := 1000000) -implicitDefEqProofs only [push_cast, seval, pt2, rd_of pt2, rd1_of pt2, lt2]
  generalize (h4.set kp (.cells [vN, vR, vT2, .slice A2 s2.li.length b2, .int .i64 0, .int .i64 (s1.li.length : Nat), .int .i64 (s2.li.length : Nat)] .solo kp)) = h5 at *
  with_reducible refine CC.mono (rules_s hP 3 h5 hc2.1 q2 (by omega) tx2) (fun v h6 hv => ?_)
  have ev := hv.1
  have st := hv.2
  clear hv
  subst ev
  unfold StepP at st
  with_reducible refine Exists.elim st (fun s3 st => ?_)
  with_reducible refine Exists.elim st (fun vT3 st => ?_)
  with_reducible refine Exists.elim st (fun vL3 st => ?_)
  have c3 := st.1
  have q3 := st.2.1
  have ge3 := st.2.2.1
  have le3 := st.2.2.2.1
  have tx3 := st.2.2.2.2.1
  have f3 := st.2.2.2.2.2
  clear st
  have pt3 := c3.pt
  have lt3 := c3.lt
  have y3 := c3.ones
  have y33 := y3.2.2.1
  have y34 := y3.2.2.2
  have fF : Fc kp hK h6 (.slice none 0 0) (.slice none 0 0) vT3 vL3 := f1.trans (hc1.2.trans (f2.trans (hc2.2.trans f3)))
  have pF : Pre h h6 := ⟨by have := p1.n; have := pK.n; have := fF.n; omega, fun i hi => (fF.low i (by have := p1.n; omega)).trans ((p1.trans pK).ob i hi)⟩
  have oB6 : h6.ob (h.n + 1) = _ := (fF.low _ (by omega)).trans ((pK.ob _ lB).trans oB)
  have lB6 : h.n + 1 < h6.n := by have := p1.n; have := pK.n; have := fF.n; omega
  have rC : RdC h6 vT3 vL3 ⟨s3.tx, s3.li, 0, s1.li.length, s2.li.length⟩ := ⟨c3.gT.gr.rdv (by decide) (fun _ => rfl), c3.gL.gr.rdv (by decide) (fun _ => rfl)⟩
  have hO := CodeOk_sx _ vT3 vL3 h6 rC (by show s3.tx.length ≤ 1048576; omega) (by show s3.li.length ≤ 1048576; omega)
  rw [show (Cod.mk s3.tx s3.li 0 s1.li.length s2.li.length).bgn = 0 from rfl, show (Cod.mk s3.tx s3.li 0 s1.li.length s2.li.length).line = (s1.li.length : Nat) from rfl, show (Cod.mk s3.tx s3.li 0 s1.li.length s2.li.length).fin = (s2.li.length : Nat) from rfl] at hO
  have key := cmp_same hP q1 q2 q3 ge2 ge3
  simp (maxSteps := 1000000) -implicitDefEqProofs only [push_cast, seval, pt3, rd_of pt3, rd1_of pt3, lt3, y33, y34]
  with_reducible refine CD.to hO ?_
  generalize hcd : codeOk ⟨s3.tx, s3.li, 0, (s1.li.length : Nat), (s2.li.length : Nat)⟩ = b at *
  cases b with
  | false =>
    simp (maxSteps := 1000000) -implicitDefEqProofs only [push_cast, seval, oB6, rd_of oB6, rd1_of oB6, lB6]
    exact CmpV.no key.1 (pF.set (by omega) _)
  | true =>
    simp (maxSteps := 1000000) -implicitDefEqProofs only [push_cast, seval, pt3, rd_of pt3, rd1_of pt3, oB6, rd_of oB6, rd1_of oB6, lt3, lB6, y33, y34]
    have ec := key.2 rfl
    have kn := (p1.trans pK).n
    refine ⟨vT3, vL3, by rw [ec, key.1], ?_, pF.set (by omega) _⟩
    rw [ec]
    have gT := fun o => c3.gT.gr.keep (h' := h6.set (h.n + 1) o) (Nat.le_refl _) (fun i e => set_ne _ (by have := (c3.far (.inl e)).1; omega))
    have gL := fun o => c3.gL.gr.keep (h' := h6.set (h.n + 1) o) (Nat.le_refl _) (fun i e => set_ne _ (by have := (c3.far (.inr e)).1; omega))
    have lT := fun o => Lo.keep (h' := h6.set (h.n + 1) o) c3.gT.lo (fun i e => set_ne _ (by have := (c3.far (.inl e)).1; omega))
    have lL := fun o => Lo.keep (h' := h6.set (h.n + 1) o) c3.gL.lo (fun i e => set_ne _ (by have := (c3.far (.inr e)).1; omega))
    exact ⟨⟨(gT _).mono (by omega), (gL _).mono (by omega), c3.ne⟩, fun i hi l hl => by have := lT _ i hi l hl; omega, fun i hi l hl => by have := lL _ i hi l hl; omega⟩
end Go.Proofs.YtdlpdfclljnmhaaGreat
