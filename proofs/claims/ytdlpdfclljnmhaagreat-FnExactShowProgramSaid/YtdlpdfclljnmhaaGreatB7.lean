/- Parts of the proof of the row: the ground, contracts of the functions that it reaches (K1, M1, K2, P20, S1, P15, SimZ, S3, S4, Lay7, SimJoin, S2, S5, S6). Conditions: those that each theorem names. -/
import Derived.Lib.Join
import Derived.Lib.SlicesCompact
import Derived.Shelf.Strings.OnBuilder
import Derived.Test.YtdlpdfclljnmhaaGreatB6
namespace Go.Proofs.YtdlpdfclljnmhaaGreat
open Go Go.Sim Go.Proofs
set_option linter.unusedSimpArgs false
set_option linter.unusedVariables false
set_option maxRecDepth 100000
set_option maxHeartbeats 1000000
theorem findIdx_any {l : List ByteArray} {s : ByteArray} {i : Nat} (hi : i < l.length) (e : l[i] = s) (hn : ∀ j (hj : j < l.length), j < i → l[j] ≠ s) : l.findIdx (fun t => decide (t = s)) = i := by
  rw [List.findIdx_eq hi]
  exact ⟨by simpa using e, fun j hj => by simpa using hn j (by omega) hj⟩
theorem Index_x (l : List ByteArray) (v : Value) (s : ByteArray) (h : AH) (r : RdV h v 1 encTx l) (hl : l.length ≤ 1048576) :
    CD Tryz.prog 70 [v, .string s] h (.int .i64 (if l.any (fun t => decide (t = s)) = true then ((l.findIdx fun t => decide (t = s) : Nat) : Int) else -1)) h := by
  refine CD.withBig (fun big => ?_)
  refine CD.quiet ?_ (low_int _ _ _)
  obtain ⟨A, c, rfl, hR⟩ := r.rde (fun _ => rfl)
  refine CC.ofN Tryz.func70 Tryz.ntmps70 Tryz.results70 rfl (by decide) (by kernel_rfl) ?_
  simp (maxSteps := 1000000) -implicitDefEqProofs only [push_cast, seval]
  refine WC.loopA (by kernel_rfl) [8] [4, 5, 9, 10, 11, 12, 13, 14, 15, 16, 17, 18] (fun i : Nat => [.int .i64 i]) (fun i h' => (i ≤ l.length ∧ ∀ j (hj : j < l.length), j < i → l[j] ≠ s) ∧ Pre h h') (fun i => l.length - i) 0 (by kernel_rfl) ⟨⟨Nat.zero_le _, fun j hj h0 => by omega⟩, Pre.refl _⟩ ?_
  intro i g h1 hJ
  have hi := hJ.1.1
  have hj := hJ.1.2
  have p1 := hJ.2
  clear hJ
  simp (maxSteps := 1000000) -implicitDefEqProofs only [push_cast, seval]
  with_reducible refine bcase_d (fun hb => ?_) (fun hb => ?_)
  · have hi' : i < l.length := by omega
    have hno : l[i] ≠ s → ∀ j (hj : j < l.length), j < i + 1 → l[j] ≠ s := fun e j hj1 hj2 => by
      by_cases e2 : j = i
      · subst e2; exact e
      · exact hj j hj1 (by omega)
    have hyes : l[i] = s → (if l.any (fun t => decide (t = s)) = true then ((l.findIdx fun t => decide (t = s) : Nat) : Int) else -1) = (i : Int) := fun e => by
      rw [if_pos (List.any_eq_true.2 ⟨_, List.getElem_mem hi', by simp [e]⟩), findIdx_any hi' e hj]
    with_reducible refine hR.use big p1 hi' (fun id off eA hlt hr => ?_)
    subst eA
    generalize l[i] = T at *
    simp only [encTx, Nat.mul_one] at hr
    have r0 := rd_1 hr
    simp (maxSteps := 1000000) -implicitDefEqProofs only [push_cast, seval, hr, r0, hlt, Nat.mul_one]
    repeat (with_reducible refine And.intro ?_ ?_; · (first | omega | decide))
    with_reducible refine bcase_d (fun hT => ?_) (fun hT => ?_)
    · simp (maxSteps := 1000000) -implicitDefEqProofs only [push_cast, seval]
      rw [hyes hT.symm]
      exact ⟨rfl, p1.keep⟩
    · simp (maxSteps := 1000000) -implicitDefEqProofs only [push_cast, seval]
      rw [wrapSucc (by omega)]
      exact ⟨i + 1, by kernel_rfl, ⟨⟨by omega, hno (fun e => hT e.symm)⟩, p1⟩, by omega⟩
  have ei : i = l.length := by omega
  subst ei
  simp (maxSteps := 1000000) -implicitDefEqProofs only [push_cast, seval]
  have : l.any (fun t => decide (t = s)) = false := List.any_eq_false.2 (fun x hx => by
    obtain ⟨j, hj1, rfl⟩ := List.getElem_of_mem hx
    simpa using hj j hj1 hj1)
  rw [if_neg (by rw [this]; simp)]
  exact ⟨rfl, p1.keep⟩
variable {kp : Nat} {vN vR vT vL : Value} {L : List (Nd × Value)} {R : List Ru} {u : Wr0} {ln fn : Int}
theorem _root_.Go.Sim.Gr.sl {n0 : Nat} {h : AH} {v : Value} {k m : Nat} {cs : List Value} (w : Gr n0 h v k cs) (hk : 0 < k) (hm : cs.length = m * k) : ∃ A c, v = .slice A m c := by
  rcases w with ⟨c, rfl, rfl⟩ | ⟨id, off, n, rfl, b, o⟩
  · have : m = 0 := by
      rcases Nat.eq_zero_or_pos m with h | h
      · exact h
      · have := Nat.mul_pos h hk; simp at hm; omega
    subst this
    exact ⟨none, c, rfl⟩
  · have : n = m := by
      have := o.len
      rw [hm] at this
      exact (Nat.eq_of_mul_eq_mul_right hk this).symm
    subst this
    exact ⟨_, _, rfl⟩
theorem li_len (u : Wr0) : ((u.li.map encN).flatten).length = u.li.length * 2 := flat_len (k := 2) _ (fun _ => rfl)
theorem tx_len (u : Wr0) : ((u.tx.map encTx).flatten).length = u.tx.length * 1 := flat_len (k := 1) _ (fun _ => rfl)
/-- The compiler's own values are of one cell each. -/
theorem _root_.Go.Sim.Cw.ones {h : AH} (c : Cw h kp vN vR L R u ln fn vT vL) : Sim.one vN = true ∧ Sim.one vR = true ∧ Sim.one vT = true ∧ Sim.one vL = true := by
  refine ⟨c.rd.nodes.one, c.rd.rules.one, ?_, ?_⟩
  · obtain ⟨A, q, e⟩ := c.gT.gr.sl (by decide) (tx_len u); rw [e]; rfl
  · obtain ⟨A, q, e⟩ := c.gL.gr.sl (by decide) (li_len u); rw [e]; rfl
theorem kput_c (h : AH) (c : Cw h kp vN vR L R u ln fn vT vL) (op arg : Int) (hz : u.li.length ≤ 100000) :
    CC Tryz.prog 79 [.pointer (some ⟨kp, 0, none⟩), .int .i64 op, .int .i64 arg] h (fun v h' => v = .int .i64 (u.li.length : Nat) ∧ ∃ vL', Cw h' kp vN vR L R (putI u op arg) ln fn vT vL' ∧ Fc kp h h' vT vL vT vL') := by
  have pt := c.pt
  have lt := c.lt
  have y := c.ones
  have y3 := y.2.2.1
  have y4 := y.2.2.2
  refine CC.ofN Tryz.func79 Tryz.ntmps79 Tryz.results79 rfl (by decide) (by kernel_rfl) ?_
  simp (maxSteps := 1000000) -implicitDefEqProofs only [push_cast, seval, pt, rd_of pt, rd1_of pt, lt, y4]
  refine GrL.app1 (h0 := ⟨kp + 1, h.ob⟩) si42 (by decide) (by decide) (notInt_sl und42) c.gL ⟨by show kp + 1 ≤ h.n; omega, fun _ _ => rfl⟩ rfl (by rw [li_len]; omega) (by decide) (fun h3 gr p3 n3 he => ?_)
  have gr : GrL (kp + 1) h3 (.slice (some ⟨h.n + 1, 0, none⟩) (((u.li.map encN).flatten).length / 2 + 1) 2) 2 (((putI u op arg).li.map encN).flatten) := by
    rw [putI, flat_snoc]; exact gr
  have cl := c.li (u' := putI u op arg) rfl (by omega) he gr (fun i e => .inr (by have e : h.n + 1 = i := e; omega))
  have pt3 : h3.ob kp = _ := (he kp (by omega) (fun e => by have := c.far (.inr e); omega)).trans pt
  have l3 : kp < h3.n := by omega
  have el : ((u.li.map encN).flatten).length / 2 + 1 = u.li.length + 1 := by rw [li_len]; omega
  rw [el] at cl ⊢
  simp (maxSteps := 1000000) -implicitDefEqProofs only [push_cast, seval, pt3, rd_of pt3, rd1_of pt3, l3]
  have w1 : IntKind.i64.wrap ((u.li.length : Int) + 1 - 1) = ((u.li.length : Nat) : Int) := by rw [w64 (by omega) (by omega)]; omega
  rw [w1]
  exact ⟨rfl, _, cl⟩
theorem full_c (h : AH) (c : Cw h kp vN vR L R u ln fn vT vL) :
    CD Tryz.prog 112 [.pointer (some ⟨kp, 0, none⟩)] h (.bool (decide ((250 : Int) < u.li.length))) h := by
  refine CD.quiet ?_ (low_bool _ _)
  have pt := c.pt
  have lt := c.lt
  have y4 := c.ones.2.2.2
  obtain ⟨A, q, rfl⟩ := c.gL.gr.sl (by decide) (li_len u)
  refine CC.ofN Tryz.func112 Tryz.ntmps112 Tryz.results112 rfl (by decide) (by kernel_rfl) ?_
  simp (maxSteps := 1000000) -implicitDefEqProofs only [push_cast, seval, pt, rd_of pt, rd1_of pt, lt, y4]
  repeat' (first | with_reducible (first | exact Keep.refl _ _ | assumption | exact byte_lt _ _ | apply Keep.alloc | (refine Keep.set ?_ ?_; rotate_left; · omega) | apply Pre.alloc | apply Pre.set | exact Pre.refl _ | exact le_alloc _ | (refine Pre.keep ?_; assumption) | (refine Pre.n ?_; assumption)) | ((with_reducible (first | refine bcase_d (fun hb => ?_) (fun hb => ?_) | refine bcase_mk (fun hb => ?_) (fun hb => ?_))) <;> try simp (maxSteps := 1000000) -implicitDefEqProofs only [push_cast, seval, pt, rd_of pt, rd1_of pt, lt, y4]) | with_reducible refine And.intro ?_ ?_ | omega | (simp only [alloc_n, set_n, kill_n]; omega) | (exfalso; omega))
theorem ktext_c (h : AH) (c : Cw h kp vN vR L R u ln fn vT vL) (s : ByteArray) (hz : u.tx.length ≤ 100000) :
    CC Tryz.prog 116 [.pointer (some ⟨kp, 0, none⟩), .string s] h (fun v h' => v = .int .i64 (txI u s : Nat) ∧ ∃ vT', Cw h' kp vN vR L R (putT u s) ln fn vT' vL ∧ Fc kp h h' vT vL vT' vL) := by
  have pt := c.pt
  have lt := c.lt
  have y3 := c.ones.2.2.1
  have hI := Index_x u.tx vT s h (c.gT.gr.rdv (by decide) (fun _ => rfl)) (by omega)
  obtain ⟨A, q, e⟩ := c.gT.gr.sl (by decide) (tx_len u)
  have hn : hasT u s = u.tx.any fun t => decide (t = s) := rfl
  have fi : txI u s = u.tx.findIdx fun t => decide (t = s) := rfl
  rw [← hn, ← fi] at hI
  refine CC.ofN Tryz.func116 Tryz.ntmps116 Tryz.results116 rfl (by decide) (by kernel_rfl) ?_
  simp (maxSteps := 1000000) -implicitDefEqProofs only [push_cast, seval, pt, rd_of pt, rd1_of pt, lt, y3]
  with_reducible refine CD.to hI ?_
  by_cases hh : hasT u s = true
  · rw [if_pos hh]
    have pe : putT u s = u := by unfold putT; rw [if_pos hh]
    have d0 : decide (((txI u s : Nat) : Int) < 0) = false := decide_eq_false (by omega)
    simp (maxSteps := 1000000) -implicitDefEqProofs only [push_cast, seval, d0]
    exact ⟨vT, by rw [pe]; exact c, Fc.refl _ _ _ _⟩
  · have hf : hasT u s = false := by simpa using hh
    have pe : putT u s = ⟨u.tx ++ [s], u.li⟩ := by unfold putT; rw [if_neg hh]
    have fe : txI u s = u.tx.length := by
      rw [fi]
      have : u.tx.findIdx (fun t => decide (t = s)) = u.tx.length := by
        apply List.findIdx_eq_length_of_false
        intro x hx
        have := List.any_eq_false.1 (hn ▸ hf) x hx
        simpa using this
      exact this
    rw [if_neg hh]
    simp (maxSteps := 1000000) -implicitDefEqProofs only [push_cast, seval, pt, rd_of pt, rd1_of pt, lt, y3]
    subst e
    simp (maxSteps := 1000000) -implicitDefEqProofs only [push_cast, seval, pt, rd_of pt, rd1_of pt, lt, y3]
    refine GrL.app1 (h0 := ⟨kp + 1, h.ob⟩) si37 (by decide) (by decide) (notInt_sl und37) c.gT ⟨by show kp + 1 ≤ h.n; omega, fun _ _ => rfl⟩ rfl (by rw [tx_len]; omega) (by decide) (fun h3 gr p3 n3 he => ?_)
    have gr : GrL (kp + 1) h3 (.slice (some ⟨h.n + 1, 0, none⟩) (((u.tx.map encTx).flatten).length / 1 + 1) 1) 1 (((putT u s).tx.map encTx).flatten) := by
      rw [pe, flat_snoc]; exact gr
    have cl := c.tx (u' := putT u s) (by rw [pe]) (by omega) he gr (fun i e => .inr (by have e : h.n + 1 = i := e; omega))
    have pt3 : h3.ob kp = _ := (he kp (by omega) (fun e => by have := c.far (.inl e); omega)).trans pt
    have l3 : kp < h3.n := by omega
    simp (maxSteps := 1000000) -implicitDefEqProofs only [push_cast, seval, pt3, rd_of pt3, rd1_of pt3, l3, fe]
    exact ⟨_, cl⟩
theorem opOf_c (op : Int) (h : AH) (h0 : inB op 1 25 = true) (h1 : op ≠ 22) (h2 : op ≠ 24) (h3 : op ≠ 17) : CD Tryz.prog 114 [.int .i64 op] h (.int .i64 (codeOp op)) h := by
  refine CD.quiet ?_ (low_int _ _ _)
  have hop : op = 1 ∨ op = 2 ∨ op = 3 ∨ op = 4 ∨ op = 5 ∨ op = 6 ∨ op = 7 ∨ op = 8 ∨ op = 9 ∨ op = 10 ∨ op = 11 ∨ op = 12 ∨ op = 13 ∨ op = 14 ∨ op = 15 ∨ op = 16 ∨ op = 18 ∨ op = 19 ∨ op = 20 ∨ op = 21 ∨ op = 23 ∨ op = 25 := by
    simp only [inB, Bool.and_eq_true, decide_eq_true_eq] at h0; omega
  rcases hop with rfl | rfl | rfl | rfl | rfl | rfl | rfl | rfl | rfl | rfl | rfl | rfl | rfl | rfl | rfl | rfl | rfl | rfl | rfl | rfl | rfl | rfl
  all_goals
    refine CC.ofN Tryz.func114 Tryz.ntmps114 Tryz.results114 rfl (by decide) (by kernel_rfl) ?_
    simp (maxSteps := 1000000) -implicitDefEqProofs only [push_cast, seval]
    repeat' (first | with_reducible (first | exact Keep.refl _ _ | assumption | exact byte_lt _ _ | apply Keep.alloc | (refine Keep.set ?_ ?_; rotate_left; · omega) | apply Pre.alloc | apply Pre.set | exact Pre.refl _ | exact le_alloc _ | (refine Pre.keep ?_; assumption) | (refine Pre.n ?_; assumption)) | ((with_reducible (first | refine bcase_d (fun hb => ?_) (fun hb => ?_) | refine bcase_mk (fun hb => ?_) (fun hb => ?_))) <;> try simp (maxSteps := 1000000) -implicitDefEqProofs only [push_cast, seval]) | with_reducible refine And.intro ?_ ?_ | omega | (simp only [alloc_n, set_n, kill_n]; omega) | (exfalso; omega))
  all_goals exact congrArg (Value.int IntKind.i64) (by decide)
end Go.Proofs.YtdlpdfclljnmhaaGreat
namespace Go.Proofs.YtdlpdfclljnmhaaGreat
open Go Go.Sim Go.Proofs
set_option linter.unusedSimpArgs false
set_option linter.unusedVariables false
set_option maxRecDepth 100000
set_option maxHeartbeats 1000000
/-- What a right program's parts are. -/
structure OkG (L : List (Nd × Value)) (R : List Ru) : Prop where
  n : L.length ≤ 200
  r : R.length ≤ 12
  kids : ∀ i (h : i < L.length), ∀ k, k < L[i].1.kids.length → ∃ m : Nat, L[i].1.kids.getD k 0 = m ∧ m < i
  klen : ∀ i (h : i < L.length), L[i].1.kids.length ≤ 20
  act : ∀ i (h : i < R.length), ∃ m : Nat, R[i].act = m ∧ m < L.length
  cond : ∀ i (h : i < R.length), R[i].cond = -1 ∨ ∃ m : Nat, R[i].cond = m ∧ m < L.length
theorem manyP_20 (op : Int) : (manyP op).2 ≤ 20 := by
  unfold manyP rangeP
  repeat' split
  all_goals decide
theorem OkG.of {L : List (Nd × Value)} {R : List Ru} (h : programOk ⟨L.map Prod.fst, R⟩ = true) : OkG L R := by
  rw [programOk_split] at h
  simp only [Bool.and_eq_true, decide_eq_true_eq] at h
  obtain ⟨⟨⟨h1, h2⟩, h3⟩, h4⟩ := h
  have hn : ∀ i (hi : i < L.length), nodeP (L.map Prod.fst) i L[i].1 = true := fun i hi => by
    simp only [allN, List.all_eq_true, List.mem_range] at h3
    have := h3 i hi
    rwa [getD_map L i hi] at this
  have hr : ∀ i (hi : i < R.length), ruleP (L.map Prod.fst) R[i] = true := fun i hi => List.all_eq_true.1 h4 _ (List.getElem_mem hi)
  refine ⟨h1, h2, fun i hi k hk => ?_, fun i hi => ?_, fun i hi => ?_, fun i hi => ?_⟩
  · have := hn i hi
    rw [nodeP_i] at this
    simp only [Bool.and_eq_true] at this
    have a := this.1.1.2
    simp only [allN, List.all_eq_true, List.mem_range] at a
    exact inB_nat (a k hk)
  · have := hn i hi
    rw [nodeP_i] at this
    simp only [Bool.and_eq_true] at this
    have b := this.2.2
    have c := manyP_20 L[i].1.op
    simp only [inB, Bool.and_eq_true, decide_eq_true_eq] at b
    omega
  · have := hr i hi
    rw [ruleP, List.length_map] at this
    simp only [Bool.and_eq_true] at this
    exact inB_nat this.1.1.2
  · have := hr i hi
    rw [ruleP, List.length_map] at this
    simp only [Bool.and_eq_true, Bool.or_eq_true, decide_eq_true_eq] at this
    rcases this.2 with e | e
    · exact .inl e
    · exact .inr (inB_nat e.1.2)
theorem l11Reach_c (L : List (Nd × Value)) (R : List Ru) (vN vR : Value) (h : AH) (w : RdG h vN vR L R) (ok : OkG L R) :
    CC Tryz.prog 39 [.agg #[vN, vR]] h (fun v h' => RdV h' v 1 encT (bL L.length (reach (L.map Prod.fst) R)) ∧ Pre h h') := by
  refine CC.withBig (fun big => ?_)
  have zn := ok.n
  have zr := ok.r
  have w0 := w
  obtain ⟨B, d, rfl, hN⟩ := w.nodes.rde encD_len
  obtain ⟨C, c, rfl, hR⟩ := w.rules.rde (fun _ => rfl)
  refine CC.ofN Tryz.func39 Tryz.ntmps39 Tryz.results39 rfl (by decide) (by kernel_rfl) ?_
  simp (maxSteps := 1000000) -implicitDefEqProofs only [push_cast, seval]
  repeat (with_reducible refine And.intro ?_ ?_; · (first | omega | decide))
  have p0 : Pre h ((h.alloc (.cells [.slice B L.length d, .slice C R.length c] .solo h.n)).alloc (.cells (List.replicate (L.length * 1) (.bool false)) .solo (h.n + 1))) := ((Pre.refl h).alloc _).alloc _
  have c0 : ((h.alloc (.cells [.slice B L.length d, .slice C R.length c] .solo h.n)).alloc (.cells (List.replicate (L.length * 1) (.bool false)) .solo (h.n + 1))).ob h.n = .cells [.slice B L.length d, .slice C R.length c] .solo h.n := (by (try simp (maxSteps := 1000000) -implicitDefEqProofs only [push_cast, seval, rdOb]); try rfl)
  have b0 : ((h.alloc (.cells [.slice B L.length d, .slice C R.length c] .solo h.n)).alloc (.cells (List.replicate (L.length * 1) (.bool false)) .solo (h.n + 1))).ob (h.n + 1) = .cells (bT L.length (rusF R 0)) .solo (h.n + 1) := (alloc_same (h := h.alloc _) _).trans (by rw [← bT_zero]; rfl)
  have n0 : ((h.alloc (.cells [.slice B L.length d, .slice C R.length c] .solo h.n)).alloc (.cells (List.replicate (L.length * 1) (.bool false)) .solo (h.n + 1))).n = h.n + 2 := rfl
  generalize ((h.alloc (.cells [.slice B L.length d, .slice C R.length c] .solo h.n)).alloc (.cells (List.replicate (L.length * 1) (.bool false)) .solo (h.n + 1))) = H0 at *
  refine WC.loopA (by kernel_rfl) [4] [11, 12, 13, 14, 15, 16, 17, 18, 19, 20, 21, 22, 23, 24, 25, 26, 27, 28, 29, 30, 31, 32, 33, 34, 35, 36, 37, 38, 39, 40, 41, 42, 43, 44, 45, 46, 47] (fun i : Nat => [.int .i64 (i : Nat)]) (fun i h' => i ≤ R.length ∧ h'.ob h.n = .cells [.slice B L.length d, .slice C R.length c] .solo h.n ∧ h'.ob (h.n + 1) = .cells (bT L.length (rusF R i)) .solo (h.n + 1) ∧ h.n + 2 ≤ h'.n ∧ Pre h h') (fun i => R.length - i) 0 (by kernel_rfl) ⟨Nat.zero_le _, c0, b0, by omega, p0⟩ ?_
  clear b0 c0 n0 p0
  intro i g h1 hJ
  have hi := hJ.1
  have c1 := hJ.2.1
  have b1 := hJ.2.2.1
  have n1 := hJ.2.2.2.1
  have p1 := hJ.2.2.2.2
  clear hJ
  have l1 : h.n < h1.n := by omega
  have m1 : h.n + 1 < h1.n := by omega
  simp (maxSteps := 1000000) -implicitDefEqProofs only [push_cast, seval, c1, rd_of c1, rd1_of c1, l1]
  with_reducible refine bcase_d (fun hb => ?_) (fun hb => ?_)
  · have hi' : i < R.length := by omega
    have hs := rusF_succ hi'
    have ha := ok.act i hi'
    have hc := ok.cond i hi'
    with_reducible refine hR.use big (Pre.refl h) hi' (fun id off eA hlt0 hr0 => ?_)
    subst eA
    have hlt : id < h1.n := by omega
    have hr : rd h1 id (off + i * 3) 3 = some (encU R[i]) := by rw [rd_eq, p1.ob id hlt0, ← rd_eq]; exact hr0
    clear hr0
    simp only [encU] at hr
    generalize R[i] = X at *
    with_reducible refine Exists.elim ha (fun m ha => ?_)
    have em := ha.1
    have hm := ha.2
    clear ha
    rw [em] at hr
    have r0 := (rd_3 hr).1
    have r1 := (rd_3 hr).2.1
    have r2 := (rd_3 hr).2.2
    have hbl : m + 1 ≤ (bT L.length (rusF R i)).length := by rw [bT_len]; omega
    simp (maxSteps := 1000000) -implicitDefEqProofs only [push_cast, seval, c1, rd_of c1, rd1_of c1, l1, hr, r0, r1, r2, hlt]
    repeat (with_reducible refine And.intro ?_ ?_; · (first | omega | decide))
    with_reducible refine bcase_d (fun hw2 => ?_) (fun hw2 => ?_)
    · simp (maxSteps := 1000000) -implicitDefEqProofs only [push_cast, seval, c1, rd_of c1, rd1_of c1, b1, rd_of b1, rd1_of b1, l1, m1, hr, r0, r1, r2, hlt]
      refine And.intro (by omega) (And.intro (by omega) (And.intro (by omega) (And.intro (by omega) (And.intro (by omega) ?_))))
      rw [Nat.mul_one, bT_set]
      have c2 := (set_ne (h := h1) (o := .cells (bT L.length (updB (rusF R i) m true)) .solo (h.n + 1)) (show h.n ≠ h.n + 1 by omega)).trans c1
      have b2 : (h1.set (h.n + 1) (.cells (bT L.length (updB (rusF R i) m true)) .solo (h.n + 1))).ob (h.n + 1) = _ := set_same _ _
      have n2 : h.n + 2 ≤ (h1.set (h.n + 1) (.cells (bT L.length (updB (rusF R i) m true)) .solo (h.n + 1))).n := n1
      have p2 : Pre h (h1.set (h.n + 1) (.cells (bT L.length (updB (rusF R i) m true)) .solo (h.n + 1))) := p1.set (by omega) _
      have hr2 : rd (h1.set (h.n + 1) (.cells (bT L.length (updB (rusF R i) m true)) .solo (h.n + 1))) id (off + i * 3) 3 = _ := (show rd (h1.set (h.n + 1) _) id (off + i * 3) 3 = rd h1 id (off + i * 3) 3 by rw [rd_eq, rd_eq, set_ne _ (by omega)]).trans hr
      generalize (h1.set (h.n + 1) (.cells (bT L.length (updB (rusF R i) m true)) .solo (h.n + 1))) = h2 at *
      have q1 := (rd_3 hr2).2.1
      have l2 : h.n < h2.n := by omega
      have m2 : h.n + 1 < h2.n := by omega
      have hlt2 : id < h2.n := by omega
      simp (maxSteps := 1000000) -implicitDefEqProofs only [push_cast, seval, c2, rd_of c2, rd1_of c2, b2, rd_of b2, rd1_of b2, l2, m2, hr2, q1, hlt2]
      repeat (with_reducible refine And.intro ?_ ?_; · (first | omega | decide))
      with_reducible refine bcase_d (fun hcd => ?_) (fun hcd => ?_)
      · have hc2 : ∃ k : Nat, X.cond = k ∧ k < L.length := by
          rcases hc with e | e
          · omega
          · exact e
        with_reducible refine Exists.elim hc2 (fun k hk => ?_)
        have ek := hk.1
        have hk2 := hk.2
        clear hk hc2
        rw [ek] at hr2 q1
        have hbl2 : k + 1 ≤ (bT L.length (updB (rusF R i) m true)).length := by rw [bT_len]; omega
        simp (maxSteps := 1000000) -implicitDefEqProofs only [push_cast, seval, c2, rd_of c2, rd1_of c2, b2, rd_of b2, rd1_of b2, l2, m2, hr2, q1, hlt2]
        refine And.intro (by omega) (And.intro (by omega) (And.intro (by omega) (And.intro (by omega) (And.intro (by omega) ?_))))
        rw [Nat.mul_one, bT_set, wrapSucc (by omega)]
        refine ⟨i + 1, by kernel_rfl, ⟨by omega, ?_, n2, p2.set (by omega) _⟩, by omega⟩
        rw [hs, ruF, if_pos hw2, if_pos (by omega), em, ek, Int.toNat_natCast, Int.toNat_natCast]
      · simp (maxSteps := 1000000) -implicitDefEqProofs only [push_cast, seval]
        rw [wrapSucc (by omega)]
        refine ⟨i + 1, by kernel_rfl, ⟨by omega, c2, ?_, n2, p2⟩, by omega⟩
        rw [hs, ruF, if_pos hw2, if_neg (by omega), em, Int.toNat_natCast]
        exact b2
    · simp (maxSteps := 1000000) -implicitDefEqProofs only [push_cast, seval]
      rw [wrapSucc (by omega)]
      refine ⟨i + 1, by kernel_rfl, ⟨by omega, c1, ?_, n1, p1⟩, by omega⟩
      rw [hs, ruF, if_neg hw2]
      exact b1
  have ei : i = R.length := by omega
  rw [ei] at b1
  have hw1 : IntKind.i64.wrap ((L.length : Int) - 1) = (L.length : Int) - 1 := by rw [w64 (by omega) (by omega)]
  generalize hF0 : rusF R R.length = F0 at *
  simp (maxSteps := 1000000) -implicitDefEqProofs only [push_cast, seval, c1, rd_of c1, rd1_of c1, l1, hw1]
  refine WC.loopA (by kernel_rfl) [5] [6, 52, 53, 54, 55, 56, 57, 58, 59, 60, 61, 62, 63, 64, 65, 66, 67, 68, 69, 70, 71, 72, 73, 74, 75, 76, 77, 78, 79, 80, 81, 82, 83] (fun a : Nat × (Nat → Bool) => [.int .i64 ((a.1 : Nat) - 1)]) (fun a h' => (a.1 ≤ L.length ∧ downF (L.map Prod.fst) a.2 a.1 = downF (L.map Prod.fst) F0 L.length) ∧ h'.ob h.n = .cells [.slice B L.length d, .slice C R.length c] .solo h.n ∧ h'.ob (h.n + 1) = .cells (bT L.length a.2) .solo (h.n + 1) ∧ h.n + 2 ≤ h'.n ∧ Pre h h') (fun a => a.1) (L.length, F0) (by kernel_rfl) ⟨⟨Nat.le_refl _, rfl⟩, c1, b1, n1, p1⟩ ?_
  clear b1 c1 n1 p1 l1 m1 hb
  intro a g1 h1 hJ
  have hi := hJ.1.1
  have hd := hJ.1.2
  have c1 := hJ.2.1
  have b1 := hJ.2.2.1
  have n1 := hJ.2.2.2.1
  have p1 := hJ.2.2.2.2
  clear hJ
  have l1 : h.n < h1.n := by omega
  have m1 : h.n + 1 < h1.n := by omega
  simp (maxSteps := 1000000) -implicitDefEqProofs only [push_cast, seval]
  with_reducible refine bcase_d (fun hb => ?_) (fun hb => ?_)
  rotate_left
  · have ea : a.1 = 0 := by omega
    rw [ea] at hd
    have hd' : a.2 = reach (L.map Prod.fst) R := by
      rw [reach, hF0, List.length_map, ← hd]; rfl
    simp (maxSteps := 1000000) -implicitDefEqProofs only [push_cast, seval]
    rw [← hd']
    exact ⟨.inr ⟨h.n + 1, 0, 1, by rw [bL_len], by rw [rd_of b1, bT_bL, bL_len, rdO_cells, if_pos (by rw [bT_len]; omega), List.drop_zero, List.take_of_length_le (by rw [bT_len]; omega)], m1⟩, p1⟩
  simp (maxSteps := 1000000) -implicitDefEqProofs only [push_cast, seval]
  with_reducible refine nameN (a.1 - 1) (fun e he => ?_)
  have hae : a.1 = e + 1 := by omega
  have he' : e < L.length := by omega
  have hcast : ((a.1 : Nat) : Int) - 1 = (e : Int) := by omega
  rw [hcast]
  have hkd := ok.kids e he'
  have hkl := ok.klen e he'
  have kr := w0.kids _ (List.getElem_mem he')
  have hgd := getD_map L e he'
  rw [hae, downF, hgd] at hd
  with_reducible refine hN.use big (Pre.refl h) he' (fun id off eA hlt0 hr0 => ?_)
  subst eA
  simp only [encD] at hr0
  generalize L[e].2 = kv at *
  generalize L[e].1.kids = ks at *
  have kf := kr.rde (fun _ => rfl)
  with_reducible refine Exists.elim kf (fun K kf => ?_)
  with_reducible refine Exists.elim kf (fun cK kf => ?_)
  have eK := kf.1
  have hK := kf.2
  clear kf
  rw [eK] at hr0
  refine WC.loopA (by kernel_rfl) [6] [56, 57, 58, 59, 60, 61, 62, 63, 64, 65, 66, 67, 68, 69, 70, 71, 72, 73, 74, 75, 76, 77, 78, 79, 80, 81, 82, 83] (fun k : Nat => [.int .i64 (k : Nat)]) (fun k h' => k ≤ ks.length ∧ h'.ob h.n = .cells [.slice (some ⟨id, off, none⟩) L.length d, .slice C R.length c] .solo h.n ∧ h'.ob (h.n + 1) = .cells (bT L.length (kisF (a.2 e) a.2 ks k)) .solo (h.n + 1) ∧ h.n + 2 ≤ h'.n ∧ Pre h h') (fun k => ks.length - k) 0 (by kernel_rfl) ⟨Nat.zero_le _, c1, b1, n1, p1⟩ ?_
  clear c1 b1 n1 p1 l1 m1
  intro k g2 h2 hJ
  have hk := hJ.1
  have c2 := hJ.2.1
  have b2 := hJ.2.2.1
  have n2 := hJ.2.2.2.1
  have p2 := hJ.2.2.2.2
  clear hJ
  have l2 : h.n < h2.n := by omega
  have m2 : h.n + 1 < h2.n := by omega
  have hr : rd h2 id (off + e * 3) 3 = _ := (show rd h2 id (off + e * 3) 3 = rd h id (off + e * 3) 3 by rw [rd_eq, rd_eq, p2.ob id hlt0]).trans hr0
  have r2 := (rd_3 hr).2.2
  have hlt : id < h2.n := by omega
  have hout : kisF (a.2 e) a.2 ks k e = a.2 e := kisF_out (fun x hx => by
    obtain ⟨j, hj, rfl⟩ := List.getElem_of_mem hx
    obtain ⟨m, e1, e2⟩ := hkd j hj
    rw [getD_eq ks j 0 hj] at e1
    rw [e1, Int.toNat_natCast]
    omega) k
  have hrb : rd1 h2 (h.n + 1) (0 + e * 1) = some (.bool (a.2 e)) := by
    rw [rd1_of b2, rd1O_cells, Nat.zero_add, Nat.mul_one, bT_get _ he', hout]
  have hrb2 : rd1 h2 (h.n + 1) (e * 1) = some (.bool (a.2 e)) := by
    rw [rd1_of b2, rd1O_cells, Nat.mul_one, bT_get _ he', hout]
  simp (maxSteps := 1000000) -implicitDefEqProofs only [push_cast, seval, c2, rd_of c2, rd1_of c2, l2, hr, r2, hlt]
  repeat (with_reducible refine And.intro ?_ ?_; · (first | omega | decide))
  with_reducible refine bcase_d (fun hb3 => ?_) (fun hb3 => ?_)
  · simp (maxSteps := 1000000) -implicitDefEqProofs only [push_cast, seval, m2, hrb, hrb2]
    repeat (with_reducible refine And.intro ?_ ?_; · (first | omega | decide))
    have hk' : k < ks.length := by omega
    cases hE : a.2 e
    · have ew : IntKind.i64.wrap ((e : Int) - 1) = (e : Int) - 1 := by rw [w64 (by omega) (by omega)]
      rw [hE, kisF_false] at hd b2
      simp (maxSteps := 1000000) -implicitDefEqProofs only [push_cast, seval, hE, ew]
      exact ⟨(e, a.2), by kernel_rfl, ⟨⟨by show e ≤ L.length; omega, hd⟩, c2, b2, n2, p2⟩, by show e < a.1; omega⟩
    · rw [hE] at hd b2 hout
      have hs := kisF_succ (b := true) (F := a.2) hk'
      have hm := hkd k hk'
      rw [getD_eq ks k 0 hk'] at hm
      with_reducible refine hK.use big p2 hk' (fun id3 off3 eA hlt3 hr3 => ?_)
      subst eA
      simp only [encZ] at hr3
      generalize ks[k] = Z at *
      with_reducible refine Exists.elim hm (fun m hm => ?_)
      have em := hm.1
      have hm2 := hm.2
      clear hm
      subst em
      have q3 := rd_1 hr3
      have hbl2 : m + 1 ≤ (bT L.length (kisF true a.2 ks k)).length := by rw [bT_len]; omega
      simp (maxSteps := 1000000) -implicitDefEqProofs only [push_cast, seval, hE, c2, rd_of c2, rd1_of c2, b2, rd_of b2, rd1_of b2, l2, m2, hr, r2, hlt, hr3, q3, hlt3]
      repeat (with_reducible refine And.intro ?_ ?_; · (first | omega | decide))
      rw [Nat.mul_one, bT_set, wrapSucc (by omega)]
      refine ⟨k + 1, by kernel_rfl, ⟨by omega, ?_, n2, p2.set (by omega) _⟩, by omega⟩
      rw [hs, kiF, if_pos rfl, Int.toNat_natCast, Nat.mul_one]
  · have ek : k = ks.length := by omega
    have ew : IntKind.i64.wrap ((e : Int) - 1) = (e : Int) - 1 := by rw [w64 (by omega) (by omega)]
    rw [ek] at b2
    simp (maxSteps := 1000000) -implicitDefEqProofs only [push_cast, seval, ew]
    exact ⟨(e, kisF (a.2 e) a.2 ks ks.length), by kernel_rfl, ⟨⟨by show e ≤ L.length; omega, hd⟩, c2, b2, n2, p2⟩, by show e < a.1; omega⟩
end Go.Proofs.YtdlpdfclljnmhaaGreat
namespace Go.Proofs.YtdlpdfclljnmhaaGreat
open Go Go.Sim Go.Proofs
set_option linter.unusedSimpArgs false
set_option linter.unusedVariables false
set_option maxRecDepth 100000
set_option maxHeartbeats 1000000
/-- What a right program's node is. -/
structure OkN (N : List Nd) (i : Nat) (x : Nd) : Prop where
  op : inB x.op 1 25 = true
  len : inB x.kids.length (manyP x.op).1 (manyP x.op).2 = true
  kid : ∀ a, a < x.kids.length → ∃ m : Nat, x.kids.getD a 0 = m ∧ m < i ∧ kidP x.op a (nodeOp N m) = true
theorem OkN.of {L : List (Nd × Value)} {R : List Ru} (h : programOk ⟨L.map Prod.fst, R⟩ = true) {i : Nat} (hi : i < L.length) : OkN (L.map Prod.fst) i L[i].1 := by
  rw [programOk_split] at h
  simp only [Bool.and_eq_true, decide_eq_true_eq] at h
  obtain ⟨⟨⟨h1, h2⟩, h3⟩, h4⟩ := h
  have hn : nodeP (L.map Prod.fst) i L[i].1 = true := by
    simp only [allN, List.all_eq_true, List.mem_range] at h3
    have := h3 i hi
    rwa [getD_map L i hi] at this
  rw [nodeP_i] at hn
  simp only [Bool.and_eq_true] at hn
  obtain ⟨⟨⟨a1, a2⟩, a3⟩, a4, a5⟩ := hn
  refine ⟨a1, a5, fun a ha => ?_⟩
  simp only [allN, List.all_eq_true, List.mem_range] at a2 a4
  obtain ⟨m, e, hm⟩ := inB_nat (a2 a ha)
  have := a4 a ha
  rw [e] at this
  exact ⟨m, e, hm, this⟩
variable {kp : Nat} {vN vR vT vL vT' vL' vT2 vL2 : Value} {L : List (Nd × Value)} {R : List Ru} {s s' s2 u u' t : Wr0} {ln fn : Int} {h h1 h2 h' : AH}
/-- A step of a compiler. -/
def StepP (kp : Nat) (vN vR : Value) (L : List (Nd × Value)) (R : List Ru) (ln fn : Int) (h : AH) (s : Wr0) (vT vL : Value) (tgt : Wr0) (B : Nat) (h' : AH) : Prop :=
  ∃ s' vT' vL', Cw h' kp vN vR L R s' ln fn vT' vL' ∧ Rel s' tgt ∧ s.li.length ≤ s'.li.length ∧ s'.li.length ≤ B ∧ s'.tx.length ≤ s'.li.length ∧ Fc kp h h' vT vL vT' vL'
def NodeOk (fid : Nat) (kp : Nat) (vN vR : Value) (L : List (Nd × Value)) (R : List Ru) (ln fn : Int) (f k : Nat) : Prop :=
  ∀ (h : AH) (s u : Wr0) (vT vL : Value), Cw h kp vN vR L R s ln fn vT vL → Rel s u → s.li.length ≤ 20000 → s.tx.length ≤ s.li.length →
    CC Tryz.prog fid [.pointer (some ⟨kp, 0, none⟩), .int .i64 (k : Nat)] h (fun v h' => v = .tuple #[] ∧ StepP kp vN vR L R ln fn h s vT vL (comp (L.map Prod.fst) f k u) (max s.li.length (400 + 40 * (k + 1)) + 1) h')
theorem Rel.put (r : Rel s u) (op a : Int) : Rel (putI s op a) (putI u op a) := r.len (by rw [putI_len]; omega) (by rw [putI_len]; omega) (fun e => by rw [e])
/-- A place that is filled in later. -/
theorem Rel.patch {s2 u2 s4 u4 : Wr0} (r2 : Rel s2 u2) (r4 : Rel s4 u4) (hs : s2.li.length ≤ s4.li.length) (hu : u2.li.length ≤ u4.li.length) {a b : Int} (hab : s4 = u4 → a = b) : Rel (setArg s4 s2.li.length a) (setArg u4 u2.li.length b) := by
  rcases r2 with e | ⟨x, y⟩
  · rcases r4 with e4 | ⟨x, y⟩
    · left; rw [e, e4, hab e4]
    · right; rw [setArg_len, setArg_len]; exact ⟨x, y⟩
  · right; rw [setArg_len, setArg_len]; exact ⟨by omega, by omega⟩
theorem setArg_tx (u : Wr0) (z : Nat) (a : Int) : (setArg u z a).tx = u.tx := rfl
theorem comp_if {N : List Nd} {f k : Nat} {x : Nd} (hx : nd N k = x) (hop : x.op = 22) (u : Wr0) : comp N (f + 1) k u =
    (if x.kids.length = 3 then setArg (comp N f (kidN x 2) (setArg (putI (comp N f (kidN x 1) (putI (comp N f (kidN x 0) u) 21 0)) 22 0) (comp N f (kidN x 0) u).li.length ((comp N f (kidN x 1) (putI (comp N f (kidN x 0) u) 21 0)).li.length + 1 : Nat))) (comp N f (kidN x 1) (putI (comp N f (kidN x 0) u) 21 0)).li.length ((comp N f (kidN x 2) (setArg (putI (comp N f (kidN x 1) (putI (comp N f (kidN x 0) u) 21 0)) 22 0) (comp N f (kidN x 0) u).li.length ((comp N f (kidN x 1) (putI (comp N f (kidN x 0) u) 21 0)).li.length + 1 : Nat))).li.length : Nat)
      else setArg (comp N f (kidN x 1) (putI (comp N f (kidN x 0) u) 21 0)) (comp N f (kidN x 0) u).li.length ((comp N f (kidN x 1) (putI (comp N f (kidN x 0) u) 21 0)).li.length : Nat)) := by
  show (let x := nd N k; if x.op = 22 then _ else _) = _
  simp only [hx]
  rw [if_pos hop]
theorem comp_no {N : List Nd} {f k : Nat} {x : Nd} (hx : nd N k = x) (hop : x.op ≠ 22) (u : Wr0) : comp N (f + 1) k u = ownI x (x.kids.foldl (fun u k => comp N f k.toNat u) u) := by
  show (let x := nd N k; if x.op = 22 then _ else _) = _
  simp only [hx]
  rw [if_neg hop]
end Go.Proofs.YtdlpdfclljnmhaaGreat
/- Programs shown: what is written of them, and how much. Conditions: none. -/
set_option linter.unusedSimpArgs false
set_option linter.unusedVariables false
namespace Go.Sim
open Go.Proofs
/-- Texts, a mark between each two. -/
def jB (sep : ByteArray) (xs : List ByteArray) : ByteArray := ⟨(Lib.join (xs.map (·.data.toList)) sep.data.toList).toArray⟩
theorem ba_ext {a b : ByteArray} (h : a.data.toList = b.data.toList) : a = b := by
  cases a; cases b
  simp only at h
  rw [Array.ext' h]
theorem ba_app (a b : ByteArray) : (a ++ b).data.toList = a.data.toList ++ b.data.toList := by
  rw [ByteArray.data_append, Array.toList_append]
theorem ba_assoc (a b c : ByteArray) : a ++ b ++ c = a ++ (b ++ c) := ba_ext (by simp only [ba_app, List.append_assoc])
theorem ba_nil (a : ByteArray) : a ++ ⟨#[]⟩ = a := ba_ext (by rw [ba_app]; exact List.append_nil _)
theorem jB_nil (sep : ByteArray) : jB sep [] = ⟨#[]⟩ := rfl
theorem jB_one (sep x : ByteArray) : jB sep [x] = x := ba_ext (by unfold jB; simp only [List.map_cons, List.map_nil, Lib.join_one])
theorem jB_snoc (sep : ByteArray) (xs : List ByteArray) (y : ByteArray) (h : xs ≠ []) : jB sep (xs ++ [y]) = jB sep xs ++ sep ++ y := by
  cases xs with
  | nil => exact absurd rfl h
  | cons x r =>
    apply ba_ext
    rw [ba_app, ba_app]
    unfold jB
    simp only [List.map_append, List.map_cons, List.map_nil, List.cons_append, Lib.join_cons, Lib.joinTail, List.flatten_append, List.flatten_cons, List.flatten_nil, List.append_nil, List.append_assoc]
theorem ba_size (a : ByteArray) : a.size = a.data.toList.length := by rw [Array.length_toList]; rfl
theorem jB_len (sep : ByteArray) (xs : List ByteArray) : (Lib.join (xs.map (·.data.toList)) sep.data.toList).length = (jB sep xs).size := by rw [ba_size]; rfl
theorem jB_size (sep : ByteArray) (xs : List ByteArray) : (jB sep xs).size ≤ sep.size * xs.length + (xs.map ByteArray.size).sum := by
  rw [← jB_len]
  cases xs with
  | nil => exact Nat.zero_le _
  | cons x r =>
    rw [List.map_cons, Lib.join_length, Lib.lens, List.length_map, ← ba_size]
    have : ((x.data.toList :: r.map (·.data.toList)).map List.length).sum = ((x :: r).map ByteArray.size).sum := by
      simp only [List.map_cons, List.map_map, ← ba_size]
      rw [show (List.length ∘ fun x : ByteArray => x.data.toList) = ByteArray.size from funext fun y => (ba_size y).symm]
    exact Nat.add_le_add (Nat.mul_le_mul_left _ (by rw [List.length_cons]; omega)) (Nat.le_of_eq this)
def kidN' (x : Nd) (a : Nat) : Nat := (x.kids.getD a 0).toNat
def sg (m : Nat) : ByteArray := ([⟨#[43]⟩, ⟨#[45]⟩, ⟨#[42]⟩, ⟨#[37]⟩, ⟨#[46]⟩, ⟨#[60]⟩, ⟨#[61, 61]⟩] : List ByteArray).getD m ⟨#[]⟩
/-- An expression, shown. -/
def shE (N : List Nd) : Nat → Nat → ByteArray
  | 0, _ => ⟨#[]⟩
  | f + 1, k =>
    let x := nd N k
    let a := shE N f (kidN' x 0)
    let b := shE N f (kidN' x 1)
    if x.op = 1 ∨ x.op = 3 then x.text
    else if x.op = 2 then (⟨#[34]⟩ : ByteArray) ++ x.text ++ (⟨#[34]⟩ : ByteArray)
    else if x.op = 4 then x.text ++ (⟨#[91]⟩ : ByteArray) ++ a ++ (⟨#[93]⟩ : ByteArray)
    else if x.op = 5 then (⟨#[36, 40]⟩ : ByteArray) ++ a ++ (⟨#[41]⟩ : ByteArray)
    else if x.op = 6 then (⟨#[78, 70]⟩ : ByteArray)
    else if x.op = 7 then (⟨#[78, 82]⟩ : ByteArray)
    else if x.op = 8 then (⟨#[108, 101, 110, 103, 116, 104, 40]⟩ : ByteArray) ++ a ++ (⟨#[41]⟩ : ByteArray)
    else if x.op = 16 then (⟨#[40]⟩ : ByteArray) ++ a ++ (⟨#[32, 126, 32, 47]⟩ : ByteArray) ++ x.text ++ (⟨#[47, 41]⟩ : ByteArray)
    else (⟨#[40]⟩ : ByteArray) ++ a ++ (⟨#[32]⟩ : ByteArray) ++ sg (x.op - 9).toNat ++ (⟨#[32]⟩ : ByteArray) ++ b ++ (⟨#[41]⟩ : ByteArray)
/-- A statement, shown. -/
def shS (N : List Nd) : Nat → Nat → ByteArray
  | 0, _ => ⟨#[]⟩
  | f + 1, k =>
    let x := nd N k
    let a := shE N f (kidN' x 0)
    let b := shE N f (kidN' x 1)
    if x.op = 17 then (⟨#[112, 114, 105, 110, 116, 32]⟩ : ByteArray) ++ jB (⟨#[44, 32]⟩ : ByteArray) (x.kids.map fun a => shE N f a.toNat)
    else if x.op = 18 then x.text ++ (⟨#[32, 61, 32]⟩ : ByteArray) ++ a
    else if x.op = 19 then x.text ++ (⟨#[32, 43, 61, 32]⟩ : ByteArray) ++ a
    else if x.op = 20 then x.text ++ (⟨#[91]⟩ : ByteArray) ++ a ++ (⟨#[93, 32, 61, 32]⟩ : ByteArray) ++ b
    else if x.op = 21 then x.text ++ (⟨#[91]⟩ : ByteArray) ++ a ++ (⟨#[93, 32, 43, 61, 32]⟩ : ByteArray) ++ b
    else if x.op = 22 then
      if x.kids.length = 3 then (⟨#[105, 102, 32, 40]⟩ : ByteArray) ++ a ++ (⟨#[41, 32]⟩ : ByteArray) ++ shS N f (kidN' x 1) ++ ((⟨#[32, 101, 108, 115, 101, 32]⟩ : ByteArray) ++ shS N f (kidN' x 2))
      else (⟨#[105, 102, 32, 40]⟩ : ByteArray) ++ a ++ (⟨#[41, 32]⟩ : ByteArray) ++ shS N f (kidN' x 1)
    else if x.op = 23 then (⟨#[110, 101, 120, 116]⟩ : ByteArray)
    else if x.op = 25 then (⟨#[100, 117, 109, 112, 32]⟩ : ByteArray) ++ x.text
    else if x.kids = [] then (⟨#[123, 32, 125]⟩ : ByteArray)
    else (⟨#[123, 32]⟩ : ByteArray) ++ jB (⟨#[59, 32]⟩ : ByteArray) (x.kids.map fun a => shS N f a.toNat) ++ (⟨#[32, 125]⟩ : ByteArray)
def ruleT (N : List Nd) (r : Ru) : ByteArray :=
  if r.when_ = 1 then (⟨#[66, 69, 71, 73, 78, 32]⟩ : ByteArray) else if r.when_ = 3 then (⟨#[69, 78, 68, 32]⟩ : ByteArray) else if 0 ≤ r.cond then shE N N.length r.cond.toNat ++ (⟨#[32]⟩ : ByteArray) else ⟨#[]⟩
def showR (N : List Nd) (R : List Ru) : ByteArray := R.foldl (fun s r => s ++ ruleT N r ++ (shS N N.length r.act.toNat ++ (⟨#[10]⟩ : ByteArray))) ⟨#[]⟩
/-- How many nodes there are below one, each as often as it is come to. -/
def cnt (N : List Nd) : Nat → Nat → Nat
  | 0, _ => 0
  | f + 1, k => 1 + ((nd N k).kids.map fun a => cnt N f a.toNat).sum
def cntR (N : List Nd) (r : Ru) : Nat := cnt N N.length r.act.toNat + if 0 ≤ r.cond then cnt N N.length r.cond.toNat else 0
def cntAll (N : List Nd) (R : List Ru) : Nat := (R.map (cntR N)).sum
/-- Is it shown at all? -/
def showOk (N : List Nd) (R : List Ru) : Bool := programOk ⟨N, R⟩ && decide (cntAll N R ≤ 2000)
def showP (N : List Nd) (R : List Ru) : ByteArray := if showOk N R = true then showR N R else ⟨#[]⟩
end Go.Sim
namespace Go.Proofs.YtdlpdfclljnmhaaGreat
open Go Go.Sim Go.Proofs
set_option linter.unusedSimpArgs false
set_option linter.unusedVariables false
set_option maxRecDepth 100000
set_option maxHeartbeats 1000000
variable {vN vR : Value} {L : List (Nd × Value)} {R : List Ru} {h h1 h2 h' : AH}
theorem sg_size (m : Nat) : (sg m).size ≤ 2 := by
  unfold sg
  match m with
  | 0 | 1 | 2 | 3 | 4 | 5 | 6 => decide
  | n + 7 => exact Nat.zero_le _
theorem lit_sizes : (ByteArray.mk #[34]).size = 1 ∧ (ByteArray.mk #[91]).size = 1 ∧ (ByteArray.mk #[93]).size = 1 ∧ (ByteArray.mk #[36, 40]).size = 2 ∧ (ByteArray.mk #[41]).size = 1 ∧ (ByteArray.mk #[78, 70]).size = 2 ∧ (ByteArray.mk #[78, 82]).size = 2 ∧ (ByteArray.mk #[108, 101, 110, 103, 116, 104, 40]).size = 7 ∧ (ByteArray.mk #[40]).size = 1 ∧ (ByteArray.mk #[32, 126, 32, 47]).size = 4 ∧ (ByteArray.mk #[47, 41]).size = 2 ∧ (ByteArray.mk #[32]).size = 1 ∧ (ByteArray.mk #[112, 114, 105, 110, 116, 32]).size = 6 ∧ (ByteArray.mk #[44, 32]).size = 2 ∧ (ByteArray.mk #[32, 61, 32]).size = 3 ∧ (ByteArray.mk #[32, 43, 61, 32]).size = 4 ∧ (ByteArray.mk #[93, 32, 61, 32]).size = 4 ∧ (ByteArray.mk #[93, 32, 43, 61, 32]).size = 5 ∧ (ByteArray.mk #[105, 102, 32, 40]).size = 4 ∧ (ByteArray.mk #[41, 32]).size = 2 ∧ (ByteArray.mk #[32, 101, 108, 115, 101, 32]).size = 6 ∧ (ByteArray.mk #[110, 101, 120, 116]).size = 4 ∧ (ByteArray.mk #[100, 117, 109, 112, 32]).size = 5 ∧ (ByteArray.mk #[123, 32, 125]).size = 3 ∧ (ByteArray.mk #[123, 32]).size = 2 ∧ (ByteArray.mk #[59, 32]).size = 2 ∧ (ByteArray.mk #[32, 125]).size = 2 ∧ (ByteArray.mk #[66, 69, 71, 73, 78, 32]).size = 6 ∧ (ByteArray.mk #[69, 78, 68, 32]).size = 4 ∧ (ByteArray.mk #[10]).size = 1 := by refine ⟨rfl, rfl, rfl, rfl, rfl, rfl, rfl, rfl, rfl, rfl, rfl, rfl, rfl, rfl, rfl, rfl, rfl, rfl, rfl, rfl, rfl, rfl, rfl, rfl, rfl, rfl, rfl, rfl, rfl, rfl⟩
/-- An expression's kids. -/
structure ExK (N : List Nd) (k : Nat) (x : Nd) : Prop where
  a : (x.op = 4 ∨ x.op = 5 ∨ x.op = 8 ∨ x.op = 16 ∨ x.op = 18 ∨ x.op = 19) → ∃ p : Nat, x.kids = [(p : Int)] ∧ p < k ∧ isEx (nd N p).op = true
  b : ((9 ≤ x.op ∧ x.op ≤ 15) ∨ x.op = 20 ∨ x.op = 21) → ∃ p q : Nat, x.kids = [(p : Int), (q : Int)] ∧ (p < k ∧ isEx (nd N p).op = true) ∧ q < k ∧ isEx (nd N q).op = true
theorem kids_one {l : List Int} (h : l.length = 1) : l = [l.getD 0 0] := by
  match l, h with
  | [a], _ => rfl
theorem kids_two {l : List Int} (h : l.length = 2) : l = [l.getD 0 0, l.getD 1 0] := by
  match l, h with
  | [a, b], _ => rfl
theorem kid_st' {op : Int} {a : Nat} {kop : Int} (h2 : op ≠ 22) (h4 : op ≠ 24) (hk : kidP op a kop = true) : isEx kop = true := by
  unfold kidP at hk
  rw [if_neg (fun e => h2 e.1), if_neg h4] at hk
  exact hk
theorem ExK.of {N : List Nd} {k : Nat} {x : Nd} (o : OkN N k x) : ExK N k x := by
  constructor
  · intro h
    have l1 : x.kids.length = 1 := by
      have := o.len
      unfold manyP rangeP at this
      rw [if_neg (by omega), if_neg (by omega), if_pos h] at this
      simp only [inB, Bool.and_eq_true, decide_eq_true_eq] at this
      omega
    obtain ⟨p, e, lp, kp⟩ := o.kid 0 (by omega)
    exact ⟨p, by rw [← e]; exact kids_one l1, lp, kid_st' (by omega) (by omega) kp⟩
  · intro h
    have l1 : x.kids.length = 2 := by
      have := o.len
      unfold manyP rangeP at this
      rw [if_neg (by omega), if_neg (by omega), if_neg (by omega), if_pos (by omega)] at this
      simp only [inB, Bool.and_eq_true, decide_eq_true_eq] at this
      omega
    obtain ⟨p, e, lp, kp⟩ := o.kid 0 (by omega)
    obtain ⟨q, e2, lq, kq⟩ := o.kid 1 (by omega)
    exact ⟨p, q, by rw [← e, ← e2]; exact kids_two l1, ⟨lp, kid_st' (by omega) (by omega) kp⟩, lq, kid_st' (by omega) (by omega) kq⟩
theorem nd_L (k : Nat) (hk : k < L.length) : nd (L.map Prod.fst) k = L[k].1 := getD_map L k hk
theorem isEx_iff (op : Int) : isEx op = true ↔ 1 ≤ op ∧ op ≤ 16 := by simp only [isEx, inB, Bool.and_eq_true, decide_eq_true_eq]
/-- How long an expression shown is. -/
theorem shE_size (hok : programOk ⟨L.map Prod.fst, R⟩ = true) (ht : ∀ x ∈ L, x.1.text.size ≤ 1048576) : ∀ k, k < L.length → isEx (nd (L.map Prod.fst) k).op = true → ∀ f, k < f → (shE (L.map Prod.fst) f k).size ≤ 1048640 * cnt (L.map Prod.fst) f k ∧ 1 ≤ cnt (L.map Prod.fst) f k := by
  intro k
  induction k using Nat.strongRecOn with
  | ind k ih =>
  intro hk he f hf
  obtain ⟨g, rfl⟩ : ∃ g, f = g + 1 := ⟨f - 1, by omega⟩
  have ek := ExK.of (OkN.of hok hk)
  have tx := ht _ (List.getElem_mem hk)
  have hx := nd_L (L := L) k hk
  rw [hx] at he
  rw [isEx_iff] at he
  unfold shE cnt
  simp only [hx]
  generalize L[k].1 = x at *
  have ls := lit_sizes
  have gs := sg_size (x.op - 9).toNat
  rcases Classical.em (x.op = 4 ∨ x.op = 5 ∨ x.op = 8 ∨ x.op = 16) with c1 | c1
  · obtain ⟨p, e, lp, ep⟩ := ek.a (by omega)
    have ep := ih p lp (by omega) ep g (by omega)
    have e0 : kidN' x 0 = p := by unfold kidN'; rw [e]; rfl
    rw [e0, e]
    simp only [List.map_cons, List.map_nil, List.sum_cons, List.sum_nil, Int.toNat_natCast]
    generalize shE (L.map Prod.fst) g p = A at *
    generalize cnt (L.map Prod.fst) g p = n at *
    repeat' split
    all_goals (try simp only [ByteArray.size_append])
    all_goals omega
  rcases Classical.em (9 ≤ x.op ∧ x.op ≤ 15) with c2 | c2
  · obtain ⟨p, q, e, ⟨lp, ep⟩, lq, eq⟩ := ek.b (by omega)
    have ep := ih p lp (by omega) ep g (by omega)
    have eq := ih q lq (by omega) eq g (by omega)
    have e0 : kidN' x 0 = p := by unfold kidN'; rw [e]; rfl
    have e1 : kidN' x 1 = q := by unfold kidN'; rw [e]; rfl
    rw [e0, e1, e]
    simp only [List.map_cons, List.map_nil, List.sum_cons, List.sum_nil, Int.toNat_natCast]
    rw [if_neg (by omega), if_neg (by omega), if_neg (by omega), if_neg (by omega), if_neg (by omega), if_neg (by omega), if_neg (by omega), if_neg (by omega)]
    generalize shE (L.map Prod.fst) g p = A at *
    generalize shE (L.map Prod.fst) g q = A2 at *
    generalize cnt (L.map Prod.fst) g p = n at *
    generalize cnt (L.map Prod.fst) g q = n2 at *
    generalize sg (x.op - 9).toNat = S at *
    simp only [ByteArray.size_append]
    omega
  generalize (x.kids.map fun a => cnt (L.map Prod.fst) g a.toNat).sum = Sm
  by_cases d1 : x.op = 1 ∨ x.op = 3
  · rw [if_pos d1]; omega
  rw [if_neg d1]
  by_cases d2 : x.op = 2
  · rw [if_pos d2]; simp only [ByteArray.size_append]; omega
  rw [if_neg d2, if_neg (by omega), if_neg (by omega)]
  by_cases d6 : x.op = 6
  · rw [if_pos d6]; omega
  rw [if_neg d6, if_pos (by omega)]
  omega
end Go.Proofs.YtdlpdfclljnmhaaGreat
/- Patterns: what they take. Conditions: none. -/
set_option linter.unusedSimpArgs false
set_option linter.unusedVariables false
namespace Go.Sim
/-! ### numbers, sorted, each once -/
def srtI (l : List Int) : List Int := l.mergeSort fun x y => decide (x ≤ y)
theorem srtI_mem (l : List Int) (x : Int) : x ∈ srtI l ↔ x ∈ l := List.mem_mergeSort
theorem srtI_pw (l : List Int) : (srtI l).Pairwise (· ≤ ·) := by
  have := List.pairwise_mergeSort (le := fun x y : Int => decide (x ≤ y)) (fun a b c h1 h2 => by simp at *; omega) (fun a b => by simp; omega) l
  exact this.imp (fun h => by simpa using h)
theorem srtI_len (l : List Int) : (srtI l).length = l.length := List.length_mergeSort l
theorem getXI {l : List Int} {i : Nat} (h : i < l.length) : l.toArray[i]! = l[i] := by simp [h]
theorem cmpI_mem (l : List Int) (x : Int) : x ∈ Lib.compact l ↔ x ∈ l := by
  unfold Lib.compact Lib.compactUpTo
  simp only [List.mem_map, List.mem_filter, List.mem_range]
  constructor
  · rintro ⟨j, ⟨hj, _⟩, rfl⟩
    rw [getXI hj]; exact List.getElem_mem hj
  · intro hx
    obtain ⟨i, hi, rfl⟩ := List.getElem_of_mem hx
    have key : ∀ i, (hi : i < l.length) → ∃ j, (j < l.length ∧ Lib.keeps l.toArray j = true) ∧ l.toArray[j]! = l[i] := by
      intro i
      induction i with
      | zero => exact fun hi => ⟨0, ⟨hi, by simp [Lib.keeps]⟩, getXI hi⟩
      | succ i ih =>
        intro hi
        by_cases e : l[i + 1] = l[i]
        · rw [e]; exact ih (by omega)
        · exact ⟨i + 1, ⟨hi, by rw [Lib.keeps]; simp only [decide_eq_true_eq]; right; rw [Nat.add_sub_cancel, getXI hi, getXI (by omega)]; exact e⟩, getXI hi⟩
    exact key i hi
theorem cmpI_len (l : List Int) : (Lib.compact l).length ≤ l.length := by
  unfold Lib.compact Lib.compactUpTo
  rw [List.length_map]
  exact Nat.le_trans (List.length_filter_le _ _) (by simp)
theorem cmpI_pw {l : List Int} (h : l.Pairwise (· ≤ ·)) : (Lib.compact l).Pairwise (· < ·) := by
  unfold Lib.compact Lib.compactUpTo
  rw [List.pairwise_map, List.pairwise_filter]
  have hr : (List.range l.length).Pairwise (fun i j => i < j ∧ i < l.length ∧ j < l.length) := by
    have := List.pairwise_lt_range (n := l.length)
    exact List.Pairwise.imp_of_mem (fun ha hb hab => ⟨hab, List.mem_range.1 ha, List.mem_range.1 hb⟩) this
  refine hr.imp ?_
  rintro i j ⟨h1, h2, h3⟩ _ hk
  rw [getXI h2, getXI h3]
  simp only [Lib.keeps, decide_eq_true_eq] at hk
  have hne : l[j] ≠ l[j - 1] := by
    rcases hk with hk | hk
    · omega
    · rw [getXI h3, getXI (by omega)] at hk; exact hk
  have hle : ∀ a b, (ha : a < l.length) → (hb : b < l.length) → a < b → l[a] ≤ l[b] := fun a b ha hb hab => List.pairwise_iff_getElem.1 h a b ha hb hab
  have h4 := hle (j - 1) j (by omega) h3 (by omega)
  by_cases e : i = j - 1
  · subst e; omega
  · have h6 := hle i (j - 1) h2 (by omega) (by omega)
    omega
theorem pwI_uniq : ∀ {a b : List Int}, a.Pairwise (· < ·) → b.Pairwise (· < ·) → (∀ x, x ∈ a ↔ x ∈ b) → a = b
  | [], [], _, _, _ => rfl
  | [], y :: b, _, _, h => by have := (h y).2 (by simp); cases this
  | x :: a, [], _, _, h => by have := (h x).1 (by simp); cases this
  | x :: a, y :: b, ha, hb, h => by
    rw [List.pairwise_cons] at ha hb
    have exy : x = y := by
      rcases List.mem_cons.1 ((h x).1 (by simp)) with e | e
      · exact e
      · rcases List.mem_cons.1 ((h y).2 (by simp)) with e2 | e2
        · exact e2.symm
        · have := hb.1 x e; have := ha.1 y e2; omega
    subst exy
    rw [pwI_uniq ha.2 hb.2 (fun z => by
      constructor
      · intro hz
        rcases List.mem_cons.1 ((h z).1 (List.mem_cons_of_mem _ hz)) with e | e
        · subst e; have := ha.1 z hz; omega
        · exact e
      · intro hz
        rcases List.mem_cons.1 ((h z).2 (List.mem_cons_of_mem _ hz)) with e | e
        · subst e; have := hb.1 z hz; omega
        · exact e)]
def toI (l : List Nat) : List Int := l.map Int.ofNat
def inat (l : List Int) : List Nat := l.map Int.toNat
/-- The places of a list, sorted, each once. -/
noncomputable def places (n : Nat) (R : Nat → Prop) : List Nat := (List.range (n + 1)).filter fun j => @decide (R j) (Classical.propDecidable _)
theorem places_mem {n : Nat} {R : Nat → Prop} {j : Nat} : j ∈ places n R ↔ j ≤ n ∧ R j := by
  unfold places
  simp only [List.mem_filter, List.mem_range, decide_eq_true_eq]
  exact ⟨fun ⟨a, b⟩ => ⟨by omega, b⟩, fun ⟨a, b⟩ => ⟨by omega, b⟩⟩
theorem places_pw (n : Nat) (R : Nat → Prop) : (places n R).Pairwise (· < ·) := List.Pairwise.filter _ List.pairwise_lt_range
theorem places_len (n : Nat) (R : Nat → Prop) : (places n R).length ≤ n + 1 := by
  unfold places
  exact Nat.le_trans (List.length_filter_le _ _) (by simp)
theorem sorted_places {l : List Nat} {n : Nat} {R : Nat → Prop} (h : ∀ j, j ∈ l ↔ j ≤ n ∧ R j) : Lib.compact (srtI (toI l)) = toI (places n R) := by
  refine pwI_uniq (cmpI_pw (srtI_pw _)) ?_ (fun x => ?_)
  · unfold toI
    rw [List.pairwise_map]
    exact (places_pw n R).imp (fun h => by have := h; simp only [Int.ofNat_eq_natCast]; omega)
  · rw [cmpI_mem, srtI_mem]
    simp only [toI, List.mem_map, places_mem]
    constructor
    · rintro ⟨j, hj, rfl⟩; exact ⟨j, (h j).1 hj, rfl⟩
    · rintro ⟨j, hj, rfl⟩; exact ⟨j, (h j).2 hj, rfl⟩
/-! ### what a piece takes -/
inductive Rt (R : Nat → Nat → Prop) : Nat → Nat → Prop
  | refl (a : Nat) : Rt R a a
  | step {a b c : Nat} : Rt R a b → R b c → Rt R a c
theorem Rt.one {R : Nat → Nat → Prop} {a b : Nat} (h : R a b) : Rt R a b := (Rt.refl a).step h
theorem Rt.trans {R : Nat → Nat → Prop} {a b c : Nat} (h : Rt R a b) (g : Rt R b c) : Rt R a c := by
  induction g with
  | refl => exact h
  | step _ r ih => exact ih.step r
theorem Rt.head {R : Nat → Nat → Prop} {a c : Nat} (h : Rt R a c) : a = c ∨ ∃ b, R a b ∧ Rt R b c := by
  induction h with
  | refl => exact .inl rfl
  | step h r ih =>
    rcases ih with rfl | ⟨b, r1, h1⟩
    · exact .inr ⟨_, r, .refl _⟩
    · exact .inr ⟨b, r1, h1.step r⟩
def hasB (t : ByteArray) (c : Nat) : Bool := !(allAt t fun x => decide (x ≠ c))
def tk (x : Pc) (s : ByteArray) (i : Nat) : Bool :=
  if x.op = 1 ∨ x.op = 3 then hasB x.text (byteAt s i).toNat else if x.op = 2 then true else if x.op = 4 then !hasB x.text (byteAt s i).toNat else false
def leafP (x : Pc) (s : ByteArray) (i j : Nat) : Prop :=
  if 1 ≤ x.op ∧ x.op ≤ 4 then i < s.size ∧ j = i + 1 ∧ tk x s i = true
  else if x.op = 10 then i = 0 ∧ j = i
  else if x.op = 11 then s.size ≤ i ∧ j = i
  else j = i
def pcAt (L : List Pc) (k : Nat) : Pc := L.getD k ⟨0, ⟨#[]⟩, []⟩
def kid (x : Pc) (a : Nat) : Nat := x.kids.getD a 0
/-- What a piece takes, its kids' takings known. -/
def step (R : Nat → Nat → Nat → Prop) (x : Pc) (s : ByteArray) (i j : Nat) : Prop :=
  if x.op = 5 then ∃ m, R (kid x 0) i m ∧ R (kid x 1) m j
  else if x.op = 6 then R (kid x 0) i j ∨ R (kid x 1) i j
  else if x.op = 7 then Rt (R (kid x 0)) i j
  else if x.op = 8 then ∃ m, R (kid x 0) i m ∧ Rt (R (kid x 0)) m j
  else if x.op = 9 then j = i ∨ R (kid x 0) i j
  else leafP x s i j
def Mf (L : List Pc) (s : ByteArray) : Nat → Nat → Nat → Nat → Prop
  | 0, _, _, _ => False
  | f + 1, k, i, j => step (Mf L s f) (pcAt L k) s i j
def Mt (L : List Pc) (s : ByteArray) (k i j : Nat) : Prop := Mf L s (k + 1) k i j
theorem step_congr {R S : Nat → Nat → Nat → Prop} {x : Pc} {s : ByteArray} (h : ∀ a, a < x.kids.length → R (kid x a) = S (kid x a)) (hk : x.kids.length = kidsN x.op) : step R x s = step S x s := by
  funext i j
  unfold step
  by_cases e5 : x.op = 5
  · have h2 : x.kids.length = 2 := by rw [hk, kidsN, if_pos (.inl e5)]
    rw [if_pos e5, if_pos e5, h 0 (by omega), h 1 (by omega)]
  rw [if_neg e5, if_neg e5]
  by_cases e6 : x.op = 6
  · have h2 : x.kids.length = 2 := by rw [hk, kidsN, if_pos (.inr e6)]
    rw [if_pos e6, if_pos e6, h 0 (by omega), h 1 (by omega)]
  rw [if_neg e6, if_neg e6]
  by_cases e7 : x.op = 7
  · have h2 : x.kids.length = 1 := by rw [hk, kidsN, if_neg (by omega), if_pos (.inl e7)]
    rw [if_pos e7, if_pos e7, h 0 (by omega)]
  rw [if_neg e7, if_neg e7]
  by_cases e8 : x.op = 8
  · have h2 : x.kids.length = 1 := by rw [hk, kidsN, if_neg (by omega), if_pos (by omega)]
    rw [if_pos e8, if_pos e8, h 0 (by omega)]
  rw [if_neg e8, if_neg e8]
  by_cases e9 : x.op = 9
  · have h2 : x.kids.length = 1 := by rw [hk, kidsN, if_neg (by omega), if_pos (by omega)]
    rw [if_pos e9, if_pos e9, h 0 (by omega)]
  rw [if_neg e9, if_neg e9]
theorem pcAt_ok {L : List Pc} (o : Okp L) {k : Nat} (hk : k < L.length) : OkPc (pcAt L k) k := by
  have : pcAt L k = L[k] := by simp [pcAt, hk]
  rw [this]; exact o k hk
theorem kid_lt {x : Pc} {k : Nat} (o : OkPc x k) {a : Nat} (ha : a < x.kids.length) : kid x a < k := by
  have : kid x a = x.kids[a] := by simp [kid, ha]
  rw [this]; exact o.ahead _ (List.getElem_mem ha)
theorem Mf_eq {L : List Pc} (o : Okp L) {s : ByteArray} : ∀ k, k < L.length → ∀ f, k < f → Mf L s f k = Mt L s k := by
  intro k
  induction k using Nat.strongRecOn with
  | ind k ih =>
    intro hk f hf
    obtain ⟨g, rfl⟩ : ∃ g, f = g + 1 := ⟨f - 1, by omega⟩
    show step (Mf L s g) (pcAt L k) s = step (Mf L s k) (pcAt L k) s
    have ok := pcAt_ok o hk
    exact step_congr (fun a ha => by
      have := kid_lt ok ha
      rw [ih _ this (by omega) g (by omega), ih _ this (by omega) k this]) ok.kids
theorem Mt_eq {L : List Pc} (o : Okp L) {s : ByteArray} {k : Nat} (hk : k < L.length) : Mt L s k = step (Mt L s) (pcAt L k) s := by
  show step (Mf L s k) (pcAt L k) s = _
  have ok := pcAt_ok o hk
  exact step_congr (fun a ha => by
    have := kid_lt ok ha
    exact Mf_eq o _ (by omega) k this) ok.kids
/-- From a place within the text on, within the text. -/
theorem Mt_in {L : List Pc} (o : Okp L) {s : ByteArray} : ∀ k, k < L.length → ∀ i j, i ≤ s.size → Mt L s k i j → i ≤ j ∧ j ≤ s.size := by
  intro k
  induction k using Nat.strongRecOn with
  | ind k ih =>
    intro hk i j hi m
    rw [Mt_eq o hk] at m
    have ok := pcAt_ok o hk
    generalize pcAt L k = x at *
    have go : ∀ a, a < x.kids.length → ∀ i j, i ≤ s.size → Mt L s (kid x a) i j → i ≤ j ∧ j ≤ s.size := fun a ha => ih _ (kid_lt ok ha) (by have := kid_lt ok ha; omega)
    have rt : ∀ a, a < x.kids.length → ∀ i j, i ≤ s.size → Rt (Mt L s (kid x a)) i j → i ≤ j ∧ j ≤ s.size := fun a ha i j hi r => by
      induction r with
      | refl => exact ⟨Nat.le_refl _, hi⟩
      | step _ r ih2 => have := ih2; have := go a ha _ _ this.2 r; omega
    have kk := ok.kids
    unfold step at m
    split at m
    · rename_i e
      rw [kidsN, if_pos (.inl e)] at kk
      obtain ⟨q, m1, m2⟩ := m
      have a := go 0 (by omega) _ _ hi m1
      have b := go 1 (by omega) _ _ a.2 m2
      omega
    split at m
    · rename_i e
      rw [kidsN, if_pos (.inr e)] at kk
      rcases m with m | m
      · exact go 0 (by omega) _ _ hi m
      · exact go 1 (by omega) _ _ hi m
    split at m
    · rename_i _ _ e
      rw [kidsN, if_neg (by omega), if_pos (by omega)] at kk
      exact rt 0 (by omega) _ _ hi m
    split at m
    · rename_i _ _ _ e
      rw [kidsN, if_neg (by omega), if_pos (by omega)] at kk
      obtain ⟨q, m1, m2⟩ := m
      have a := go 0 (by omega) _ _ hi m1
      have b := rt 0 (by omega) _ _ a.2 m2
      omega
    split at m
    · rename_i _ _ _ _ e
      rw [kidsN, if_neg (by omega), if_pos (by omega)] at kk
      rcases m with rfl | m
      · omega
      · exact go 0 (by omega) _ _ hi m
    unfold leafP at m
    split at m
    · omega
    split at m
    · omega
    split at m
    · omega
    · omega
noncomputable def ml (L : List Pc) (s : ByteArray) (k i : Nat) : List Nat := places s.size (Mt L s k i)
theorem ml_mem {L : List Pc} (o : Okp L) {s : ByteArray} {k i j : Nat} (hk : k < L.length) (hi : i ≤ s.size) : j ∈ ml L s k i ↔ Mt L s k i j := by
  unfold ml
  rw [places_mem]
  exact ⟨fun h => h.2, fun h => ⟨(Mt_in o k hk i j hi h).2, h⟩⟩
/-! ### what was come to -/
def inF (l : List Nat) (j : Nat) : Bool := decide (j ∈ l)
def cntB (m : Nat) (F : Nat → Bool) : Nat := ((List.range m).filter F).length
theorem cntB_le (m : Nat) (F : Nat → Bool) : cntB m F ≤ m := by
  unfold cntB
  exact Nat.le_trans (List.length_filter_le _ _) (by simp)
theorem cntB_snoc {l : List Nat} {j : Nat} (hj : j ∉ l) : ∀ {m : Nat}, j < m → cntB m (inF (l ++ [j])) = cntB m (inF l) + 1
  | 0, h => by omega
  | m + 1, h => by
    have other : ∀ q, q ≠ j → inF (l ++ [j]) q = inF l q := fun q hq => by simp [inF, hq]
    have low : ∀ m', m' ≤ j → cntB m' (inF (l ++ [j])) = cntB m' (inF l) := fun m' hm => by
      unfold cntB
      congr 1
      apply List.filter_congr
      intro q hq
      rw [List.mem_range] at hq
      exact other q (by omega)
    have e1 : ∀ F : Nat → Bool, cntB (m + 1) F = cntB m F + (if F m = true then 1 else 0) := fun F => by
      unfold cntB
      rw [List.range_succ, List.filter_append, List.length_append]
      cases h : F m <;> simp [h]
    rw [e1, e1]
    by_cases e : j = m
    · subst e
      rw [low j (Nat.le_refl _)]
      simp [inF, hj]
    · rw [cntB_snoc hj (by omega), other m (fun e2 => e e2.symm)]
      omega
theorem Rt_closed {R : Nat → Nat → Prop} {l : List Nat} (hc : ∀ a ∈ l, ∀ b, R a b → b ∈ l) {a b : Nat} (ha : a ∈ l) (r : Rt R a b) : b ∈ l := by
  induction r with
  | refl => exact ha
  | step _ r ih => exact hc _ ih _ r
theorem step5 {R : Nat → Nat → Nat → Prop} {x : Pc} {s : ByteArray} {i j : Nat} (h : x.op = 5) : step R x s i j ↔ ∃ m, R (kid x 0) i m ∧ R (kid x 1) m j := by unfold step; rw [if_pos h]
theorem step6 {R : Nat → Nat → Nat → Prop} {x : Pc} {s : ByteArray} {i j : Nat} (h : x.op = 6) : step R x s i j ↔ (R (kid x 0) i j ∨ R (kid x 1) i j) := by unfold step; rw [if_neg (by omega), if_pos h]
theorem step7 {R : Nat → Nat → Nat → Prop} {x : Pc} {s : ByteArray} {i j : Nat} (h : x.op = 7) : step R x s i j ↔ Rt (R (kid x 0)) i j := by unfold step; rw [if_neg (by omega), if_neg (by omega), if_pos h]
theorem step8 {R : Nat → Nat → Nat → Prop} {x : Pc} {s : ByteArray} {i j : Nat} (h : x.op = 8) : step R x s i j ↔ ∃ m, R (kid x 0) i m ∧ Rt (R (kid x 0)) m j := by unfold step; rw [if_neg (by omega), if_neg (by omega), if_neg (by omega), if_pos h]
theorem step9 {R : Nat → Nat → Nat → Prop} {x : Pc} {s : ByteArray} {i j : Nat} (h : x.op = 9) : step R x s i j ↔ (j = i ∨ R (kid x 0) i j) := by unfold step; rw [if_neg (by omega), if_neg (by omega), if_neg (by omega), if_neg (by omega), if_pos h]
theorem stepL {R : Nat → Nat → Nat → Prop} {x : Pc} {s : ByteArray} {i j : Nat} (h : x.op < 5 ∨ 9 < x.op) : step R x s i j ↔ leafP x s i j := by unfold step; rw [if_neg (by omega), if_neg (by omega), if_neg (by omega), if_neg (by omega), if_neg (by omega)]
theorem leaf1 {x : Pc} {s : ByteArray} {i j : Nat} (h : 1 ≤ x.op ∧ x.op ≤ 4) : leafP x s i j ↔ i < s.size ∧ j = i + 1 ∧ tk x s i = true := by unfold leafP; rw [if_pos h]
theorem leaf10 {x : Pc} {s : ByteArray} {i j : Nat} (h : x.op = 10) : leafP x s i j ↔ i = 0 ∧ j = i := by unfold leafP; rw [if_neg (by omega), if_pos h]
theorem leaf11 {x : Pc} {s : ByteArray} {i j : Nat} (h : x.op = 11) : leafP x s i j ↔ s.size ≤ i ∧ j = i := by unfold leafP; rw [if_neg (by omega), if_neg (by omega), if_pos h]
theorem leaf12 {x : Pc} {s : ByteArray} {i j : Nat} (h : x.op = 12) : leafP x s i j ↔ j = i := by unfold leafP; rw [if_neg (by omega), if_neg (by omega), if_neg (by omega)]
theorem kid_get {x : Pc} {a : Nat} (h : a < x.kids.length) : x.kids[a] = kid x a := by simp [kid, h]
end Go.Sim
/- Matchers in memory. Conditions: none. -/
set_option linter.unusedSimpArgs false
set_option linter.unusedVariables false
namespace Go.Sim
variable {P : Program} {h h' : AH}
/-- Nothing but a map was touched. -/
structure Fm (mr : Nat) (h h' : AH) : Prop where
  n : h.n ≤ h'.n
  ob : ∀ i, i < h.n → i ≠ mr → h'.ob i = h.ob i
theorem Fm.refl (mr : Nat) (h : AH) : Fm mr h h := ⟨Nat.le_refl _, fun _ _ _ => rfl⟩
theorem Fm.trans {mr : Nat} {a b c : AH} (x : Fm mr a b) (y : Fm mr b c) : Fm mr a c := ⟨Nat.le_trans x.n y.n, fun i hi hm => (y.ob i (Nat.lt_of_lt_of_le hi x.n) hm).trans (x.ob i hi hm)⟩
theorem Pre.fm (p : Pre h h') (mr : Nat) : Fm mr h h' := ⟨p.n, fun i hi _ => p.ob i hi⟩
theorem RdV.cells {α : Type} {v : Value} {k : Nat} {enc : α → List Value} {l : List α} (r : RdV h v k enc l) {i : Nat} (e : atBlock v i) : ∃ cs st ln, h.ob i = .cells cs st ln := by
  rcases r with ⟨c, rfl, _⟩ | ⟨id, off, c, rfl, r, hl⟩
  · exact e.elim
  · have e' : id = i := e
    subst e'
    rw [rd_eq] at r
    unfold rdO at r
    split at r
    · exact ⟨_, _, _, by assumption⟩
    · cases r
theorem RdV.fm {α : Type} {v : Value} {k : Nat} {enc : α → List Value} {l : List α} (r : RdV h v k enc l) {mr : Nat} {es : List (Value × Value)} (f : Fm mr h h') (hm : h.ob mr = .map es) : RdV h' v k enc l :=
  r.keep f.n (fun i e => f.ob i (r.lt e) (fun e2 => by
    obtain ⟨cs, st, ln, e3⟩ := r.cells e
    rw [e2, hm] at e3; cases e3))
theorem Gr.cells {n0 : Nat} {v : Value} {k : Nat} {cs : List Value} (w : Gr n0 h v k cs) {i : Nat} (e : atBlock v i) : ∃ cs st ln, h.ob i = .cells cs st ln := by
  rcases w with ⟨c, rfl, rfl⟩ | ⟨id, off, n, rfl, b, o⟩
  · exact e.elim
  · have e' : id = i := e
    subst e'
    obtain ⟨all, st, ln, e1, _⟩ := o.ob
    exact ⟨_, _, _, e1⟩
theorem GrL.fm {n0 : Nat} {v : Value} {k : Nat} {cs : List Value} (w : GrL n0 h v k cs) {mr : Nat} {es : List (Value × Value)} (f : Fm mr h h') (hm : h.ob mr = .map es) : GrL n0 h' v k cs :=
  w.keep f.n (fun i e => f.ob i (w.gr.lt e).2 (fun e2 => by
    obtain ⟨cs, st, ln, e3⟩ := w.gr.cells e
    rw [e2, hm] at e3; cases e3))
theorem RdPat.fm {v : Value} {L : List (Pc × Value)} (w : RdPat h v L) {mr : Nat} {es : List (Value × Value)} (f : Fm mr h h') (hm : h.ob mr = .map es) : RdPat h' v L := ⟨w.r.fm f hm, fun x hx => (w.kids x hx).fm f hm⟩
theorem live.of' {j : Nat} (l : live h j) (e : h'.ob j = h.ob j) : live h' j := by
  rcases l with ⟨ln, ⟨all, st, e1, hs⟩⟩ | l
  · exact .inl ⟨ln, ⟨all, st, e.trans e1, hs⟩⟩
  · exact .inr (by rw [e]; exact l)
def mkey (s : ByteArray) (k i : Nat) : Int := ((k * (s.size + 1) + i : Nat) : Int)
theorem mkey_inj {s : ByteArray} {k i k' i' : Nat} (hi : i ≤ s.size) (hi' : i' ≤ s.size) (e : mkey s k i = mkey s k' i') : k = k' ∧ i = i' := by
  have e1 : k * (s.size + 1) + i = k' * (s.size + 1) + i' := by unfold mkey at e; omega
  have a : (k * (s.size + 1) + i) / (s.size + 1) = k := by rw [Nat.mul_comm, Nat.mul_add_div (by omega), Nat.div_eq_of_lt (by omega)]; omega
  have b : (k' * (s.size + 1) + i') / (s.size + 1) = k' := by rw [Nat.mul_comm, Nat.mul_add_div (by omega), Nat.div_eq_of_lt (by omega)]; omega
  have hk : k = k' := by rw [← a, ← b, e1]
  subst hk
  exact ⟨rfl, by omega⟩
/-- What was told of a piece from a place on. -/
def Ent (L : List (Pc × Value)) (s : ByteArray) (h : AH) (e : Value × Value) : Prop :=
  ∃ k i, k < L.length ∧ i ≤ s.size ∧ e.1 = .int .i64 (mkey s k i) ∧ RdV h e.2 1 encNa (ml (L.map Prod.fst) s k i) ∧ ∀ b, atBlock e.2 b → live h b
/-- A matcher. -/
structure Mm (h : AH) (mp mr : Nat) (vP : Value) (L : List (Pc × Value)) (s : ByteArray) (es : List (Value × Value)) : Prop where
  pt : h.ob mp = .cells [vP, .string s, .map (some mr)] .solo mp
  lt : mp < h.n
  mlt : mr < h.n
  mo : h.ob mr = .map es
  ent : ∀ e ∈ es, Ent L s h e
  pat : RdPat h vP L
theorem Mm.ne {mp mr : Nat} {vP : Value} {L : List (Pc × Value)} {s : ByteArray} {es : List (Value × Value)} (m : Mm h mp mr vP L s es) : mp ≠ mr := fun e => by
  have := m.pt
  rw [e, m.mo] at this; cases this
theorem Ent.fm {L : List (Pc × Value)} {s : ByteArray} {e : Value × Value} (w : Ent L s h e) {mr : Nat} {es : List (Value × Value)} (f : Fm mr h h') (hm : h.ob mr = .map es) : Ent L s h' e := by
  obtain ⟨k, i, a, b, c, d, g⟩ := w
  refine ⟨k, i, a, b, c, d.fm f hm, fun b hb => (g b hb).of' (f.ob b (d.lt hb) (fun e2 => ?_))⟩
  obtain ⟨cs, st, ln, e3⟩ := d.cells hb
  rw [e2, hm] at e3; cases e3
theorem Mm.pre {mp mr : Nat} {vP : Value} {L : List (Pc × Value)} {s : ByteArray} {es : List (Value × Value)} (m : Mm h mp mr vP L s es) (p : Pre h h') : Mm h' mp mr vP L s es :=
  ⟨(p.ob _ m.lt).trans m.pt, Nat.lt_of_lt_of_le m.lt p.n, Nat.lt_of_lt_of_le m.mlt p.n, (p.ob _ m.mlt).trans m.mo, fun e he => (m.ent e he).fm (p.fm mr) m.mo, m.pat.pre p⟩
/-- What a call leaves: below b nothing but the map was touched, and what is newly told lies above. -/
structure Mo (b mr : Nat) (h h' : AH) (es es' : List (Value × Value)) : Prop where
  n : h.n ≤ h'.n
  ob : ∀ i, i < b → i ≠ mr → h'.ob i = h.ob i
  new : ∀ e ∈ es', e ∈ es ∨ ∀ c, atBlock e.2 c → b ≤ c
theorem Mo.refl (b mr : Nat) (h : AH) (es : List (Value × Value)) : Mo b mr h h es es := ⟨Nat.le_refl _, fun _ _ _ => rfl, fun _ h => .inl h⟩
theorem Mo.trans {b b' mr : Nat} {h1 h2 h3 : AH} {es es' es'' : List (Value × Value)} (x : Mo b mr h1 h2 es es') (y : Mo b' mr h2 h3 es' es'') (hb : b ≤ b') : Mo b mr h1 h3 es es'' :=
  ⟨Nat.le_trans x.n y.n, fun i hi hm => (y.ob i (by omega) hm).trans (x.ob i hi hm), fun e he => by
    rcases y.new e he with h | h
    · exact x.new e h
    · exact .inr (fun c hc => Nat.le_trans hb (h c hc))⟩
theorem Mo.fm {mr : Nat} {es es' : List (Value × Value)} (x : Mo h.n mr h h' es es') : Fm mr h h' := ⟨x.n, x.ob⟩
theorem Mo.ofPre {b mr : Nat} {es : List (Value × Value)} (p : Pre h h') (hb : b ≤ h.n) : Mo b mr h h' es es := ⟨p.n, fun i hi _ => p.ob i (by omega), fun _ h => .inl h⟩
theorem Mo.low {b b' mr : Nat} {es es' : List (Value × Value)} (x : Mo b' mr h h' es es') (hb : b ≤ b') : Mo b mr h h' es es' := (Mo.refl b mr h es).trans x hb
/-- The matcher's own things lie below. -/
structure Bs (b mp mr : Nat) (vP : Value) (L : List (Pc × Value)) : Prop where
  mp : mp < b
  mr : mr < b
  pat : ∀ i, (atBlock vP i ∨ ∃ x ∈ L, atBlock x.2 i) → i < b
theorem Mm.bs {mp mr : Nat} {vP : Value} {L : List (Pc × Value)} {s : ByteArray} {es : List (Value × Value)} (m : Mm h mp mr vP L s es) : Bs h.n mp mr vP L := ⟨m.lt, m.mlt, fun i e => by
  rcases e with e | ⟨x, hx, e⟩
  · exact m.pat.r.lt e
  · exact (m.pat.kids x hx).lt e⟩
theorem Bs.mono {b b' mp mr : Nat} {vP : Value} {L : List (Pc × Value)} (w : Bs b mp mr vP L) (hb : b ≤ b') : Bs b' mp mr vP L := ⟨Nat.lt_of_lt_of_le w.mp hb, Nat.lt_of_lt_of_le w.mr hb, fun i e => Nat.lt_of_lt_of_le (w.pat i e) hb⟩
theorem Mm.but {b mp mr : Nat} {vP : Value} {L : List (Pc × Value)} {s : ByteArray} {es : List (Value × Value)} (m : Mm h mp mr vP L s es) (bs : Bs b mp mr vP L) (hn : h.n ≤ h'.n) (h1 : ∀ i, i < b → h'.ob i = h.ob i) (h2 : ∀ e ∈ es, ∀ c, atBlock e.2 c → h'.ob c = h.ob c) : Mm h' mp mr vP L s es :=
  ⟨(h1 _ bs.mp).trans m.pt, Nat.lt_of_lt_of_le m.lt hn, Nat.lt_of_lt_of_le m.mlt hn, (h1 _ bs.mr).trans m.mo, fun e he => by
    obtain ⟨k, i, b1, b2, b3, b4, b5⟩ := m.ent e he
    exact ⟨k, i, b1, b2, b3, b4.keep hn (fun c hc => h2 e he c hc), fun c hc => (b5 c hc).of' (h2 e he c hc)⟩,
   ⟨m.pat.r.keep hn (fun i hi => h1 _ (bs.pat i (.inl hi))), fun x hx => (m.pat.kids x hx).keep hn (fun i hi => h1 _ (bs.pat i (.inr ⟨x, hx, hi⟩)))⟩⟩
/-- A list that stands beside all that was told. -/
def Apart (es : List (Value × Value)) (v : Value) : Prop := ∀ e ∈ es, ∀ b, atBlock e.2 b → ¬ atBlock v b
theorem Apart.mo {b mr : Nat} {es es' : List (Value × Value)} {v : Value} (a : Apart es v) (m : Mo b mr h h' es es') (hv : ∀ c, atBlock v c → c < b) : Apart es' v := fun e he c hc hv2 => by
  rcases m.new e he with h | h
  · exact a e h c hc hv2
  · have := h c hc; have := hv c hv2; omega
theorem Apart.fresh {L : List (Pc × Value)} {s : ByteArray} {es : List (Value × Value)} {v : Value} (h1 : ∀ e ∈ es, Ent L s h e) (hv : ∀ b, atBlock v b → h.n ≤ b) : Apart es v := fun e he b hb hv2 => by
  obtain ⟨k, i, _, _, _, r, _⟩ := h1 e he
  have := r.lt hb
  have := hv b hv2
  omega
theorem Apart.nil (es : List (Value × Value)) (c : Nat) : Apart es (.slice none 0 c) := fun _ _ _ _ h => h.elim
/-! ### the map of what was told -/
theorem aget_told {L : List (Pc × Value)} {s : ByteArray} {n : Int} : ∀ {es : List (Value × Value)}, (∀ e ∈ es, Ent L s h e) → ∃ r, aget es .i64 n = some r ∧ ∀ v, r = some v → (Value.int .i64 n, v) ∈ es
  | [], _ => ⟨none, rfl, fun v e => by cases e⟩
  | (x, v) :: es, hE => by
    obtain ⟨k, i, _, _, e1, _⟩ := hE (x, v) (by simp)
    simp only at e1
    subst e1
    by_cases e : mkey s k i = n
    · refine ⟨some v, by simp [aget, e], fun v' h => ?_⟩
      obtain rfl := Option.some.inj h
      rw [e]; simp
    · obtain ⟨r, h1, h2⟩ := aget_told (n := n) (fun e he => hE e (List.mem_cons_of_mem _ he))
      exact ⟨r, by simp [aget, e, h1], fun v' h => List.mem_cons_of_mem _ (h2 v' h)⟩
theorem aput_told {L : List (Pc × Value)} {s : ByteArray} {n : Int} {v : Value} : ∀ {es : List (Value × Value)}, (∀ e ∈ es, Ent L s h e) → ∃ es', aput es .i64 n v = some es' ∧ ∀ e ∈ es', e ∈ es ∨ e = (Value.int .i64 n, v)
  | [], _ => ⟨[(.int .i64 n, v)], rfl, fun e he => .inr (by simpa using he)⟩
  | (x, u) :: es, hE => by
    obtain ⟨k, i, _, _, e1, _⟩ := hE (x, u) (by simp)
    simp only at e1
    subst e1
    by_cases e : mkey s k i = n
    · refine ⟨(.int .i64 n, v) :: es, by simp [aput, e], fun e' he => ?_⟩
      rcases List.mem_cons.1 he with h | h
      · exact .inr h
      · exact .inl (List.mem_cons_of_mem _ h)
    · obtain ⟨es', h1, h2⟩ := aput_told (n := n) (v := v) (fun e he => hE e (List.mem_cons_of_mem _ he))
      refine ⟨(.int .i64 (mkey s k i), u) :: es', by simp [aput, e, h1], fun e' he => ?_⟩
      rcases List.mem_cons.1 he with h | h
      · exact .inl (by rw [h]; simp)
      · rcases h2 e' h with h | h
        · exact .inl (List.mem_cons_of_mem _ h)
        · exact .inr h
theorem Mm.told {mp mr : Nat} {vP : Value} {L : List (Pc × Value)} {s : ByteArray} {es : List (Value × Value)} (m : Mm h mp mr vP L s es) {k i : Nat} {v : Value} (hi : i ≤ s.size) (hv : (Value.int .i64 (mkey s k i), v) ∈ es) : RdV h v 1 encNa (ml (L.map Prod.fst) s k i) := by
  obtain ⟨k', i', a, b, c, d, _⟩ := m.ent _ hv
  simp only [Value.int.injEq, true_and] at c
  obtain ⟨rfl, rfl⟩ := mkey_inj hi b c
  exact d
/-- The told list is put. -/
theorem Mm.put {mp mr : Nat} {vP : Value} {L : List (Pc × Value)} {s : ByteArray} {es es' : List (Value × Value)} {k i : Nat} {v : Value} (m : Mm h mp mr vP L s es) (hk : k < L.length) (hi : i ≤ s.size) (h2 : ∀ e ∈ es', e ∈ es ∨ e = (Value.int .i64 (mkey s k i), v)) (r : RdV h v 1 encNa (ml (L.map Prod.fst) s k i)) (lv : ∀ b, atBlock v b → live h b) :
    Mm (h.set mr (.map es')) mp mr vP L s es' := by
  have f : Fm mr h (h.set mr (.map es')) := ⟨Nat.le_refl _, fun j _ hj => set_ne _ hj⟩
  refine ⟨(set_ne _ m.ne).trans m.pt, m.lt, m.mlt, set_same _ _, fun e he => ?_, m.pat.fm f m.mo⟩
  have : Ent L s h e := by
    rcases h2 e he with h | h
    · exact m.ent e h
    · subst h; exact ⟨k, i, hk, hi, rfl, r, lv⟩
  exact this.fm f m.mo
/-- Only one's own list was written. -/
theorem Mm.wrV {b mp mr : Nat} {vP : Value} {L : List (Pc × Value)} {s : ByteArray} {es : List (Value × Value)} {v : Value} (m : Mm h mp mr vP L s es) (bs : Bs b mp mr vP L) (a : Apart es v) (w : WrV h h' v) (lo : ∀ j, j < b → h'.ob j = h.ob j) : Mm h' mp mr vP L s es :=
  m.but bs (by rw [w.n]; exact Nat.le_refl _) lo (fun e he c hc => by
    obtain ⟨k, i, b1, b2, b3, b4, b5⟩ := m.ent e he
    exact w.ob c (a e he c hc) (b5 c hc))
theorem GrL.mono {n0 n1 : Nat} {v : Value} {k : Nat} {cs : List Value} (w : GrL n0 h v k cs) (e : n1 ≤ n0) : GrL n1 h v k cs := ⟨w.gr.mono e, fun i hi l hl => Nat.le_trans e (w.lo i hi l hl)⟩
theorem RdV.cell1 {α : Type} {v : Value} {k : Nat} {enc : α → List Value} {l : List α} (r : RdV h v k enc l) : v.cells = #[v] := by
  rcases r with ⟨c, rfl, _⟩ | ⟨id, off, c, rfl, r, hlt⟩ <;> rfl
theorem aput_mem {k : IntKind} {n : Int} {v : Value} : ∀ {es es' : List (Value × Value)}, aput es k n v = some es' → (Value.int k n, v) ∈ es'
  | [], es', e => by
    simp only [aput, Option.some.injEq] at e
    subst e; simp
  | (x, u) :: es, es', e => by
    cases x <;> try (simp [aput] at e; done)
    rename_i k' a
    simp only [aput] at e
    split at e
    · split at e
      · simp only [Option.some.injEq] at e; subst e; simp
      · obtain ⟨r, hr, rfl⟩ := Option.map_eq_some_iff.1 e
        exact List.mem_cons_of_mem _ (aput_mem hr)
    · cases e
theorem OwnP.live {n0 m : Nat} {v : Value} (w : OwnP n0 h v m) {i : Nat} (e : atBlock v i) : Sim.live h i := by
  rcases w.at_ with ⟨c, rfl, _⟩ | ⟨id, off, n, all, rfl, b, c, o⟩
  · exact e.elim
  · have e' : id = i := e
    subst e'
    exact .inl o.line
end Go.Sim
namespace Go.Proofs.YtdlpdfclljnmhaaGreat
open Go Go.Sim Go.Proofs
set_option linter.unusedSimpArgs false
set_option linter.unusedVariables false
set_option maxRecDepth 100000
set_option maxHeartbeats 1000000
variable {vN vR : Value} {L : List (Nd × Value)} {R : List Ru} {h h1 h2 h' : AH}
def idOf (v : Value) : List Nat := match v with | .slice (some a) _ _ => [a.block] | _ => []
theorem mem_idOf {v : Value} {i : Nat} (e : atBlock v i) : i ∈ idOf v := by
  unfold atBlock at e
  unfold idOf
  split at e
  · subst e; exact List.mem_singleton.2 rfl
  · exact e.elim
/-- The objects of a program. -/
def progIds (vN vR : Value) (L : List (Nd × Value)) : List Nat := idOf vN ++ idOf vR ++ L.flatMap fun x => idOf x.2
theorem _root_.Go.Sim.RdV.look {α : Type} {v : Value} {k : Nat} {enc : α → List Value} {l : List α} (r : RdV h v k enc l) (big : Big h') (e : ∀ i, atBlock v i → h'.ob i = h.ob i) : RdV h' v k enc l := by
  have hc := fun i hi => r.cells (i := i) hi
  rcases r with r | ⟨id, off, c, rfl, r, hl⟩
  · exact .inl r
  · obtain ⟨cs, st, ln, ec⟩ := hc id rfl
    refine .inr ⟨id, off, c, rfl, by rw [← r, rd_eq, rd_eq, e id rfl], ?_⟩
    by_cases q : id < h'.n
    · exact q
    · have := big id (by omega)
      rw [e id rfl, ec] at this
      cases this
theorem _root_.Go.Sim.RdG.look (r : RdG h vN vR L R) (big : Big h') (e : ∀ i ∈ progIds vN vR L, h'.ob i = h.ob i) : RdG h' vN vR L R := by
  refine ⟨RdV.look r.nodes big (fun i hi => e i ?_), fun x hx => RdV.look (r.kids x hx) big (fun i hi => e i ?_), RdV.look r.rules big (fun i hi => e i ?_)⟩
  · exact List.mem_append_left _ (List.mem_append_left _ (mem_idOf hi))
  · exact List.mem_append_right _ (List.mem_flatMap.2 ⟨x, hx, (mem_idOf hi)⟩)
  · exact List.mem_append_left _ (List.mem_append_right _ (mem_idOf hi))
end Go.Proofs.YtdlpdfclljnmhaaGreat
namespace Go.Proofs.YtdlpdfclljnmhaaGreat
open Go Go.Sim Go.Proofs
set_option linter.unusedSimpArgs false
set_option linter.unusedVariables false
set_option maxRecDepth 100000
set_option maxHeartbeats 1000000
variable {vN vR : Value} {L : List (Nd × Value)} {R : List Ru} {h h1 h2 h' : AH}
theorem sum_map_le {α : Type} (f : α → Nat) : ∀ (l : List α) (x : α), x ∈ l → f x ≤ (l.map f).sum
  | [], _, h => by cases h
  | a :: l, x, h => by
    rw [List.map_cons, List.sum_cons]
    rcases List.mem_cons.1 h with rfl | h
    · omega
    · have := sum_map_le f l x h; omega
theorem kid_cnt {N : List Nd} {g k i j : Nat} {x : Nd} (hx : nd N k = x) (hi : i < x.kids.length) (e : x.kids.getD i 0 = (j : Int)) : cnt N g j < cnt N (g + 1) k := by
  show cnt N g j < 1 + ((nd N k).kids.map fun a => cnt N g a.toNat).sum
  rw [hx]
  have m : (j : Int) ∈ x.kids := by
    rw [← e, List.getD_eq_getElem?_getD, List.getElem?_eq_getElem hi]
    exact List.getElem_mem hi
  have := sum_map_le (fun a => cnt N g a.toNat) x.kids _ m
  simp only [Int.toNat_natCast] at this
  omega
theorem strs_succ {kids : List Int} {F : Nat → ByteArray} {i k : Nat} (hi : i < kids.length) (e : kids.getD i 0 = (k : Int)) : (kids.take (i + 1)).map (fun a => F a.toNat) = (kids.take i).map (fun a => F a.toNat) ++ [F k] := by
  have e2 : kids[i] = (k : Int) := by rw [← e]; simp [List.getD_eq_getElem?_getD, hi]
  rw [List.take_add_one, List.getElem?_eq_getElem hi, Option.toList_some, List.map_append, e2]
  rfl
theorem kid1 {kids : List Int} {F : Nat → ByteArray} {p : Nat} {v : Value} (e : kids = [(p : Int)]) (r : RdV h v 1 encTx (kids.map fun a => F a.toNat)) : ∃ id off c, v = .slice (some ⟨id, off, none⟩) 1 c ∧ id < h.n ∧ rd1 h id off = some (.string (F p)) := by
  subst e
  obtain ⟨id, off, c, e1, l, q⟩ := r.el (fun _ => rfl) (i := 0) (by simp)
  exact ⟨id, off, c, e1, l, rd_1 q⟩
theorem kid2 {kids : List Int} {F : Nat → ByteArray} {p q : Nat} {v : Value} (e : kids = [(p : Int), (q : Int)]) (r : RdV h v 1 encTx (kids.map fun a => F a.toNat)) : ∃ id off c, v = .slice (some ⟨id, off, none⟩) 2 c ∧ id < h.n ∧ rd1 h id off = some (.string (F p)) ∧ rd1 h id (off + 1) = some (.string (F q)) := by
  subst e
  obtain ⟨id, off, c, e1, l, q1⟩ := r.el (fun _ => rfl) (i := 0) (by simp)
  obtain ⟨id', off', c', e2, l', q2⟩ := r.el (fun _ => rfl) (i := 1) (by simp)
  have e3 := e1.symm.trans e2
  injection e3 with e3 _ _
  injection e3 with e3
  injection e3 with e4 e5
  subst e4 e5
  exact ⟨id, off, c, e1, l, rd_1 q1, rd_1 q2⟩
theorem shE_eq {N : List Nd} {g k : Nat} {x : Nd} (hx : nd N k = x) : shE N (g + 1) k =
    (let a := shE N g (kidN' x 0)
    let b := shE N g (kidN' x 1)
    if x.op = 1 ∨ x.op = 3 then x.text
    else if x.op = 2 then (⟨#[34]⟩ : ByteArray) ++ x.text ++ (⟨#[34]⟩ : ByteArray)
    else if x.op = 4 then x.text ++ (⟨#[91]⟩ : ByteArray) ++ a ++ (⟨#[93]⟩ : ByteArray)
    else if x.op = 5 then (⟨#[36, 40]⟩ : ByteArray) ++ a ++ (⟨#[41]⟩ : ByteArray)
    else if x.op = 6 then (⟨#[78, 70]⟩ : ByteArray)
    else if x.op = 7 then (⟨#[78, 82]⟩ : ByteArray)
    else if x.op = 8 then (⟨#[108, 101, 110, 103, 116, 104, 40]⟩ : ByteArray) ++ a ++ (⟨#[41]⟩ : ByteArray)
    else if x.op = 16 then (⟨#[40]⟩ : ByteArray) ++ a ++ (⟨#[32, 126, 32, 47]⟩ : ByteArray) ++ x.text ++ (⟨#[47, 41]⟩ : ByteArray)
    else (⟨#[40]⟩ : ByteArray) ++ a ++ (⟨#[32]⟩ : ByteArray) ++ sg (x.op - 9).toNat ++ (⟨#[32]⟩ : ByteArray) ++ b ++ (⟨#[41]⟩ : ByteArray)) := by
  subst hx; rfl
theorem sg_at {m : Nat} (h : m < 7) : [Value.string ⟨#[43]⟩, Value.string ⟨#[45]⟩, Value.string ⟨#[42]⟩, Value.string ⟨#[37]⟩, Value.string ⟨#[46]⟩, Value.string ⟨#[60]⟩, Value.string ⟨#[61, 61]⟩][m * 1]? = some (Value.string (sg m)) := by
  match m, h with
  | 0, _ | 1, _ | 2, _ | 3, _ | 4, _ | 5, _ | 6, _ => rfl
theorem kidN'_0 {x : Nd} {p : Nat} {r : List Int} (e : x.kids = (p : Int) :: r) : kidN' x 0 = p := by unfold kidN'; rw [e]; rfl
theorem kidN'_1 {x : Nd} {a : Int} {p : Nat} {r : List Int} (e : x.kids = a :: (p : Int) :: r) : kidN' x 1 = p := by unfold kidN'; rw [e]; rfl
theorem kid_g {x : Nd} {kv : Value} (c : RdG h vN vR L R) (hx : (x, kv) ∈ L) {a k : Nat} (ha : a < x.kids.length) (e : x.kids.getD a 0 = (k : Int)) : ∃ id off q, kv = .slice (some ⟨id, off, none⟩) x.kids.length q ∧ id < h.n ∧ rd1 h id (off + a * 1) = some (.int .i64 (k : Nat)) := by
  obtain ⟨id, off, q, e1, l, r⟩ := (c.kids _ hx).el (fun _ => rfl) ha
  refine ⟨id, off, q, e1, l, ?_⟩
  have : x.kids[a] = (k : Int) := by rw [← e]; simp [List.getD_eq_getElem?_getD, ha]
  simp only [this] at r
  exact rd_1 r
def ShX (fid : Nat) (vN vR : Value) (L : List (Nd × Value)) (R : List Ru) (k : Nat) (T : ByteArray) : Prop :=
  ∀ (h : AH), RdG h vN vR L R → CD Tryz.prog fid [.agg #[vN, vR], .int .i64 (k : Nat)] h (.string T) h
theorem ShX.look {fid k : Nat} {T : ByteArray} (s : ShX fid vN vR L R k T) (r : RdG h vN vR L R) : ∀ h' : AH, (∀ id ∈ progIds vN vR L, h'.ob id = h.ob id) → CD Tryz.prog fid [.agg #[vN, vR], .int .i64 (k : Nat)] h' (.string T) h' :=
  fun h' e => CD.withBig fun big => s h' (r.look big e)
theorem showEx_s (hok : programOk ⟨L.map Prod.fst, R⟩ = true) (ht : ∀ x ∈ L, x.1.text.size ≤ 1048576) : ∀ k, k < L.length → isEx (nd (L.map Prod.fst) k).op = true → ∀ f, k < f → cnt (L.map Prod.fst) f k ≤ 2001 → ShX 29 vN vR L R k (shE (L.map Prod.fst) f k) := by
  have okG := OkG.of hok
  intro k
  induction k using Nat.strongRecOn with
  | ind k ih =>
  intro hk hx0 f hf hc
  obtain ⟨g, rfl⟩ : ∃ g, f = g + 1 := ⟨f - 1, by omega⟩
  have ihg : ∀ j, j < k → isEx (nd (L.map Prod.fst) j).op = true → cnt (L.map Prod.fst) g j ≤ 2001 → ShX 29 vN vR L R j (shE (L.map Prod.fst) g j) := fun j hj he hc => ih j hj (by omega) he g (by omega) hc
  have hL := okG.n
  have okN := OkN.of hok hk
  have ek := ExK.of okN
  have hN : nd (L.map Prod.fst) k = L[k].1 := getD_map L k hk
  have szk := fun j (hj : j < k) (he : isEx (nd (L.map Prod.fst) j).op = true) => shE_size hok ht j (by omega) he g (by omega)
  have kcn := fun i j hi e => kid_cnt (g := g) (i := i) (j := j) hN hi e
  rw [hN] at hx0
  rw [isEx_iff] at hx0
  unfold ShX
  intro h c
  refine CD.quiet ?_ (low_string _ _)
  have y1 := c.nodes.one
  have y2 := c.rules.one
  obtain ⟨iN, oN, qN, eN, lN, rN⟩ := c.nodes.el (fun _ => rfl) hk
  simp only [encD] at rN
  have r0 := (rd_3 rN).1
  have r1 := (rd_3 rN).2.1
  have r2 := (rd_3 rN).2.2
  have hx : (L[k].1, L[k].2) ∈ L := List.getElem_mem hk
  have u1 := (c.kids _ hx).one
  have tx := ht _ hx
  simp only at tx
  generalize L[k].1 = x at *
  generalize L[k].2 = kv at *
  have p0 : Pre h (((h.alloc (.cells [vN, vR] .solo h.n)).alloc (.cells [.int .i64 0, .string ⟨#[]⟩, .slice none 0 0] .solo (h.n + 1))).set (h.n + 1) (.cells [.int .i64 x.op, .string x.text, kv] .solo (h.n + 1))) := (((Pre.refl h).alloc _).alloc _).set (Nat.le_succ _) _
  have b1 : (((h.alloc (.cells [vN, vR] .solo h.n)).alloc (.cells [.int .i64 0, .string ⟨#[]⟩, .slice none 0 0] .solo (h.n + 1))).set (h.n + 1) (.cells [.int .i64 x.op, .string x.text, kv] .solo (h.n + 1))).ob (h.n + 1) = .cells [.int .i64 x.op, .string x.text, kv] .solo (h.n + 1) := set_same _ _
  have bp : (((h.alloc (.cells [vN, vR] .solo h.n)).alloc (.cells [.int .i64 0, .string ⟨#[]⟩, .slice none 0 0] .solo (h.n + 1))).set (h.n + 1) (.cells [.int .i64 x.op, .string x.text, kv] .solo (h.n + 1))).ob h.n = .cells [vN, vR] .solo h.n := (set_ne _ (by omega)).trans ((alloc_lt _ (lt_alloc _)).trans (alloc_same _))
  have n1 : (((h.alloc (.cells [vN, vR] .solo h.n)).alloc (.cells [.int .i64 0, .string ⟨#[]⟩, .slice none 0 0] .solo (h.n + 1))).set (h.n + 1) (.cells [.int .i64 x.op, .string x.text, kv] .solo (h.n + 1))).n = h.n + 2 := rfl
  refine CC.ofN Tryz.func29 Tryz.ntmps29 Tryz.results29 rfl (by decide) (by kernel_rfl) ?_
  subst eN
  simp (maxSteps := 1000000) -implicitDefEqProofs only [push_cast, seval, y1, y2, lN, rN, r0, r1, r2, u1]
  repeat (with_reducible refine And.intro ?_ ?_; · (first | omega | decide))
  generalize (((h.alloc (.cells [.slice (some ⟨iN, oN, none⟩) L.length qN, vR] .solo h.n)).alloc (.cells [.int .i64 0, .string ⟨#[]⟩, .slice none 0 0] .solo (h.n + 1))).set (h.n + 1) (.cells [.int .i64 x.op, .string x.text, kv] .solo (h.n + 1))) = h2 at *
  have l2 : h.n + 1 < h2.n := by omega
  have lp : h.n < h2.n := by omega
  have c2 := c.pre p0
  have kp := p0.keep
  simp (maxSteps := 1000000) -implicitDefEqProofs only [push_cast, seval, b1, rd_of b1, rd1_of b1, l2, u1]
  have ls := lit_sizes
  with_reducible refine bcase_d (fun o1 => ?_) (fun o1 => ?_)
  · have d1 : decide (x.op = 1) = true := decide_eq_true o1
    simp (maxSteps := 1000000) -implicitDefEqProofs only [push_cast, seval, b1, rd_of b1, rd1_of b1, l2, d1]
    refine ⟨?_, kp⟩
    rw [shE_eq hN]
    simp only
    rw [if_pos (.inl o1)]
  simp (maxSteps := 1000000) -implicitDefEqProofs only [push_cast, seval, b1, rd_of b1, rd1_of b1, l2]
  with_reducible refine bcase_d (fun o3 => ?_) (fun o3 => ?_)
  · have d3 : decide (x.op = 3) = true := decide_eq_true o3
    simp (maxSteps := 1000000) -implicitDefEqProofs only [push_cast, seval, b1, rd_of b1, rd1_of b1, l2, d3]
    refine ⟨?_, kp⟩
    rw [shE_eq hN]
    simp only
    rw [if_pos (.inr o3)]
  simp (maxSteps := 1000000) -implicitDefEqProofs only [push_cast, seval, b1, rd_of b1, rd1_of b1, l2]
  with_reducible refine bcase_d (fun o2 => ?_) (fun o2 => ?_)
  · have d2 : decide (x.op = 2) = true := decide_eq_true o2
    simp (maxSteps := 1000000) -implicitDefEqProofs only [push_cast, seval, b1, rd_of b1, rd1_of b1, l2]
    repeat (with_reducible refine And.intro (by first | omega | (simp only [ByteArray.size_append]; omega)) ?_)
    refine ⟨?_, kp⟩
    rw [shE_eq hN]
    simp only
    rw [if_neg (by omega), if_pos (by omega)]
  simp (maxSteps := 1000000) -implicitDefEqProofs only [push_cast, seval, b1, rd_of b1, rd1_of b1, l2]
  with_reducible refine bcase_d (fun o4 => ?_) (fun o4 => ?_)
  · have d4 : decide (x.op = 4) = true := decide_eq_true o4
    have k1 := ek.a (by omega)
    with_reducible refine Exists.elim k1 (fun pk k1 => ?_)
    have ek1 := k1.1
    have cs := kcn 0 pk (by rw [ek1]; exact Nat.one_pos) (by rw [ek1]; rfl)
    have zA := (szk pk k1.2.1 k1.2.2).1
    have zA' : (shE (L.map Prod.fst) g pk).size ≤ 1048640 * 2001 := Nat.le_trans zA (Nat.mul_le_mul_left _ (by omega))
    have kr1 := kid_g c2 hx (a := 0) (by rw [ek1]; exact Nat.one_pos) (k := pk) (by rw [ek1]; rfl)
    have kz := kidN'_0 ek1
    have Ep := ihg pk k1.2.1 k1.2.2 (by omega)
    have xl : x.kids.length = 1 := by rw [ek1]; rfl
    with_reducible refine Exists.elim kr1 (fun ia kr1 => ?_)
    with_reducible refine Exists.elim kr1 (fun oa kr1 => ?_)
    with_reducible refine Exists.elim kr1 (fun ca kr1 => ?_)
    have ev := kr1.1
    have la := kr1.2.1
    have ra := kr1.2.2
    clear kr1
    rw [Nat.zero_mul, Nat.add_zero] at ra
    subst ev
    simp (maxSteps := 1000000) -implicitDefEqProofs only [push_cast, seval]
    refine WC.draw' (by kernel_rfl) (by kernel_rfl) (.q 0 (.q 1 (.q 2 (.q 3 (.q 4 (.q 5 (.q 6 (.q 7 (.c 8 (.q 9 (.q 10 (.q 11 (.done))))))))))))) (by kernel_rfl) ?_
    simp (maxSteps := 1000000) -implicitDefEqProofs only [push_cast, seval, b1, rd_of b1, rd1_of b1, bp, rd_of bp, rd1_of bp, l2, lp, la, ra, u1, xl]
    repeat (with_reducible refine And.intro ?_ ?_; · (first | omega | decide))
    with_reducible refine CQ.look _ (ShX.look Ep c2) ?_
    simp (maxSteps := 1000000) -implicitDefEqProofs only [push_cast, seval, b1, rd_of b1, rd1_of b1, bp, rd_of bp, rd1_of bp, l2, lp, la, ra, u1, xl]
    repeat (with_reducible refine And.intro (by first | omega | (simp only [ByteArray.size_append]; omega)) ?_)
    refine ⟨?_, kp⟩
    rw [shE_eq hN]
    simp only
    rw [if_neg (by omega), if_neg (by omega), if_pos (by omega)]
    rw [kz]
  simp (maxSteps := 1000000) -implicitDefEqProofs only [push_cast, seval, b1, rd_of b1, rd1_of b1, l2]
  with_reducible refine bcase_d (fun o5 => ?_) (fun o5 => ?_)
  · have d5 : decide (x.op = 5) = true := decide_eq_true o5
    have k1 := ek.a (by omega)
    with_reducible refine Exists.elim k1 (fun pk k1 => ?_)
    have ek1 := k1.1
    have cs := kcn 0 pk (by rw [ek1]; exact Nat.one_pos) (by rw [ek1]; rfl)
    have zA := (szk pk k1.2.1 k1.2.2).1
    have zA' : (shE (L.map Prod.fst) g pk).size ≤ 1048640 * 2001 := Nat.le_trans zA (Nat.mul_le_mul_left _ (by omega))
    have kr1 := kid_g c2 hx (a := 0) (by rw [ek1]; exact Nat.one_pos) (k := pk) (by rw [ek1]; rfl)
    have kz := kidN'_0 ek1
    have Ep := ihg pk k1.2.1 k1.2.2 (by omega)
    have xl : x.kids.length = 1 := by rw [ek1]; rfl
    with_reducible refine Exists.elim kr1 (fun ia kr1 => ?_)
    with_reducible refine Exists.elim kr1 (fun oa kr1 => ?_)
    with_reducible refine Exists.elim kr1 (fun ca kr1 => ?_)
    have ev := kr1.1
    have la := kr1.2.1
    have ra := kr1.2.2
    clear kr1
    rw [Nat.zero_mul, Nat.add_zero] at ra
    subst ev
    simp (maxSteps := 1000000) -implicitDefEqProofs only [push_cast, seval]
    refine WC.draw' (by kernel_rfl) (by kernel_rfl) (.q 0 (.q 1 (.q 2 (.q 3 (.q 4 (.c 5 (.q 6 (.q 7 (.q 8 (.done)))))))))) (by kernel_rfl) ?_
    simp (maxSteps := 1000000) -implicitDefEqProofs only [push_cast, seval, b1, rd_of b1, rd1_of b1, bp, rd_of bp, rd1_of bp, l2, lp, la, ra, u1, xl]
    repeat (with_reducible refine And.intro ?_ ?_; · (first | omega | decide))
    with_reducible refine CQ.look _ (ShX.look Ep c2) ?_
    simp (maxSteps := 1000000) -implicitDefEqProofs only [push_cast, seval, b1, rd_of b1, rd1_of b1, bp, rd_of bp, rd1_of bp, l2, lp, la, ra, u1, xl]
    repeat (with_reducible refine And.intro (by first | omega | (simp only [ByteArray.size_append]; omega)) ?_)
    refine ⟨?_, kp⟩
    rw [shE_eq hN]
    simp only
    rw [if_neg (by omega), if_neg (by omega), if_neg (by omega), if_pos (by omega)]
    rw [kz]
  simp (maxSteps := 1000000) -implicitDefEqProofs only [push_cast, seval, b1, rd_of b1, rd1_of b1, l2]
  with_reducible refine bcase_d (fun o6 => ?_) (fun o6 => ?_)
  · have d6 : decide (x.op = 6) = true := decide_eq_true o6
    simp (maxSteps := 1000000) -implicitDefEqProofs only [push_cast, seval, b1, rd_of b1, rd1_of b1, l2]
    refine ⟨?_, kp⟩
    rw [shE_eq hN]
    simp only
    rw [if_neg (by omega), if_neg (by omega), if_neg (by omega), if_neg (by omega), if_pos (by omega)]
  simp (maxSteps := 1000000) -implicitDefEqProofs only [push_cast, seval, b1, rd_of b1, rd1_of b1, l2]
  with_reducible refine bcase_d (fun o7 => ?_) (fun o7 => ?_)
  · have d7 : decide (x.op = 7) = true := decide_eq_true o7
    simp (maxSteps := 1000000) -implicitDefEqProofs only [push_cast, seval, b1, rd_of b1, rd1_of b1, l2]
    refine ⟨?_, kp⟩
    rw [shE_eq hN]
    simp only
    rw [if_neg (by omega), if_neg (by omega), if_neg (by omega), if_neg (by omega), if_neg (by omega), if_pos (by omega)]
  simp (maxSteps := 1000000) -implicitDefEqProofs only [push_cast, seval, b1, rd_of b1, rd1_of b1, l2]
  with_reducible refine bcase_d (fun o8 => ?_) (fun o8 => ?_)
  · have d8 : decide (x.op = 8) = true := decide_eq_true o8
    have k1 := ek.a (by omega)
    with_reducible refine Exists.elim k1 (fun pk k1 => ?_)
    have ek1 := k1.1
    have cs := kcn 0 pk (by rw [ek1]; exact Nat.one_pos) (by rw [ek1]; rfl)
    have zA := (szk pk k1.2.1 k1.2.2).1
    have zA' : (shE (L.map Prod.fst) g pk).size ≤ 1048640 * 2001 := Nat.le_trans zA (Nat.mul_le_mul_left _ (by omega))
    have kr1 := kid_g c2 hx (a := 0) (by rw [ek1]; exact Nat.one_pos) (k := pk) (by rw [ek1]; rfl)
    have kz := kidN'_0 ek1
    have Ep := ihg pk k1.2.1 k1.2.2 (by omega)
    have xl : x.kids.length = 1 := by rw [ek1]; rfl
    with_reducible refine Exists.elim kr1 (fun ia kr1 => ?_)
    with_reducible refine Exists.elim kr1 (fun oa kr1 => ?_)
    with_reducible refine Exists.elim kr1 (fun ca kr1 => ?_)
    have ev := kr1.1
    have la := kr1.2.1
    have ra := kr1.2.2
    clear kr1
    rw [Nat.zero_mul, Nat.add_zero] at ra
    subst ev
    simp (maxSteps := 1000000) -implicitDefEqProofs only [push_cast, seval]
    refine WC.draw' (by kernel_rfl) (by kernel_rfl) (.q 0 (.q 1 (.q 2 (.q 3 (.q 4 (.c 5 (.q 6 (.q 7 (.q 8 (.done)))))))))) (by kernel_rfl) ?_
    simp (maxSteps := 1000000) -implicitDefEqProofs only [push_cast, seval, b1, rd_of b1, rd1_of b1, bp, rd_of bp, rd1_of bp, l2, lp, la, ra, u1, xl]
    repeat (with_reducible refine And.intro ?_ ?_; · (first | omega | decide))
    with_reducible refine CQ.look _ (ShX.look Ep c2) ?_
    simp (maxSteps := 1000000) -implicitDefEqProofs only [push_cast, seval, b1, rd_of b1, rd1_of b1, bp, rd_of bp, rd1_of bp, l2, lp, la, ra, u1, xl]
    repeat (with_reducible refine And.intro (by first | omega | (simp only [ByteArray.size_append]; omega)) ?_)
    refine ⟨?_, kp⟩
    rw [shE_eq hN]
    simp only
    rw [if_neg (by omega), if_neg (by omega), if_neg (by omega), if_neg (by omega), if_neg (by omega), if_neg (by omega), if_pos (by omega)]
    rw [kz]
  simp (maxSteps := 1000000) -implicitDefEqProofs only [push_cast, seval, b1, rd_of b1, rd1_of b1, l2]
  with_reducible refine bcase_d (fun o16 => ?_) (fun o16 => ?_)
  · have d16 : decide (x.op = 16) = true := decide_eq_true o16
    have k1 := ek.a (by omega)
    with_reducible refine Exists.elim k1 (fun pk k1 => ?_)
    have ek1 := k1.1
    have cs := kcn 0 pk (by rw [ek1]; exact Nat.one_pos) (by rw [ek1]; rfl)
    have zA := (szk pk k1.2.1 k1.2.2).1
    have zA' : (shE (L.map Prod.fst) g pk).size ≤ 1048640 * 2001 := Nat.le_trans zA (Nat.mul_le_mul_left _ (by omega))
    have kr1 := kid_g c2 hx (a := 0) (by rw [ek1]; exact Nat.one_pos) (k := pk) (by rw [ek1]; rfl)
    have kz := kidN'_0 ek1
    have Ep := ihg pk k1.2.1 k1.2.2 (by omega)
    have xl : x.kids.length = 1 := by rw [ek1]; rfl
    with_reducible refine Exists.elim kr1 (fun ia kr1 => ?_)
    with_reducible refine Exists.elim kr1 (fun oa kr1 => ?_)
    with_reducible refine Exists.elim kr1 (fun ca kr1 => ?_)
    have ev := kr1.1
    have la := kr1.2.1
    have ra := kr1.2.2
    clear kr1
    rw [Nat.zero_mul, Nat.add_zero] at ra
    subst ev
    simp (maxSteps := 1000000) -implicitDefEqProofs only [push_cast, seval]
    refine WC.draw' (by kernel_rfl) (by kernel_rfl) (.q 0 (.q 1 (.q 2 (.q 3 (.q 4 (.q 8 (.q 9 (.c 5 (.q 6 (.q 7 (.q 10 (.q 11 (.q 12 (.done)))))))))))))) (by kernel_rfl) ?_
    simp (maxSteps := 1000000) -implicitDefEqProofs only [push_cast, seval, b1, rd_of b1, rd1_of b1, bp, rd_of bp, rd1_of bp, l2, lp, la, ra, u1, xl]
    repeat (with_reducible refine And.intro ?_ ?_; · (first | omega | decide))
    with_reducible refine CQ.look _ (ShX.look Ep c2) ?_
    simp (maxSteps := 1000000) -implicitDefEqProofs only [push_cast, seval, b1, rd_of b1, rd1_of b1, bp, rd_of bp, rd1_of bp, l2, lp, la, ra, u1, xl]
    repeat (with_reducible refine And.intro (by first | omega | (simp only [ByteArray.size_append]; omega)) ?_)
    refine ⟨?_, kp⟩
    rw [shE_eq hN]
    simp only
    rw [if_neg (by omega), if_neg (by omega), if_neg (by omega), if_neg (by omega), if_neg (by omega), if_neg (by omega), if_neg (by omega), if_pos (by omega)]
    rw [kz]
  simp (maxSteps := 1000000) -implicitDefEqProofs only [push_cast, seval, b1, rd_of b1, rd1_of b1, l2]
  have hm : ∃ m : Nat, x.op = 9 + m ∧ m < 7 := ⟨(x.op - 9).toNat, by omega, by omega⟩
  with_reducible refine Exists.elim hm (fun m hm => ?_)
  have em := hm.1
  have lm := hm.2
  have w9 : IntKind.i64.wrap (x.op - 9) = ((m : Nat) : Int) := by rw [w64 (by omega) (by omega)]; omega
  have tm : (x.op - 9).toNat = m := by omega
  have lst : [Value.string ⟨#[43]⟩, Value.string ⟨#[45]⟩, Value.string ⟨#[42]⟩, Value.string ⟨#[37]⟩, Value.string ⟨#[46]⟩, Value.string ⟨#[60]⟩, Value.string ⟨#[61, 61]⟩][m * 1]? = some (Value.string (sg m)) := sg_at lm
  have zg := sg_size m
  have k2 := ek.b (by omega)
  with_reducible refine Exists.elim k2 (fun pk k2 => ?_)
  with_reducible refine Exists.elim k2 (fun qk k2 => ?_)
  have ek2 := k2.1
  have xl : x.kids.length = 2 := by rw [ek2]; rfl
  have cs0 := kcn 0 pk (by omega) (by rw [ek2]; rfl)
  have cs1 := kcn 1 qk (by omega) (by rw [ek2]; rfl)
  have zA : (shE (L.map Prod.fst) g pk).size ≤ 1048640 * 2001 := Nat.le_trans (szk pk k2.2.1.1 k2.2.1.2).1 (Nat.mul_le_mul_left _ (by omega))
  have zB : (shE (L.map Prod.fst) g qk).size ≤ 1048640 * 2001 := Nat.le_trans (szk qk k2.2.2.1 k2.2.2.2).1 (Nat.mul_le_mul_left _ (by omega))
  have Ep := ihg pk k2.2.1.1 k2.2.1.2 (by omega)
  have Eq := ihg qk k2.2.2.1 k2.2.2.2 (by omega)
  have kz0 := kidN'_0 ek2
  have kz1 := kidN'_1 ek2
  have ka := kid_g c2 hx (a := 0) (by omega) (k := pk) (by rw [ek2]; rfl)
  have kb := kid_g c2 hx (a := 1) (by omega) (k := qk) (by rw [ek2]; rfl)
  with_reducible refine Exists.elim ka (fun ia ka => ?_)
  with_reducible refine Exists.elim ka (fun oa ka => ?_)
  with_reducible refine Exists.elim ka (fun ca ka => ?_)
  have ev := ka.1
  have la := ka.2.1
  have ra := ka.2.2
  clear ka
  subst ev
  have rb : rd1 h2 ia (oa + 1 * 1) = some (.int .i64 (qk : Nat)) := by
    obtain ⟨a, b, d, e, l, q⟩ := kb
    injection e with e _ _
    injection e with e
    injection e with e1 e2
    subst e1 e2
    exact q
  rw [Nat.zero_mul, Nat.add_zero] at ra
  rw [Nat.one_mul] at rb
  simp (maxSteps := 1000000) -implicitDefEqProofs only [push_cast, seval]
  have c3 : RdG (h2.alloc (.cells [Value.string ⟨#[43]⟩, Value.string ⟨#[45]⟩, Value.string ⟨#[42]⟩, Value.string ⟨#[37]⟩, Value.string ⟨#[46]⟩, Value.string ⟨#[60]⟩, Value.string ⟨#[61, 61]⟩] .solo h2.n)) _ vR L R := c2.pre ((Pre.refl h2).alloc _)
  have kp3 : Keep h.n h (h2.alloc (.cells [Value.string ⟨#[43]⟩, Value.string ⟨#[45]⟩, Value.string ⟨#[42]⟩, Value.string ⟨#[37]⟩, Value.string ⟨#[46]⟩, Value.string ⟨#[60]⟩, Value.string ⟨#[61, 61]⟩] .solo h2.n)) := (p0.alloc _).keep
  have nx := lt_alloc (h := h2) (.cells [Value.string ⟨#[43]⟩, Value.string ⟨#[45]⟩, Value.string ⟨#[42]⟩, Value.string ⟨#[37]⟩, Value.string ⟨#[46]⟩, Value.string ⟨#[60]⟩, Value.string ⟨#[61, 61]⟩] .solo h2.n)
  refine WC.draw' (by kernel_rfl) (by kernel_rfl) (.q 0 (.q 1 (.q 2 (.q 3 (.q 4 (.q 8 (.q 9 (.q 10 (.q 11 (.q 12 (.q 13 (.q 16 (.q 17 (.q 18 (.q 19 (.q 20 (.c 5 (.q 6 (.q 7 (.q 14 (.q 15 (.c 21 (.q 22 (.q 23 (.q 24 (.done)))))))))))))))))))))))))) (by kernel_rfl) ?_
  simp (maxSteps := 1000000) -implicitDefEqProofs only [push_cast, seval, b1, rd_of b1, rd1_of b1, bp, rd_of bp, rd1_of bp, l2, lp, la, ra, rb, u1, xl, w9]
  refine And.intro (by omega) (And.intro (by omega) ?_)
  rw [lst]
  simp (maxSteps := 1000000) -implicitDefEqProofs only [push_cast, seval, b1, rd_of b1, rd1_of b1, bp, rd_of bp, rd1_of bp, l2, lp, la, ra, rb, u1, xl]
  repeat (with_reducible refine And.intro ?_ ?_; · (first | omega | decide))
  with_reducible refine CQ.look _ (ShX.look Ep c3) ?_
  simp (maxSteps := 1000000) -implicitDefEqProofs only [push_cast, seval, b1, rd_of b1, rd1_of b1, bp, rd_of bp, rd1_of bp, l2, lp, la, ra, rb, u1, xl]
  repeat (with_reducible refine And.intro (by first | omega | (simp only [ByteArray.size_append]; omega)) ?_)
  with_reducible refine CQ.look _ (ShX.look Eq c3) ?_
  simp (maxSteps := 1000000) -implicitDefEqProofs only [push_cast, seval, b1, rd_of b1, rd1_of b1, bp, rd_of bp, rd1_of bp, l2, lp, la, ra, rb, u1, xl]
  repeat (with_reducible refine And.intro (by first | omega | (simp only [ByteArray.size_append]; omega)) ?_)
  refine ⟨?_, kp3⟩
  rw [shE_eq hN]
  simp only
  rw [if_neg (by omega), if_neg (by omega), if_neg (by omega), if_neg (by omega), if_neg (by omega), if_neg (by omega), if_neg (by omega), if_neg (by omega), kz0, kz1, tm]
end Go.Proofs.YtdlpdfclljnmhaaGreat
namespace Go.Proofs.YtdlpdfclljnmhaaGreat
open Go Go.Proofs
set_option maxRecDepth 100000
def ren7 : Go.Shelf.Ren := ⟨fun | 156 => 67 | 165 => 93 | 166 => 94 | 169 => 95 | 240 => 132 | 241 => 133 | 276 => 155 | 277 => 156 | n => n, fun | 31 => 37 | 37 => 103 | 70 => 120 | 72 => 122 | 75 => 124 | 76 => 125 | 80 => 127 | 127 => 158 | 164 => 179 | n => n, fun n => n⟩
theorem lays156 : Lays.n156 Tryz.prog ren7 := {
  mixed := by kernel_rfl
  f156 := Tryz.func67.trans (congrArg some (by kernel_rfl))
  f165 := Tryz.func93.trans (congrArg some (by kernel_rfl))
  f166 := Tryz.func94.trans (congrArg some (by kernel_rfl))
  f169 := Tryz.func95.trans (congrArg some (by kernel_rfl))
  f240 := Tryz.func132.trans (congrArg some (by kernel_rfl))
  f241 := Tryz.func133.trans (congrArg some (by kernel_rfl))
  f276 := Tryz.func155.trans (congrArg some (by kernel_rfl))
  f277 := Tryz.func156.trans (congrArg some (by kernel_rfl))
  t0 := Tryz.underlying0
  a0 := Tryz.isAgg0
  z0 := Tryz.sizeOf0
  v0 := Tryz.zeroValue0
  t3 := Tryz.underlying3
  a3 := Tryz.isAgg3
  z3 := Tryz.sizeOf3
  v3 := Tryz.zeroValue3
  t4 := Tryz.underlying4
  a4 := Tryz.isAgg4
  z4 := Tryz.sizeOf4
  v4 := Tryz.zeroValue4
  t9 := Tryz.underlying9
  a9 := Tryz.isAgg9
  z9 := Tryz.sizeOf9
  v9 := Tryz.zeroValue9
  t20 := Tryz.underlying20
  a20 := Tryz.isAgg20
  z20 := Tryz.sizeOf20
  v20 := Tryz.zeroValue20
  t31 := Tryz.underlying37
  a31 := Tryz.isAgg37
  z31 := Tryz.sizeOf37
  v31 := Tryz.zeroValue37
  t37 := Tryz.underlying103
  a37 := Tryz.isAgg103
  z37 := Tryz.sizeOf103
  v37 := Tryz.zeroValue103
  t70 := Tryz.underlying120
  a70 := Tryz.isAgg120
  z70 := Tryz.sizeOf120
  v70 := Tryz.zeroValue120
  t72 := Tryz.underlying122
  a72 := Tryz.isAgg122
  z72 := Tryz.sizeOf122
  v72 := Tryz.zeroValue122
  t75 := Tryz.underlying124
  a75 := Tryz.isAgg124
  z75 := Tryz.sizeOf124
  v75 := Tryz.zeroValue124
  t76 := Tryz.underlying125
  a76 := Tryz.isAgg125
  z76 := Tryz.sizeOf125
  v76 := Tryz.zeroValue125
  t127 := Tryz.underlying158
  a127 := Tryz.isAgg158
  z127 := Tryz.sizeOf158
  v127 := Tryz.zeroValue158
  t164 := Tryz.underlying179
  a164 := Tryz.isAgg179
  z164 := Tryz.sizeOf179
  v164 := Tryz.zeroValue179 }
theorem builderX : Builder.Extra Tryz.prog ren7 := {
  sizeBuilder := by kernel_rfl
  liesBuilder := by kernel_rfl
  t5 := Tryz.underlying5
  a5 := Tryz.isAgg5
  z5 := Tryz.sizeOf5
  v5 := Tryz.zeroValue5
  infoByte := by kernel_rfl
  cellsByte := by kernel_rfl
  sizeByte := by kernel_rfl
  neB5 := by decide }
end Go.Proofs.YtdlpdfclljnmhaaGreat
/- Texts joined: strings.Join told of the abstract heap. Conditions: none. -/
set_option linter.unusedVariables false
set_option linter.unusedSimpArgs false
namespace Go.Sim
open Go.RowKit Go.Proofs Go.Shelf
variable {P : Program} {h : AH}
/-- Texts, a mark between each two. -/
def joinB (sep : ByteArray) : List ByteArray → ByteArray
  | [] => ⟨#[]⟩
  | [x] => x
  | x :: r => x ++ sep ++ joinB sep r
theorem CD.join {f : FuncId} {ρ : Ren} (hb : callB P f = true) (hf : ρ.f 156 = f) (L : Lays.n156 P ρ) (X : Builder.Extra P ρ) (id off : Nat) (xs : List ByteArray) (sep : ByteArray) (hn : 0 < xs.length) (hN : xs.length ≤ 140737488355328)
    (hlen : (Lib.join (xs.map (·.data.toList)) sep.data.toList).length ≤ 140737488355328)
    (o : Own h id off xs.length 1 (xs.map Value.string)) : CD P f [.slice (some ⟨id, off, none⟩) xs.length 1, .string sep] h (.string ⟨(Lib.join (xs.map (·.data.toList)) sep.data.toList).toArray⟩) h := by
  subst hf
  refine CE.call hb ?_
  intro FB w0 μ w cargs R' s la hk
  obtain ⟨all, st, ln, e, hs, hl, hd⟩ := o.ob
  have hst : st ≠ .ro := by rcases hs with rfl | rfl <;> simp
  have hsz : cargs.size = 2 := by have : cargs.toList.length = 2 := la.1.symm; simpa using this
  obtain ⟨cv, cs, rfl⟩ : ∃ cv cs, cargs = #[cv, cs] := ⟨cargs[0], cargs[1], by
    apply Array.ext
    · simp [hsz]
    · intro i a b
      have : i = 0 ∨ i = 1 := by have : i < 2 := by simpa using b
                                 omega
      rcases this with rfl | rfl <;> rfl⟩
  have hcv : VR μ (.slice (some ⟨id, off, none⟩) xs.length 1) cv := la.2 0 (by simp) (by simp)
  have hcs : VR μ (.string sep) cs := la.2 1 (by simp) (by simp)
  obtain rfl := VR.plain_eq hcs rfl
  generalize hM : xs.length = N at hcv hn
  cases hcv with
  | plain v hh => simp [isPlain] at hh
  | slz i off k l hm ho A' => omega
  | sl i off' n k cap l hm hn2 hroom =>
    subst hM
    refine (Any.strings_Join L X l.b (l.o + off) cap xs sep w (fun j x hj => ?_) (s.lt hm e hst) hN hn2 hlen).mono fun e' w' ⟨h1, h2⟩ => ?_
    · obtain ⟨hj', ex⟩ := List.getElem?_eq_some_iff.1 hj
      obtain ⟨c1, hc1, hv1⟩ := s.cell id l all st ln hm e (off + j) (by
        have := congrArg List.length hd
        simp only [List.length_drop, List.length_map, List.length_take] at this
        omega)
      have hx : all[off + j]'(by
        have := congrArg List.length hd
        simp only [List.length_drop, List.length_map, List.length_take] at this
        omega) = Value.string xs[j] := by
        have := congrArg (·[j]?) hd
        simp only [List.getElem?_drop, List.getElem?_map] at this
        rw [List.getElem?_eq_getElem hj'] at this
        exact (List.getElem?_eq_some_iff.1 this).2
      rw [hx] at hv1
      have hc2 := VR.plain_eq hv1 rfl
      rw [Nat.add_assoc, hc1, hc2, ex]
    · subst h1
      exact hk _ h μ _ w' ⟨rfl, rfl⟩ ⟨s.below h2, Ext.refl _, Unt.refl _ _⟩ (.plain _ rfl)
end Go.Sim
namespace Go.Proofs.YtdlpdfclljnmhaaGreat
open Go Go.Sim Go.Proofs
set_option linter.unusedSimpArgs false
set_option linter.unusedVariables false
set_option maxRecDepth 100000
set_option maxHeartbeats 1000000
variable {vN vR : Value} {L : List (Nd × Value)} {R : List Ru} {h h1 h2 h' : AH}
/-- Where a program's box is. -/
structure Pb (h : AH) (p : Nat) (vN vR : Value) (L : List (Nd × Value)) (R : List Ru) : Prop where
  ob : h.ob p = .cells [vN, vR] .solo p
  lt : p < h.n
  rd : RdG h vN vR L R
theorem Pb.pre {p : Nat} (b : Pb h p vN vR L R) (q : Pre h h') : Pb h' p vN vR L R := ⟨(q.ob _ b.lt).trans b.ob, Nat.lt_of_lt_of_le b.lt q.n, b.rd.pre q⟩
theorem kid_p {x : Nd} {kv : Value} {p : Nat} (c : Pb h p vN vR L R) (hx : (x, kv) ∈ L) {a k : Nat} (ha : a < x.kids.length) (e : x.kids.getD a 0 = (k : Int)) : ∃ id off q, kv = .slice (some ⟨id, off, none⟩) x.kids.length q ∧ id < h.n ∧ rd1 h id (off + a * 1) = some (.int .i64 (k : Nat)) := by
  obtain ⟨id, off, q, e1, l, r⟩ := (c.rd.kids _ hx).el (fun _ => rfl) ha
  refine ⟨id, off, q, e1, l, ?_⟩
  have : x.kids[a] = (k : Int) := by rw [← e]; simp [List.getD_eq_getElem?_getD, ha]
  simp only [this] at r
  exact rd_1 r
def ShE (fid p : Nat) (vN vR : Value) (L : List (Nd × Value)) (R : List Ru) (f k : Nat) : Prop :=
  ∀ (h : AH), Pb h p vN vR L R → CD Tryz.prog fid [.pointer (some ⟨p, 0, none⟩), .int .i64 (k : Nat)] h (.string (shE (L.map Prod.fst) f k)) h
theorem shown_i (hok : programOk ⟨L.map Prod.fst, R⟩ = true) (ht : ∀ x ∈ L, x.1.text.size ≤ 1048576) (p : Nat) : ∀ k, k < L.length → isEx (nd (L.map Prod.fst) k).op = true → ∀ f, k < f → cnt (L.map Prod.fst) f k ≤ 2001 → ShE 35 p vN vR L R f k := by
  have okG := OkG.of hok
  intro k
  induction k using Nat.strongRecOn with
  | ind k ih =>
  intro hk hx0 f hf hc
  obtain ⟨g, rfl⟩ : ∃ g, f = g + 1 := ⟨f - 1, by omega⟩
  have ihg : ∀ j, j < k → isEx (nd (L.map Prod.fst) j).op = true → cnt (L.map Prod.fst) g j ≤ 2001 → ShE 35 p vN vR L R g j := fun j hj he hc => ih j hj (by omega) he g (by omega) hc
  have hL := okG.n
  have klen := okG.klen k hk
  have okN := OkN.of hok hk
  have ek := ExK.of okN
  have hN : nd (L.map Prod.fst) k = L[k].1 := getD_map L k hk
  have szk := fun j (hj : j < k) (he : isEx (nd (L.map Prod.fst) j).op = true) => shE_size hok ht j (by omega) he g (by omega)
  have kcn := fun i j hi e => kid_cnt (g := g) (i := i) (j := j) hN hi e
  rw [hN] at hx0
  rw [isEx_iff] at hx0
  unfold ShE
  intro h c
  refine CD.quiet ?_ (low_string _ _)
  have pt := c.ob
  have lt := c.lt
  have y1 := c.rd.nodes.one
  obtain ⟨iN, oN, qN, eN, lN, rN⟩ := c.rd.nodes.el (fun _ => rfl) hk
  simp only [encD] at rN
  have r0 := (rd_3 rN).1
  have r1 := (rd_3 rN).2.1
  have r2 := (rd_3 rN).2.2
  have hx : (L[k].1, L[k].2) ∈ L := List.getElem_mem hk
  have u1 := (c.rd.kids _ hx).one
  have tx := ht _ hx
  simp only at tx
  generalize L[k].1 = x at *
  generalize L[k].2 = kv at *
  have p0 : Pre h ((h.alloc (.cells [.int .i64 0, .string ⟨#[]⟩, .slice none 0 0] .solo h.n)).set h.n (.cells [.int .i64 x.op, .string x.text, kv] .solo h.n)) := ((Pre.refl h).alloc _).set (Nat.le_refl _) _
  have b1 : ((h.alloc (.cells [.int .i64 0, .string ⟨#[]⟩, .slice none 0 0] .solo h.n)).set h.n (.cells [.int .i64 x.op, .string x.text, kv] .solo h.n)).ob h.n = .cells [.int .i64 x.op, .string x.text, kv] .solo h.n := set_same _ _
  have n1 : ((h.alloc (.cells [.int .i64 0, .string ⟨#[]⟩, .slice none 0 0] .solo h.n)).set h.n (.cells [.int .i64 x.op, .string x.text, kv] .solo h.n)).n = h.n + 1 := rfl
  have kr := (c.rd.kids _ hx).rde (fun _ => rfl)
  obtain ⟨Ak, ck, ekv, _⟩ := kr
  have ekv : kv = .slice Ak x.kids.length ck := ekv
  refine CC.ofN Tryz.func35 Tryz.ntmps35 Tryz.results35 rfl (by decide) (by kernel_rfl) ?_
  subst eN
  simp (maxSteps := 1000000) -implicitDefEqProofs only [push_cast, seval, pt, rd_of pt, rd1_of pt, lt, y1, lN, rN, r0, r1, r2, u1]
  repeat (with_reducible refine And.intro ?_ ?_; · (first | omega | decide))
  generalize ((h.alloc (.cells [.int .i64 0, .string ⟨#[]⟩, .slice none 0 0] .solo h.n)).set h.n (.cells [.int .i64 x.op, .string x.text, kv] .solo h.n)) = h1 at *
  have l1 : h.n < h1.n := by omega
  subst ekv
  simp (maxSteps := 1000000) -implicitDefEqProofs only [push_cast, seval, b1, rd_of b1, rd1_of b1, l1, u1]
  have g0 : Gr (h.n + 1) (h1.alloc (.cells [] .solo (h.n + 1))) (.slice (some ⟨h.n + 1, 0, none⟩) 0 1) 1 ((((x.kids.take 0).map fun a => shE (L.map Prod.fst) g a.toNat).map encTx).flatten) := by
    have := Gr.new (h := h1) (n0 := h1.n) (Nat.le_refl _) [] 0 1 rfl
    rw [n1] at this
    exact this
  have pz : Pre h (h1.alloc (.cells [] .solo (h.n + 1))) := p0.alloc _
  have bz : (h1.alloc (.cells [] .solo (h.n + 1))).ob h.n = _ := (alloc_lt _ l1).trans b1
  have lz : h.n < (h1.alloc (.cells [] .solo (h.n + 1))).n := Nat.lt_succ_of_lt l1
  generalize (h1.alloc (.cells [] .solo (h.n + 1))) = hz at *
  refine WC.loopA (by kernel_rfl) [6, 21] [8, 22, 23, 24, 25, 26, 27, 28, 29, 30, 31] (fun a : Nat × Value => [a.2, .int .i64 (a.1 : Nat)]) (fun a h' => a.1 ≤ x.kids.length ∧ Gr (h.n + 1) h' a.2 1 ((((x.kids.take a.1).map fun a => shE (L.map Prod.fst) g a.toNat).map encTx).flatten) ∧ Pre h h' ∧ h'.ob h.n = .cells [.int .i64 x.op, .string x.text, .slice Ak x.kids.length ck] .solo h.n ∧ h.n < h'.n) (fun a => x.kids.length - a.1) (0, .slice (some ⟨h.n + 1, 0, none⟩) 0 1) (by kernel_rfl) ⟨Nat.zero_le _, g0, pz, bz, lz⟩ ?_
  clear g0 pz bz lz
  intro a gg h2 hJ
  obtain ⟨i, v⟩ := a
  have hi := hJ.1
  have g2 := hJ.2.1
  have p2 := hJ.2.2.1
  have b2 := hJ.2.2.2.1
  have l2 := hJ.2.2.2.2
  clear hJ
  simp only at hi g2
  have c2 := c.pre p2
  simp (maxSteps := 1000000) -implicitDefEqProofs only [push_cast, seval, b2, rd_of b2, rd1_of b2, l2]
  with_reducible refine bcase_d (fun hb => ?_) (fun hb => ?_)
  · have hi' : i < x.kids.length := by omega
    have kk := okN.kid i hi'
    with_reducible refine Exists.elim kk (fun j kk => ?_)
    have ej := kk.1
    have lj := kk.2.1
    have kj := kid_st' (by omega) (by omega) kk.2.2
    have cj := kcn i j hi' ej
    have fs := strs_succ (F := shE (L.map Prod.fst) g) hi' ej
    have Ej := ihg j lj kj (by omega)
    unfold ShE at Ej
    have z0 := kid_p c2 hx hi' ej
    with_reducible refine Exists.elim z0 (fun id z0 => ?_)
    with_reducible refine Exists.elim z0 (fun off z0 => ?_)
    with_reducible refine Exists.elim z0 (fun q z0 => ?_)
    have ekv := z0.1
    injection ekv with ekv _ _
    subst ekv
    have lid := z0.2.1
    have rk := z0.2.2
    clear z0
    simp (maxSteps := 1000000) -implicitDefEqProofs only [push_cast, seval, b2, rd_of b2, rd1_of b2, l2, rk, lid]
    repeat (with_reducible refine And.intro ?_ ?_; · (first | omega | decide))
    with_reducible refine CD.to (Ej h2 c2) ?_
    simp (maxSteps := 1000000) -implicitDefEqProofs only [push_cast, seval]
    have xl : ((((x.kids.take i).map fun a => shE (L.map Prod.fst) g a.toNat).map encTx).flatten).length = i * 1 := by
      rw [flat_len (k := 1) _ (fun _ => rfl), List.length_map, List.length_take]; congr 1; omega
    refine Gr.app1 (h0 := ⟨h.n + 1, h2.ob⟩) si37 (by decide) (by decide) (notInt_sl und37) g2 ⟨by show h.n + 1 ≤ h2.n; omega, fun _ _ => rfl⟩ rfl (by rw [xl]; omega) (by decide) (fun h3 gr ow p3 n3 he => ?_)
    have el : ((((x.kids.take i).map fun a => shE (L.map Prod.fst) g a.toNat).map encTx).flatten).length / 1 + 1 = i + 1 := by rw [xl]; omega
    rw [el] at gr ⊢
    simp (maxSteps := 1000000) -implicitDefEqProofs only [push_cast, seval]
    rw [wrapSucc (by omega)]
    have g3 : Gr (h.n + 1) h3 (.slice (some ⟨h2.n + 1, 0, none⟩) (i + 1) 1) 1 ((((x.kids.take (i + 1)).map fun a => shE (L.map Prod.fst) g a.toNat).map encTx).flatten) := by
      rw [fs, List.map_append, List.flatten_append]; exact gr
    have lo3 : ∀ j, j < h.n + 1 → h3.ob j = h2.ob j := fun j hj => he j (by omega) (fun e => by have := g2.range e; omega)
    refine ⟨(i + 1, .slice (some ⟨h2.n + 1, 0, none⟩) (i + 1) 1), by kernel_rfl, ⟨by show i + 1 ≤ _; omega, g3, ⟨by have := p2.n; omega, fun j hj => (lo3 j (by omega)).trans (p2.ob j hj)⟩, (lo3 h.n (by omega)).trans b2, by omega⟩, by show _ - (i + 1) < _ - i; omega⟩
  have ei : i = x.kids.length := by omega
  rw [ei, List.take_length] at g2
  have rX : RdV h2 v 1 encTx (x.kids.map fun a => shE (L.map Prod.fst) g a.toNat) := g2.rdv (by decide) (fun _ => rfl)
  have uX := rX.one
  have kp := p2.keep
  simp (maxSteps := 1000000) -implicitDefEqProofs only [push_cast, seval, b2, rd_of b2, rd1_of b2, l2]
  have ls := lit_sizes
  with_reducible refine bcase_d (fun o1 => ?_) (fun o1 => ?_)
  · have d1 : decide (x.op = 1) = true := decide_eq_true o1
    simp (maxSteps := 1000000) -implicitDefEqProofs only [push_cast, seval, b2, rd_of b2, rd1_of b2, l2, d1]
    refine ⟨?_, kp⟩
    rw [shE_eq hN]
    simp only
    rw [if_pos (.inl o1)]
  simp (maxSteps := 1000000) -implicitDefEqProofs only [push_cast, seval, b2, rd_of b2, rd1_of b2, l2]
  with_reducible refine bcase_d (fun o3 => ?_) (fun o3 => ?_)
  · have d3 : decide (x.op = 3) = true := decide_eq_true o3
    simp (maxSteps := 1000000) -implicitDefEqProofs only [push_cast, seval, b2, rd_of b2, rd1_of b2, l2, d3]
    refine ⟨?_, kp⟩
    rw [shE_eq hN]
    simp only
    rw [if_pos (.inr o3)]
  simp (maxSteps := 1000000) -implicitDefEqProofs only [push_cast, seval, b2, rd_of b2, rd1_of b2, l2]
  with_reducible refine bcase_d (fun o2 => ?_) (fun o2 => ?_)
  · have d2 : decide (x.op = 2) = true := decide_eq_true o2
    simp (maxSteps := 1000000) -implicitDefEqProofs only [push_cast, seval, b2, rd_of b2, rd1_of b2, l2]
    repeat (with_reducible refine And.intro (by first | omega | (simp only [ByteArray.size_append]; omega)) ?_)
    refine ⟨?_, kp⟩
    rw [shE_eq hN]
    simp only
    rw [if_neg (by omega), if_pos (by omega)]
  simp (maxSteps := 1000000) -implicitDefEqProofs only [push_cast, seval, b2, rd_of b2, rd1_of b2, l2]
  with_reducible refine bcase_d (fun o4 => ?_) (fun o4 => ?_)
  · have d4 : decide (x.op = 4) = true := decide_eq_true o4
    have k1 := ek.a (by omega)
    with_reducible refine Exists.elim k1 (fun pk k1 => ?_)
    have ek1 := k1.1
    have cs := kcn 0 pk (by rw [ek1]; exact Nat.one_pos) (by rw [ek1]; rfl)
    have zA := (szk pk k1.2.1 k1.2.2).1
    have zA' : (shE (L.map Prod.fst) g pk).size ≤ 1048640 * 2001 := Nat.le_trans zA (Nat.mul_le_mul_left _ (by omega))
    have kr1 := kid1 ek1 rX
    have kz := kidN'_0 ek1
    with_reducible refine Exists.elim kr1 (fun ia kr1 => ?_)
    with_reducible refine Exists.elim kr1 (fun oa kr1 => ?_)
    with_reducible refine Exists.elim kr1 (fun ca kr1 => ?_)
    have ev := kr1.1
    have la := kr1.2.1
    have ra := kr1.2.2
    clear kr1
    subst ev
    simp (maxSteps := 1000000) -implicitDefEqProofs only [push_cast, seval]
    refine WC.draw' (by kernel_rfl) (by kernel_rfl) (.q 0 (.q 1 (.q 2 (.q 3 (.q 4 (.q 5 (.q 6 (.q 7 (.q 8 (.done)))))))))) (by kernel_rfl) ?_
    simp (maxSteps := 1000000) -implicitDefEqProofs only [push_cast, seval, b2, rd_of b2, rd1_of b2, l2, la, ra, uX]
    repeat (with_reducible refine And.intro ?_ ?_; · (first | omega | decide))
    repeat (with_reducible refine And.intro (by first | omega | (simp only [ByteArray.size_append]; omega)) ?_)
    refine ⟨?_, kp⟩
    rw [shE_eq hN]
    simp only
    rw [if_neg (by omega), if_neg (by omega), if_pos (by omega)]
    rw [kz]
  simp (maxSteps := 1000000) -implicitDefEqProofs only [push_cast, seval, b2, rd_of b2, rd1_of b2, l2]
  with_reducible refine bcase_d (fun o5 => ?_) (fun o5 => ?_)
  · have d5 : decide (x.op = 5) = true := decide_eq_true o5
    have k1 := ek.a (by omega)
    with_reducible refine Exists.elim k1 (fun pk k1 => ?_)
    have ek1 := k1.1
    have cs := kcn 0 pk (by rw [ek1]; exact Nat.one_pos) (by rw [ek1]; rfl)
    have zA := (szk pk k1.2.1 k1.2.2).1
    have zA' : (shE (L.map Prod.fst) g pk).size ≤ 1048640 * 2001 := Nat.le_trans zA (Nat.mul_le_mul_left _ (by omega))
    have kr1 := kid1 ek1 rX
    have kz := kidN'_0 ek1
    with_reducible refine Exists.elim kr1 (fun ia kr1 => ?_)
    with_reducible refine Exists.elim kr1 (fun oa kr1 => ?_)
    with_reducible refine Exists.elim kr1 (fun ca kr1 => ?_)
    have ev := kr1.1
    have la := kr1.2.1
    have ra := kr1.2.2
    clear kr1
    subst ev
    simp (maxSteps := 1000000) -implicitDefEqProofs only [push_cast, seval, b2, rd_of b2, rd1_of b2, l2, la, ra, uX]
    repeat (with_reducible refine And.intro ?_ ?_; · (first | omega | decide))
    repeat (with_reducible refine And.intro (by first | omega | (simp only [ByteArray.size_append]; omega)) ?_)
    refine ⟨?_, kp⟩
    rw [shE_eq hN]
    simp only
    rw [if_neg (by omega), if_neg (by omega), if_neg (by omega), if_pos (by omega)]
    rw [kz]
  simp (maxSteps := 1000000) -implicitDefEqProofs only [push_cast, seval, b2, rd_of b2, rd1_of b2, l2]
  with_reducible refine bcase_d (fun o6 => ?_) (fun o6 => ?_)
  · have d6 : decide (x.op = 6) = true := decide_eq_true o6
    simp (maxSteps := 1000000) -implicitDefEqProofs only [push_cast, seval, b2, rd_of b2, rd1_of b2, l2]
    refine ⟨?_, kp⟩
    rw [shE_eq hN]
    simp only
    rw [if_neg (by omega), if_neg (by omega), if_neg (by omega), if_neg (by omega), if_pos (by omega)]
  simp (maxSteps := 1000000) -implicitDefEqProofs only [push_cast, seval, b2, rd_of b2, rd1_of b2, l2]
  with_reducible refine bcase_d (fun o7 => ?_) (fun o7 => ?_)
  · have d7 : decide (x.op = 7) = true := decide_eq_true o7
    simp (maxSteps := 1000000) -implicitDefEqProofs only [push_cast, seval, b2, rd_of b2, rd1_of b2, l2]
    refine ⟨?_, kp⟩
    rw [shE_eq hN]
    simp only
    rw [if_neg (by omega), if_neg (by omega), if_neg (by omega), if_neg (by omega), if_neg (by omega), if_pos (by omega)]
  simp (maxSteps := 1000000) -implicitDefEqProofs only [push_cast, seval, b2, rd_of b2, rd1_of b2, l2]
  with_reducible refine bcase_d (fun o8 => ?_) (fun o8 => ?_)
  · have d8 : decide (x.op = 8) = true := decide_eq_true o8
    have k1 := ek.a (by omega)
    with_reducible refine Exists.elim k1 (fun pk k1 => ?_)
    have ek1 := k1.1
    have cs := kcn 0 pk (by rw [ek1]; exact Nat.one_pos) (by rw [ek1]; rfl)
    have zA := (szk pk k1.2.1 k1.2.2).1
    have zA' : (shE (L.map Prod.fst) g pk).size ≤ 1048640 * 2001 := Nat.le_trans zA (Nat.mul_le_mul_left _ (by omega))
    have kr1 := kid1 ek1 rX
    have kz := kidN'_0 ek1
    with_reducible refine Exists.elim kr1 (fun ia kr1 => ?_)
    with_reducible refine Exists.elim kr1 (fun oa kr1 => ?_)
    with_reducible refine Exists.elim kr1 (fun ca kr1 => ?_)
    have ev := kr1.1
    have la := kr1.2.1
    have ra := kr1.2.2
    clear kr1
    subst ev
    simp (maxSteps := 1000000) -implicitDefEqProofs only [push_cast, seval, b2, rd_of b2, rd1_of b2, l2, la, ra, uX]
    repeat (with_reducible refine And.intro ?_ ?_; · (first | omega | decide))
    repeat (with_reducible refine And.intro (by first | omega | (simp only [ByteArray.size_append]; omega)) ?_)
    refine ⟨?_, kp⟩
    rw [shE_eq hN]
    simp only
    rw [if_neg (by omega), if_neg (by omega), if_neg (by omega), if_neg (by omega), if_neg (by omega), if_neg (by omega), if_pos (by omega)]
    rw [kz]
  simp (maxSteps := 1000000) -implicitDefEqProofs only [push_cast, seval, b2, rd_of b2, rd1_of b2, l2]
  with_reducible refine bcase_d (fun o16 => ?_) (fun o16 => ?_)
  · have d16 : decide (x.op = 16) = true := decide_eq_true o16
    have k1 := ek.a (by omega)
    with_reducible refine Exists.elim k1 (fun pk k1 => ?_)
    have ek1 := k1.1
    have cs := kcn 0 pk (by rw [ek1]; exact Nat.one_pos) (by rw [ek1]; rfl)
    have zA := (szk pk k1.2.1 k1.2.2).1
    have zA' : (shE (L.map Prod.fst) g pk).size ≤ 1048640 * 2001 := Nat.le_trans zA (Nat.mul_le_mul_left _ (by omega))
    have kr1 := kid1 ek1 rX
    have kz := kidN'_0 ek1
    with_reducible refine Exists.elim kr1 (fun ia kr1 => ?_)
    with_reducible refine Exists.elim kr1 (fun oa kr1 => ?_)
    with_reducible refine Exists.elim kr1 (fun ca kr1 => ?_)
    have ev := kr1.1
    have la := kr1.2.1
    have ra := kr1.2.2
    clear kr1
    subst ev
    simp (maxSteps := 1000000) -implicitDefEqProofs only [push_cast, seval]
    refine WC.draw' (by kernel_rfl) (by kernel_rfl) (.q 0 (.q 1 (.q 2 (.q 3 (.q 4 (.q 5 (.q 6 (.q 7 (.q 8 (.q 9 (.done))))))))))) (by kernel_rfl) ?_
    simp (maxSteps := 1000000) -implicitDefEqProofs only [push_cast, seval, b2, rd_of b2, rd1_of b2, l2, la, ra, uX]
    repeat (with_reducible refine And.intro ?_ ?_; · (first | omega | decide))
    repeat (with_reducible refine And.intro (by first | omega | (simp only [ByteArray.size_append]; omega)) ?_)
    refine ⟨?_, kp⟩
    rw [shE_eq hN]
    simp only
    rw [if_neg (by omega), if_neg (by omega), if_neg (by omega), if_neg (by omega), if_neg (by omega), if_neg (by omega), if_neg (by omega), if_pos (by omega)]
    rw [kz]
  simp (maxSteps := 1000000) -implicitDefEqProofs only [push_cast, seval, b2, rd_of b2, rd1_of b2, l2]
  have hm : ∃ m : Nat, x.op = 9 + m ∧ m < 7 := ⟨(x.op - 9).toNat, by omega, by omega⟩
  with_reducible refine Exists.elim hm (fun m hm => ?_)
  have em := hm.1
  have lm := hm.2
  have w9 : IntKind.i64.wrap (x.op - 9) = ((m : Nat) : Int) := by rw [w64 (by omega) (by omega)]; omega
  have tm : (x.op - 9).toNat = m := by omega
  have lst : [Value.string ⟨#[43]⟩, Value.string ⟨#[45]⟩, Value.string ⟨#[42]⟩, Value.string ⟨#[37]⟩, Value.string ⟨#[46]⟩, Value.string ⟨#[60]⟩, Value.string ⟨#[61, 61]⟩][m * 1]? = some (Value.string (sg m)) := sg_at lm
  have zg := sg_size m
  have k2 := ek.b (by omega)
  with_reducible refine Exists.elim k2 (fun pk k2 => ?_)
  with_reducible refine Exists.elim k2 (fun qk k2 => ?_)
  have ek2 := k2.1
  have cs0 := kcn 0 pk (by rw [ek2]; exact Nat.succ_pos _) (by rw [ek2]; rfl)
  have cs1 := kcn 1 qk (by rw [ek2]; exact Nat.lt_succ_self _) (by rw [ek2]; rfl)
  have zA : (shE (L.map Prod.fst) g pk).size ≤ 1048640 * 2001 := Nat.le_trans (szk pk k2.2.1.1 k2.2.1.2).1 (Nat.mul_le_mul_left _ (by omega))
  have zB : (shE (L.map Prod.fst) g qk).size ≤ 1048640 * 2001 := Nat.le_trans (szk qk k2.2.2.1 k2.2.2.2).1 (Nat.mul_le_mul_left _ (by omega))
  have kr2 := kid2 ek2 rX
  have kz0 := kidN'_0 ek2
  have kz1 := kidN'_1 ek2
  with_reducible refine Exists.elim kr2 (fun ia kr2 => ?_)
  with_reducible refine Exists.elim kr2 (fun oa kr2 => ?_)
  with_reducible refine Exists.elim kr2 (fun ca kr2 => ?_)
  have ev := kr2.1
  have la := kr2.2.1
  have ra := kr2.2.2.1
  have rb := kr2.2.2.2
  clear kr2
  subst ev
  rw [w9]
  simp (maxSteps := 1000000) -implicitDefEqProofs only [push_cast, seval, Int.toNat_natCast, lst]
  refine And.intro (by omega) (And.intro (by omega) ?_)
  refine WC.draw' (by kernel_rfl) (by kernel_rfl) (.q 0 (.q 1 (.q 2 (.q 3 (.q 4 (.q 5 (.q 6 (.q 7 (.q 8 (.q 9 (.q 10 (.q 11 (.q 12 (.q 13 (.done))))))))))))))) (by kernel_rfl) ?_
  simp (maxSteps := 1000000) -implicitDefEqProofs only [push_cast, seval, b2, rd_of b2, rd1_of b2, l2, la, ra, rb, uX]
  repeat (with_reducible refine And.intro ?_ ?_; · (first | omega | decide))
  repeat (with_reducible refine And.intro (by first | omega | (simp only [ByteArray.size_append]; omega)) ?_)
  refine ⟨?_, (p2.alloc _).keep⟩
  rw [shE_eq hN]
  simp only
  rw [if_neg (by omega), if_neg (by omega), if_neg (by omega), if_neg (by omega), if_neg (by omega), if_neg (by omega), if_neg (by omega), if_neg (by omega), kz0, kz1, tm]
end Go.Proofs.YtdlpdfclljnmhaaGreat
namespace Go.Proofs.YtdlpdfclljnmhaaGreat
open Go Go.Sim Go.Proofs
set_option linter.unusedSimpArgs false
set_option linter.unusedVariables false
set_option maxRecDepth 100000
set_option maxHeartbeats 1000000
variable {vN vR : Value} {L : List (Nd × Value)} {R : List Ru} {h h1 h2 h' : AH}
theorem shS_eq {N : List Nd} {f k : Nat} {x : Nd} (hx : nd N k = x) : shS N (f + 1) k =
    (let a := shE N f (kidN' x 0)
    let b := shE N f (kidN' x 1)
    if x.op = 17 then (⟨#[112, 114, 105, 110, 116, 32]⟩ : ByteArray) ++ jB (⟨#[44, 32]⟩ : ByteArray) (x.kids.map fun a => shE N f a.toNat)
    else if x.op = 18 then x.text ++ (⟨#[32, 61, 32]⟩ : ByteArray) ++ a
    else if x.op = 19 then x.text ++ (⟨#[32, 43, 61, 32]⟩ : ByteArray) ++ a
    else if x.op = 20 then x.text ++ (⟨#[91]⟩ : ByteArray) ++ a ++ (⟨#[93, 32, 61, 32]⟩ : ByteArray) ++ b
    else if x.op = 21 then x.text ++ (⟨#[91]⟩ : ByteArray) ++ a ++ (⟨#[93, 32, 43, 61, 32]⟩ : ByteArray) ++ b
    else if x.op = 22 then
      if x.kids.length = 3 then (⟨#[105, 102, 32, 40]⟩ : ByteArray) ++ a ++ (⟨#[41, 32]⟩ : ByteArray) ++ shS N f (kidN' x 1) ++ ((⟨#[32, 101, 108, 115, 101, 32]⟩ : ByteArray) ++ shS N f (kidN' x 2))
      else (⟨#[105, 102, 32, 40]⟩ : ByteArray) ++ a ++ (⟨#[41, 32]⟩ : ByteArray) ++ shS N f (kidN' x 1)
    else if x.op = 23 then (⟨#[110, 101, 120, 116]⟩ : ByteArray)
    else if x.op = 25 then (⟨#[100, 117, 109, 112, 32]⟩ : ByteArray) ++ x.text
    else if x.kids = [] then (⟨#[123, 32, 125]⟩ : ByteArray)
    else (⟨#[123, 32]⟩ : ByteArray) ++ jB (⟨#[59, 32]⟩ : ByteArray) (x.kids.map fun a => shS N f a.toNat) ++ (⟨#[32, 125]⟩ : ByteArray)) := by
  subst hx; rfl
/-- A statement's kids. -/
structure StK (N : List Nd) (k : Nat) (x : Nd) : Prop where
  p : x.op = 17 → (1 ≤ x.kids.length ∧ x.kids.length ≤ 4) ∧ ∀ a, a < x.kids.length → ∃ m : Nat, x.kids.getD a 0 = m ∧ m < k ∧ isEx (nd N m).op = true
  c : x.op = 22 → ∃ p q : Nat, (p < k ∧ isEx (nd N p).op = true) ∧ (q < k ∧ isEx (nd N q).op = false) ∧ (x.kids = [(p : Int), (q : Int)] ∨ ∃ r : Nat, x.kids = [(p : Int), (q : Int), (r : Int)] ∧ r < k ∧ isEx (nd N r).op = false)
  z : (x.op = 23 ∨ x.op = 25) → x.kids = []
  b : x.op = 24 → x.kids.length ≤ 20 ∧ ∀ a, a < x.kids.length → ∃ m : Nat, x.kids.getD a 0 = m ∧ m < k ∧ isEx (nd N m).op = false
theorem kids_three {l : List Int} (h : l.length = 3) : l = [l.getD 0 0, l.getD 1 0, l.getD 2 0] := by
  match l, h with
  | [a, b, c], _ => rfl
theorem StK.of {N : List Nd} {k : Nat} {x : Nd} (o : OkN N k x) : StK N k x := by
  have hl := o.len
  refine ⟨fun h => ?_, fun h => ?_, fun h => ?_, fun h => ?_⟩
  · unfold manyP rangeP at hl
    rw [if_neg (by omega), if_neg (by omega), if_neg (by omega), if_neg (by omega), if_pos h] at hl
    simp only [inB, Bool.and_eq_true, decide_eq_true_eq] at hl
    refine ⟨by omega, fun a ha => ?_⟩
    obtain ⟨m, e, lm, km⟩ := o.kid a ha
    exact ⟨m, e, lm, kid_st' (by omega) (by omega) km⟩
  · unfold manyP at hl
    rw [if_pos h] at hl
    simp only [inB, Bool.and_eq_true, decide_eq_true_eq] at hl
    obtain ⟨p, e0, lp, kp⟩ := o.kid 0 (by omega)
    obtain ⟨q, e1, lq, kq⟩ := o.kid 1 (by omega)
    have xp : isEx (nd N p).op = true := by
      unfold kidP at kp
      rw [if_neg (by omega), if_neg (by omega)] at kp
      exact kp
    have xq : isEx (nd N q).op = false := by
      unfold kidP at kq
      rw [if_pos ⟨h, by omega⟩] at kq
      simp only [Bool.and_eq_true, Bool.not_eq_true'] at kq
      exact kq.1
    refine ⟨p, q, ⟨lp, xp⟩, ⟨lq, xq⟩, ?_⟩
    by_cases e : x.kids.length = 2
    · exact .inl (by rw [← e0, ← e1]; exact kids_two e)
    · obtain ⟨r, e2, lr, kr⟩ := o.kid 2 (by omega)
      refine .inr ⟨r, by rw [← e0, ← e1, ← e2]; exact kids_three (by omega), lr, ?_⟩
      unfold kidP at kr
      rw [if_pos ⟨h, by omega⟩] at kr
      simp only [Bool.and_eq_true, Bool.not_eq_true'] at kr
      exact kr.1
  · unfold manyP rangeP at hl
    rw [if_neg (by omega), if_neg (by omega), if_neg (by omega), if_neg (by omega), if_neg (by omega)] at hl
    simp only [inB, Bool.and_eq_true, decide_eq_true_eq] at hl
    exact List.eq_nil_of_length_eq_zero (by omega)
  · unfold manyP at hl
    rw [if_neg (by omega), if_pos h] at hl
    simp only [inB, Bool.and_eq_true, decide_eq_true_eq] at hl
    refine ⟨by omega, fun a ha => ?_⟩
    obtain ⟨m, e, lm, km⟩ := o.kid a ha
    refine ⟨m, e, lm, ?_⟩
    unfold kidP at km
    rw [if_neg (by omega), if_pos h] at km
    have km : isEx (nodeOp N m) = false := by simpa using km
    exact km
theorem sum_bound {α : Type} (F C : α → Nat) (W : Nat) : ∀ (l : List α), (∀ a ∈ l, F a ≤ W * C a) → (l.map F).sum ≤ W * (l.map C).sum
  | [], _ => Nat.zero_le _
  | a :: l, h => by
    rw [List.map_cons, List.map_cons, List.sum_cons, List.sum_cons, Nat.mul_add]
    exact Nat.add_le_add (h a (List.mem_cons_self ..)) (sum_bound F C W l (fun b hb => h b (List.mem_cons_of_mem _ hb)))
theorem kid_mem {kids : List Int} {a : Int} (h : a ∈ kids) : ∃ i, i < kids.length ∧ kids.getD i 0 = a := by
  obtain ⟨i, hi, e⟩ := List.getElem_of_mem h
  exact ⟨i, hi, by rw [List.getD_eq_getElem?_getD, List.getElem?_eq_getElem hi]; exact e⟩
theorem cnt_pos {N : List Nd} {f k : Nat} (h : k < f) : 1 ≤ cnt N f k := by
  obtain ⟨g, rfl⟩ : ∃ g, f = g + 1 := ⟨f - 1, by omega⟩
  show 1 ≤ 1 + _
  omega
/-- How long a statement shown is. -/
theorem shS_size (hok : programOk ⟨L.map Prod.fst, R⟩ = true) (ht : ∀ x ∈ L, x.1.text.size ≤ 1048576) : ∀ k, k < L.length → isEx (nd (L.map Prod.fst) k).op = false → ∀ f, k < f → (shS (L.map Prod.fst) f k).size ≤ 1048640 * cnt (L.map Prod.fst) f k := by
  intro k
  induction k using Nat.strongRecOn with
  | ind k ih =>
  intro hk he f hf
  obtain ⟨g, rfl⟩ : ∃ g, f = g + 1 := ⟨f - 1, by omega⟩
  have okN := OkN.of hok hk
  have ek := ExK.of okN
  have sk := StK.of okN
  have tx := ht _ (List.getElem_mem hk)
  have hx := nd_L (L := L) k hk
  have szk := fun j (hj : j < k) (he : isEx (nd (L.map Prod.fst) j).op = true) => (shE_size hok ht j (by omega) he g (by omega)).1
  have szs := fun j (hj : j < k) (he : isEx (nd (L.map Prod.fst) j).op = false) => ih j hj (by omega) he g (by omega)
  rw [hx] at he
  have he : ¬ (1 ≤ L[k].1.op ∧ L[k].1.op ≤ 16) := fun e => by rw [(isEx_iff _).2 e] at he; cases he
  have op := okN.op
  simp only [inB, Bool.and_eq_true, decide_eq_true_eq] at op
  rw [shS_eq hx]
  unfold cnt
  simp only [hx]
  generalize L[k].1 = x at *
  have ls := lit_sizes
  by_cases o17 : x.op = 17
  · rw [if_pos o17]
    have sp := sk.p o17
    have jb := jB_size (⟨#[44, 32]⟩ : ByteArray) (x.kids.map fun a => shE (L.map Prod.fst) g a.toNat)
    rw [List.map_map, List.length_map] at jb
    have sb := sum_bound (ByteArray.size ∘ fun a : Int => shE (L.map Prod.fst) g a.toNat) (fun a : Int => cnt (L.map Prod.fst) g a.toNat) 1048640 x.kids (fun a ha => by
      obtain ⟨i, hi, e⟩ := kid_mem ha
      obtain ⟨m, e2, lm, xm⟩ := sp.2 i hi
      rw [e] at e2
      subst e2
      exact szk m lm xm)
    have z1 : (⟨#[44, 32]⟩ : ByteArray).size = 2 := rfl
    rw [z1] at jb
    simp only [ByteArray.size_append]
    omega
  rw [if_neg o17]
  rcases Classical.em (x.op = 18 ∨ x.op = 19) with c1 | c1
  · obtain ⟨p, e, lp, ep⟩ := ek.a (by omega)
    have ep := szk p lp ep
    rw [kidN'_0 e, e]
    simp only [List.map_cons, List.map_nil, List.sum_cons, List.sum_nil, Int.toNat_natCast]
    generalize shE (L.map Prod.fst) g p = A at *
    generalize cnt (L.map Prod.fst) g p = n at *
    rcases c1 with c1 | c1
    · rw [if_pos c1]; simp only [ByteArray.size_append]; omega
    · rw [if_neg (by omega), if_pos c1]; simp only [ByteArray.size_append]; omega
  rw [if_neg (by omega), if_neg (by omega)]
  rcases Classical.em (x.op = 20 ∨ x.op = 21) with c2 | c2
  · obtain ⟨p, q, e, ⟨lp, ep⟩, lq, eq⟩ := ek.b (by omega)
    have ep := szk p lp ep
    have eq := szk q lq eq
    rw [kidN'_0 e, kidN'_1 e, e]
    simp only [List.map_cons, List.map_nil, List.sum_cons, List.sum_nil, Int.toNat_natCast]
    generalize shE (L.map Prod.fst) g p = A at *
    generalize shE (L.map Prod.fst) g q = A2 at *
    generalize cnt (L.map Prod.fst) g p = n at *
    generalize cnt (L.map Prod.fst) g q = n2 at *
    rcases c2 with c2 | c2
    · rw [if_pos c2]; simp only [ByteArray.size_append]; omega
    · rw [if_neg (by omega), if_pos c2]; simp only [ByteArray.size_append]; omega
  rw [if_neg (by omega), if_neg (by omega)]
  by_cases o22 : x.op = 22
  · rw [if_pos o22]
    obtain ⟨p, q, ⟨lp, xp⟩, ⟨lq, xq⟩, hk2⟩ := sk.c o22
    have ep := szk p lp xp
    have eq := szs q lq xq
    rcases hk2 with e | ⟨r, e, lr, xr⟩
    · rw [if_neg (by rw [e]; show ¬ 2 = 3; decide), kidN'_0 e, kidN'_1 e, e]
      simp only [List.map_cons, List.map_nil, List.sum_cons, List.sum_nil, Int.toNat_natCast]
      generalize shE (L.map Prod.fst) g p = A at *
      generalize shS (L.map Prod.fst) g q = A2 at *
      generalize cnt (L.map Prod.fst) g p = n at *
      generalize cnt (L.map Prod.fst) g q = n2 at *
      simp only [ByteArray.size_append]; omega
    · have er := szs r lr xr
      have k2 : kidN' x 2 = r := by unfold kidN'; rw [e]; rfl
      rw [if_pos (by rw [e]; rfl), kidN'_0 e, kidN'_1 e, k2, e]
      simp only [List.map_cons, List.map_nil, List.sum_cons, List.sum_nil, Int.toNat_natCast]
      generalize shE (L.map Prod.fst) g p = A at *
      generalize shS (L.map Prod.fst) g q = A2 at *
      generalize shS (L.map Prod.fst) g r = A3 at *
      generalize cnt (L.map Prod.fst) g p = n at *
      generalize cnt (L.map Prod.fst) g q = n2 at *
      generalize cnt (L.map Prod.fst) g r = n3 at *
      simp only [ByteArray.size_append]; omega
  rw [if_neg o22]
  by_cases o23 : x.op = 23
  · rw [if_pos o23]; omega
  rw [if_neg o23]
  by_cases o25 : x.op = 25
  · rw [if_pos o25]; simp only [ByteArray.size_append]; omega
  rw [if_neg o25]
  have o24 : x.op = 24 := by omega
  split
  · omega
  have sp := sk.b o24
  have jb := jB_size (⟨#[59, 32]⟩ : ByteArray) (x.kids.map fun a => shS (L.map Prod.fst) g a.toNat)
  rw [List.map_map, List.length_map] at jb
  have sb := sum_bound (ByteArray.size ∘ fun a : Int => shS (L.map Prod.fst) g a.toNat) (fun a : Int => cnt (L.map Prod.fst) g a.toNat) 1048640 x.kids (fun a ha => by
    obtain ⟨i, hi, e⟩ := kid_mem ha
    obtain ⟨m, e2, lm, xm⟩ := sp.2 i hi
    rw [e] at e2
    subst e2
    exact szs m lm xm)
  have z1 : (⟨#[59, 32]⟩ : ByteArray).size = 2 := rfl
  rw [z1] at jb
  simp only [ByteArray.size_append]
  omega
end Go.Proofs.YtdlpdfclljnmhaaGreat
namespace Go.Proofs.YtdlpdfclljnmhaaGreat
open Go Go.Sim Go.Proofs
set_option linter.unusedSimpArgs false
set_option linter.unusedVariables false
set_option maxRecDepth 100000
set_option maxHeartbeats 1000000
variable {vN vR : Value} {L : List (Nd × Value)} {R : List Ru} {h h1 h2 h' : AH}
theorem jB_step0 (P sep x : ByteArray) : P ++ jB sep [] ++ x = P ++ jB sep ([] ++ [x]) := by rw [jB_nil, ba_nil, List.nil_append, jB_one]
theorem jB_step (P sep x : ByteArray) (l : List ByteArray) (h : l ≠ []) : P ++ jB sep l ++ sep ++ x = P ++ jB sep (l ++ [x]) := by rw [jB_snoc _ _ _ h, ba_assoc, ba_assoc, ba_assoc]
theorem showSt_s (hok : programOk ⟨L.map Prod.fst, R⟩ = true) (ht : ∀ x ∈ L, x.1.text.size ≤ 1048576) : ∀ k, k < L.length → isEx (nd (L.map Prod.fst) k).op = false → ∀ f, k < f → cnt (L.map Prod.fst) f k ≤ 2001 → ShX 30 vN vR L R k (shS (L.map Prod.fst) f k) := by
  have okG := OkG.of hok
  intro k
  induction k using Nat.strongRecOn with
  | ind k ih =>
  intro hk hx0 f hf hc
  obtain ⟨g, rfl⟩ : ∃ g, f = g + 1 := ⟨f - 1, by omega⟩
  have ihg : ∀ j, j < k → isEx (nd (L.map Prod.fst) j).op = false → cnt (L.map Prod.fst) g j ≤ 2001 → ShX 30 vN vR L R j (shS (L.map Prod.fst) g j) := fun j hj he hc => ih j hj (by omega) he g (by omega) hc
  have hL := okG.n
  have okN := OkN.of hok hk
  have ek := ExK.of okN
  have hN : nd (L.map Prod.fst) k = L[k].1 := getD_map L k hk
  have szk := fun j (hj : j < k) (he : isEx (nd (L.map Prod.fst) j).op = true) => shE_size hok ht j (by omega) he g (by omega)
  have kcn := fun i j hi e => kid_cnt (g := g) (i := i) (j := j) hN hi e
  rw [hN] at hx0
  have sk := StK.of okN
  have op := okN.op
  simp only [inB, Bool.and_eq_true, decide_eq_true_eq] at op
  have hx0 : ¬ (1 ≤ L[k].1.op ∧ L[k].1.op ≤ 16) := fun e => by rw [(isEx_iff _).2 e] at hx0; cases hx0
  have EX := fun j (hj : j < k) (he : isEx (nd (L.map Prod.fst) j).op = true) (hc : cnt (L.map Prod.fst) g j ≤ 2001) => showEx_s (vN := vN) (vR := vR) hok ht j (by omega) he g (by omega) hc
  have szs := fun j (hj : j < k) (he : isEx (nd (L.map Prod.fst) j).op = false) => shS_size hok ht j (by omega) he g (by omega)
  unfold ShX
  intro h c
  refine CD.quiet ?_ (low_string _ _)
  have y1 := c.nodes.one
  have y2 := c.rules.one
  obtain ⟨iN, oN, qN, eN, lN, rN⟩ := c.nodes.el (fun _ => rfl) hk
  simp only [encD] at rN
  have r0 := (rd_3 rN).1
  have r1 := (rd_3 rN).2.1
  have r2 := (rd_3 rN).2.2
  have hx : (L[k].1, L[k].2) ∈ L := List.getElem_mem hk
  have u1 := (c.kids _ hx).one
  have tx := ht _ hx
  simp only at tx
  generalize L[k].1 = x at *
  generalize L[k].2 = kv at *
  have p0 : Pre h (((h.alloc (.cells [vN, vR] .solo h.n)).alloc (.cells [.int .i64 0, .string ⟨#[]⟩, .slice none 0 0] .solo (h.n + 1))).set (h.n + 1) (.cells [.int .i64 x.op, .string x.text, kv] .solo (h.n + 1))) := (((Pre.refl h).alloc _).alloc _).set (Nat.le_succ _) _
  have b1 : (((h.alloc (.cells [vN, vR] .solo h.n)).alloc (.cells [.int .i64 0, .string ⟨#[]⟩, .slice none 0 0] .solo (h.n + 1))).set (h.n + 1) (.cells [.int .i64 x.op, .string x.text, kv] .solo (h.n + 1))).ob (h.n + 1) = .cells [.int .i64 x.op, .string x.text, kv] .solo (h.n + 1) := set_same _ _
  have bp : (((h.alloc (.cells [vN, vR] .solo h.n)).alloc (.cells [.int .i64 0, .string ⟨#[]⟩, .slice none 0 0] .solo (h.n + 1))).set (h.n + 1) (.cells [.int .i64 x.op, .string x.text, kv] .solo (h.n + 1))).ob h.n = .cells [vN, vR] .solo h.n := (set_ne _ (by omega)).trans ((alloc_lt _ (lt_alloc _)).trans (alloc_same _))
  have n1 : (((h.alloc (.cells [vN, vR] .solo h.n)).alloc (.cells [.int .i64 0, .string ⟨#[]⟩, .slice none 0 0] .solo (h.n + 1))).set (h.n + 1) (.cells [.int .i64 x.op, .string x.text, kv] .solo (h.n + 1))).n = h.n + 2 := rfl
  refine CC.ofN Tryz.func30 Tryz.ntmps30 Tryz.results30 rfl (by decide) (by kernel_rfl) ?_
  subst eN
  simp (maxSteps := 1000000) -implicitDefEqProofs only [push_cast, seval, y1, y2, lN, rN, r0, r1, r2, u1]
  repeat (with_reducible refine And.intro ?_ ?_; · (first | omega | decide))
  generalize (((h.alloc (.cells [.slice (some ⟨iN, oN, none⟩) L.length qN, vR] .solo h.n)).alloc (.cells [.int .i64 0, .string ⟨#[]⟩, .slice none 0 0] .solo (h.n + 1))).set (h.n + 1) (.cells [.int .i64 x.op, .string x.text, kv] .solo (h.n + 1))) = h2 at *
  have l2 : h.n + 1 < h2.n := by omega
  have lp : h.n < h2.n := by omega
  have c2 := c.pre p0
  have kp := p0.keep
  simp (maxSteps := 1000000) -implicitDefEqProofs only [push_cast, seval, b1, rd_of b1, rd1_of b1, l2, u1]
  have ls := lit_sizes
  have eS := shS_eq (f := g) hN
  simp only at eS
  with_reducible refine bcase_d (fun o17 => ?_) (fun o17 => ?_)
  · rw [if_pos o17] at eS
    rw [eS]
    have kr := (c2.kids _ hx).rde (fun _ => rfl)
    with_reducible refine Exists.elim kr (fun Ak kr => ?_)
    with_reducible refine Exists.elim kr (fun ck kr => ?_)
    have ekv : kv = .slice Ak x.kids.length ck := kr.1
    clear kr
    subst ekv
    have sp := sk.p o17
    have spl := sp.1
    have l125 : (ByteArray.mk #[125]).size = 1 := rfl
    simp (maxSteps := 1000000) -implicitDefEqProofs only [push_cast, seval, b1, rd_of b1, rd1_of b1, l2, u1]
    refine WC.loopA (by kernel_rfl) [6, 7] [20, 21, 22, 23, 24, 25, 26, 27, 28, 29, 30, 31, 32, 33, 34, 35, 36, 37, 38, 39] (fun a : Nat × ByteArray => [.string a.2, .int .i64 (a.1 : Nat)]) (fun a h' => a.1 ≤ x.kids.length ∧ a.2 = (⟨#[112, 114, 105, 110, 116, 32]⟩ : ByteArray) ++ jB (⟨#[44, 32]⟩ : ByteArray) ((x.kids.take a.1).map fun a => shE (L.map Prod.fst) g a.toNat) ∧ a.2.size ≤ 6 + a.1 * 2098328700 ∧ Pre h2 h') (fun a => x.kids.length - a.1) (0, (⟨#[112, 114, 105, 110, 116, 32]⟩ : ByteArray)) (by kernel_rfl) ⟨Nat.zero_le _, by show (⟨#[112, 114, 105, 110, 116, 32]⟩ : ByteArray) = (⟨#[112, 114, 105, 110, 116, 32]⟩ : ByteArray) ++ jB (⟨#[44, 32]⟩ : ByteArray) []; rw [jB_nil, ba_nil], by show ((⟨#[112, 114, 105, 110, 116, 32]⟩ : ByteArray)).size ≤ _; omega, Pre.refl _⟩ ?_
    intro a gg h3 hJ
    obtain ⟨i, t⟩ := a
    have hi := hJ.1
    have eT := hJ.2.1
    have zT := hJ.2.2.1
    have p3 := hJ.2.2.2
    clear hJ
    simp only at hi eT zT
    have b3 := (p3.ob _ l2).trans b1
    have bp3 := (p3.ob _ lp).trans bp
    have l3 : h.n + 1 < h3.n := Nat.lt_of_lt_of_le l2 p3.n
    have lp3 : h.n < h3.n := Nat.lt_of_lt_of_le lp p3.n
    have c3 := c2.pre p3
    simp (maxSteps := 1000000) -implicitDefEqProofs only [push_cast, seval, b3, rd_of b3, rd1_of b3, l3, u1]
    with_reducible refine bcase_d (fun hb => ?_) (fun hb => ?_)
    rotate_left
    · have ei : i = x.kids.length := by omega
      rw [ei, List.take_length] at eT
      have kp3 : Keep h.n h h3 := (p0.trans p3).keep
      simp (maxSteps := 1000000) -implicitDefEqProofs only [push_cast, seval, b3, rd_of b3, rd1_of b3, l3, u1]
      refine ⟨?_, kp3⟩
      rw [eT]
    have hi' : i < x.kids.length := by omega
    have kk := sp.2 i hi'
    with_reducible refine Exists.elim kk (fun j kk => ?_)
    have ej := kk.1
    have lj := kk.2.1
    have cj := kcn i j hi' ej
    have fs := strs_succ (F := shE (L.map Prod.fst) g) hi' ej
    have Ej := EX j lj kk.2.2 (by omega)
    have zj : (shE (L.map Prod.fst) g j).size ≤ 2098328640 := Nat.le_trans (szk j lj kk.2.2).1 (Nat.le_trans (Nat.mul_le_mul_left 1048640 (show cnt (L.map Prod.fst) g j ≤ 2001 by omega)) (by omega))
    have z0 := kid_g c3 hx hi' ej
    with_reducible refine Exists.elim z0 (fun id z0 => ?_)
    with_reducible refine Exists.elim z0 (fun off z0 => ?_)
    with_reducible refine Exists.elim z0 (fun q z0 => ?_)
    have ekv := z0.1
    injection ekv with ekv _ _
    subst ekv
    have lid := z0.2.1
    have rk := z0.2.2
    clear z0
    simp (maxSteps := 1000000) -implicitDefEqProofs only [push_cast, seval, b3, rd_of b3, rd1_of b3, l3, u1]
    with_reducible refine bcase_d (fun h0 => ?_) (fun h0 => ?_)
    · have ne : ((x.kids.take i).map fun a => shE (L.map Prod.fst) g a.toNat) ≠ [] := fun e => by
        have := congrArg List.length e
        rw [List.length_map, List.length_take, List.length_nil] at this
        omega
      simp (maxSteps := 1000000) -implicitDefEqProofs only [push_cast, seval]
      repeat (with_reducible refine And.intro (by first | omega | (simp only [ByteArray.size_append]; omega)) ?_)
      refine WC.draw' (by kernel_rfl) (by kernel_rfl) (.q 0 (.q 1 (.q 2 (.q 3 (.q 4 (.q 5 (.q 6 (.c 7 (.q 8 (.q 9 (.done))))))))))) (by kernel_rfl) ?_
      simp (maxSteps := 1000000) -implicitDefEqProofs only [push_cast, seval, b3, rd_of b3, rd1_of b3, bp3, rd_of bp3, rd1_of bp3, l3, lp3, rk, lid, u1]
      repeat (with_reducible refine And.intro ?_ ?_; · (first | omega | decide))
      with_reducible refine CQ.look _ (ShX.look Ej c3) ?_
      simp (maxSteps := 1000000) -implicitDefEqProofs only [push_cast, seval, b3, rd_of b3, rd1_of b3, bp3, rd_of bp3, rd1_of bp3, l3, lp3, rk, lid, u1]
      repeat (with_reducible refine And.intro (by first | omega | (simp only [ByteArray.size_append]; omega)) ?_)
      rw [wrapSucc (by omega)]
      refine ⟨(i + 1, t ++ (⟨#[44, 32]⟩ : ByteArray) ++ shE (L.map Prod.fst) g j), by kernel_rfl, ⟨by show i + 1 ≤ _; omega, by show t ++ _ ++ _ = _; rw [fs, eT]; exact jB_step _ _ _ _ ne, by show (t ++ _ ++ _).size ≤ 6 + (i + 1) * _; simp only [ByteArray.size_append]; omega, p3⟩, by show _ - (i + 1) < _ - i; omega⟩
    · have i0 : i = 0 := by omega
      simp (maxSteps := 1000000) -implicitDefEqProofs only [push_cast, seval]
      refine WC.draw' (by kernel_rfl) (by kernel_rfl) (.q 0 (.q 1 (.q 2 (.q 3 (.q 4 (.q 5 (.q 6 (.c 7 (.q 8 (.q 9 (.done))))))))))) (by kernel_rfl) ?_
      simp (maxSteps := 1000000) -implicitDefEqProofs only [push_cast, seval, b3, rd_of b3, rd1_of b3, bp3, rd_of bp3, rd1_of bp3, l3, lp3, rk, lid, u1]
      repeat (with_reducible refine And.intro ?_ ?_; · (first | omega | decide))
      with_reducible refine CQ.look _ (ShX.look Ej c3) ?_
      simp (maxSteps := 1000000) -implicitDefEqProofs only [push_cast, seval, b3, rd_of b3, rd1_of b3, bp3, rd_of bp3, rd1_of bp3, l3, lp3, rk, lid, u1]
      repeat (with_reducible refine And.intro (by first | omega | (simp only [ByteArray.size_append]; omega)) ?_)
      rw [wrapSucc (by omega)]
      refine ⟨(i + 1, t ++ shE (L.map Prod.fst) g j), by kernel_rfl, ⟨by show i + 1 ≤ _; omega, by show t ++ _ = _; rw [fs, eT, i0]; exact jB_step0 _ _ _, by show (t ++ _).size ≤ 6 + (i + 1) * _; simp only [ByteArray.size_append]; omega, p3⟩, by show _ - (i + 1) < _ - i; omega⟩
  rw [if_neg o17] at eS
  simp (maxSteps := 1000000) -implicitDefEqProofs only [push_cast, seval, b1, rd_of b1, rd1_of b1, l2]
  with_reducible refine bcase_d (fun o18 => ?_) (fun o18 => ?_)
  · rw [if_pos o18] at eS
    rw [eS]
    have k1 := ek.a (by omega)
    with_reducible refine Exists.elim k1 (fun pk k1 => ?_)
    have ek1 := k1.1
    have cs := kcn 0 pk (by rw [ek1]; exact Nat.one_pos) (by rw [ek1]; rfl)
    have zA := (szk pk k1.2.1 k1.2.2).1
    have zA' : (shE (L.map Prod.fst) g pk).size ≤ 1048640 * 2001 := Nat.le_trans zA (Nat.mul_le_mul_left _ (by omega))
    have kr1 := kid_g c2 hx (a := 0) (by rw [ek1]; exact Nat.one_pos) (k := pk) (by rw [ek1]; rfl)
    have kz := kidN'_0 ek1
    have Ep := EX pk k1.2.1 k1.2.2 (by omega)
    have xl : x.kids.length = 1 := by rw [ek1]; rfl
    with_reducible refine Exists.elim kr1 (fun ia kr1 => ?_)
    with_reducible refine Exists.elim kr1 (fun oa kr1 => ?_)
    with_reducible refine Exists.elim kr1 (fun ca kr1 => ?_)
    have ev := kr1.1
    have la := kr1.2.1
    have ra := kr1.2.2
    clear kr1
    rw [Nat.zero_mul, Nat.add_zero] at ra
    subst ev
    simp (maxSteps := 1000000) -implicitDefEqProofs only [push_cast, seval]
    refine WC.draw' (by kernel_rfl) (by kernel_rfl) (.q 0 (.q 1 (.q 2 (.q 3 (.q 4 (.q 5 (.q 6 (.q 7 (.c 8 (.q 9 (.q 10 (.done)))))))))))) (by kernel_rfl) ?_
    simp (maxSteps := 1000000) -implicitDefEqProofs only [push_cast, seval, b1, rd_of b1, rd1_of b1, bp, rd_of bp, rd1_of bp, l2, lp, la, ra, u1, xl]
    repeat (with_reducible refine And.intro ?_ ?_; · (first | omega | decide))
    with_reducible refine CQ.look _ (ShX.look Ep c2) ?_
    simp (maxSteps := 1000000) -implicitDefEqProofs only [push_cast, seval, b1, rd_of b1, rd1_of b1, bp, rd_of bp, rd1_of bp, l2, lp, la, ra, u1, xl]
    repeat (with_reducible refine And.intro (by first | omega | (simp only [ByteArray.size_append]; omega)) ?_)
    refine ⟨?_, kp⟩
    rw [kz]
  rw [if_neg o18] at eS
  simp (maxSteps := 1000000) -implicitDefEqProofs only [push_cast, seval, b1, rd_of b1, rd1_of b1, l2]
  with_reducible refine bcase_d (fun o19 => ?_) (fun o19 => ?_)
  · rw [if_pos o19] at eS
    rw [eS]
    have k1 := ek.a (by omega)
    with_reducible refine Exists.elim k1 (fun pk k1 => ?_)
    have ek1 := k1.1
    have cs := kcn 0 pk (by rw [ek1]; exact Nat.one_pos) (by rw [ek1]; rfl)
    have zA := (szk pk k1.2.1 k1.2.2).1
    have zA' : (shE (L.map Prod.fst) g pk).size ≤ 1048640 * 2001 := Nat.le_trans zA (Nat.mul_le_mul_left _ (by omega))
    have kr1 := kid_g c2 hx (a := 0) (by rw [ek1]; exact Nat.one_pos) (k := pk) (by rw [ek1]; rfl)
    have kz := kidN'_0 ek1
    have Ep := EX pk k1.2.1 k1.2.2 (by omega)
    have xl : x.kids.length = 1 := by rw [ek1]; rfl
    with_reducible refine Exists.elim kr1 (fun ia kr1 => ?_)
    with_reducible refine Exists.elim kr1 (fun oa kr1 => ?_)
    with_reducible refine Exists.elim kr1 (fun ca kr1 => ?_)
    have ev := kr1.1
    have la := kr1.2.1
    have ra := kr1.2.2
    clear kr1
    rw [Nat.zero_mul, Nat.add_zero] at ra
    subst ev
    simp (maxSteps := 1000000) -implicitDefEqProofs only [push_cast, seval]
    refine WC.draw' (by kernel_rfl) (by kernel_rfl) (.q 0 (.q 1 (.q 2 (.q 3 (.q 4 (.q 5 (.q 6 (.q 7 (.c 8 (.q 9 (.q 10 (.done)))))))))))) (by kernel_rfl) ?_
    simp (maxSteps := 1000000) -implicitDefEqProofs only [push_cast, seval, b1, rd_of b1, rd1_of b1, bp, rd_of bp, rd1_of bp, l2, lp, la, ra, u1, xl]
    repeat (with_reducible refine And.intro ?_ ?_; · (first | omega | decide))
    with_reducible refine CQ.look _ (ShX.look Ep c2) ?_
    simp (maxSteps := 1000000) -implicitDefEqProofs only [push_cast, seval, b1, rd_of b1, rd1_of b1, bp, rd_of bp, rd1_of bp, l2, lp, la, ra, u1, xl]
    repeat (with_reducible refine And.intro (by first | omega | (simp only [ByteArray.size_append]; omega)) ?_)
    refine ⟨?_, kp⟩
    rw [kz]
  rw [if_neg o19] at eS
  simp (maxSteps := 1000000) -implicitDefEqProofs only [push_cast, seval, b1, rd_of b1, rd1_of b1, l2]
  with_reducible refine bcase_d (fun o20 => ?_) (fun o20 => ?_)
  · rw [if_pos o20] at eS
    rw [eS]
    have k2 := ek.b (by omega)
    with_reducible refine Exists.elim k2 (fun pk k2 => ?_)
    with_reducible refine Exists.elim k2 (fun qk k2 => ?_)
    have ek2 := k2.1
    have hp := k2.2.1
    have hq := k2.2.2
    have xl : x.kids.length = 2 := by rw [ek2]; rfl
    have cs0 := kcn 0 pk (by omega) (by rw [ek2]; rfl)
    have cs1 := kcn 1 qk (by omega) (by rw [ek2]; rfl)
    have zA : (shE (L.map Prod.fst) g pk).size ≤ 1048640 * 2001 := Nat.le_trans (szk pk hp.1 hp.2).1 (Nat.mul_le_mul_left _ (by omega))
    have zB := Nat.le_trans ((szk qk hq.1 hq.2).1) (Nat.mul_le_mul_left 1048640 (show cnt (L.map Prod.fst) g qk ≤ 2001 by omega))
    have Ep := EX pk hp.1 hp.2 (by omega)
    have Eq := EX qk hq.1 hq.2 (by omega)
    have kz0 := kidN'_0 ek2
    have kz1 := kidN'_1 ek2
    have ka := kid_g c2 hx (a := 0) (by omega) (k := pk) (by rw [ek2]; rfl)
    have kb := kid_g c2 hx (a := 1) (by omega) (k := qk) (by rw [ek2]; rfl)
    with_reducible refine Exists.elim ka (fun ia ka => ?_)
    with_reducible refine Exists.elim ka (fun oa ka => ?_)
    with_reducible refine Exists.elim ka (fun ca ka => ?_)
    have ev := ka.1
    have la := ka.2.1
    have ra := ka.2.2
    clear ka
    subst ev
    have rb : rd1 h2 ia (oa + 1 * 1) = some (.int .i64 (qk : Nat)) := by
      obtain ⟨a, b, d, e, l, q⟩ := kb
      injection e with e _ _
      injection e with e
      injection e with e1 e2
      subst e1 e2
      exact q
    rw [Nat.zero_mul, Nat.add_zero] at ra
    rw [Nat.one_mul] at rb
    simp (maxSteps := 1000000) -implicitDefEqProofs only [push_cast, seval]
    refine WC.draw' (by kernel_rfl) (by kernel_rfl) (.q 0 (.q 1 (.q 2 (.q 3 (.q 4 (.q 5 (.q 6 (.q 7 (.q 11 (.q 12 (.q 13 (.q 14 (.q 15 (.c 8 (.q 9 (.q 10 (.c 16 (.q 17 (.q 18 (.done)))))))))))))))))))) (by kernel_rfl) ?_
    simp (maxSteps := 1000000) -implicitDefEqProofs only [push_cast, seval, b1, rd_of b1, rd1_of b1, bp, rd_of bp, rd1_of bp, l2, lp, la, ra, u1, xl, rb]
    repeat (with_reducible refine And.intro ?_ ?_; · (first | omega | decide))
    with_reducible refine CQ.look _ (ShX.look Ep c2) ?_
    simp (maxSteps := 1000000) -implicitDefEqProofs only [push_cast, seval, b1, rd_of b1, rd1_of b1, bp, rd_of bp, rd1_of bp, l2, lp, la, ra, u1, xl, rb]
    repeat (with_reducible refine And.intro ?_ ?_; · (first | omega | decide))
    repeat (with_reducible refine And.intro (by first | omega | (simp only [ByteArray.size_append]; omega)) ?_)
    with_reducible refine CQ.look _ (ShX.look Eq c2) ?_
    simp (maxSteps := 1000000) -implicitDefEqProofs only [push_cast, seval, b1, rd_of b1, rd1_of b1, bp, rd_of bp, rd1_of bp, l2, lp, la, ra, u1, xl, rb]
    repeat (with_reducible refine And.intro (by first | omega | (simp only [ByteArray.size_append]; omega)) ?_)
    refine ⟨?_, kp⟩
    rw [kz0, kz1]
  rw [if_neg o20] at eS
  simp (maxSteps := 1000000) -implicitDefEqProofs only [push_cast, seval, b1, rd_of b1, rd1_of b1, l2]
  with_reducible refine bcase_d (fun o21 => ?_) (fun o21 => ?_)
  · rw [if_pos o21] at eS
    rw [eS]
    have k2 := ek.b (by omega)
    with_reducible refine Exists.elim k2 (fun pk k2 => ?_)
    with_reducible refine Exists.elim k2 (fun qk k2 => ?_)
    have ek2 := k2.1
    have hp := k2.2.1
    have hq := k2.2.2
    have xl : x.kids.length = 2 := by rw [ek2]; rfl
    have cs0 := kcn 0 pk (by omega) (by rw [ek2]; rfl)
    have cs1 := kcn 1 qk (by omega) (by rw [ek2]; rfl)
    have zA : (shE (L.map Prod.fst) g pk).size ≤ 1048640 * 2001 := Nat.le_trans (szk pk hp.1 hp.2).1 (Nat.mul_le_mul_left _ (by omega))
    have zB := Nat.le_trans ((szk qk hq.1 hq.2).1) (Nat.mul_le_mul_left 1048640 (show cnt (L.map Prod.fst) g qk ≤ 2001 by omega))
    have Ep := EX pk hp.1 hp.2 (by omega)
    have Eq := EX qk hq.1 hq.2 (by omega)
    have kz0 := kidN'_0 ek2
    have kz1 := kidN'_1 ek2
    have ka := kid_g c2 hx (a := 0) (by omega) (k := pk) (by rw [ek2]; rfl)
    have kb := kid_g c2 hx (a := 1) (by omega) (k := qk) (by rw [ek2]; rfl)
    with_reducible refine Exists.elim ka (fun ia ka => ?_)
    with_reducible refine Exists.elim ka (fun oa ka => ?_)
    with_reducible refine Exists.elim ka (fun ca ka => ?_)
    have ev := ka.1
    have la := ka.2.1
    have ra := ka.2.2
    clear ka
    subst ev
    have rb : rd1 h2 ia (oa + 1 * 1) = some (.int .i64 (qk : Nat)) := by
      obtain ⟨a, b, d, e, l, q⟩ := kb
      injection e with e _ _
      injection e with e
      injection e with e1 e2
      subst e1 e2
      exact q
    rw [Nat.zero_mul, Nat.add_zero] at ra
    rw [Nat.one_mul] at rb
    simp (maxSteps := 1000000) -implicitDefEqProofs only [push_cast, seval]
    refine WC.draw' (by kernel_rfl) (by kernel_rfl) (.q 0 (.q 1 (.q 2 (.q 3 (.q 4 (.q 5 (.q 6 (.q 7 (.q 11 (.q 12 (.q 13 (.q 14 (.q 15 (.c 8 (.q 9 (.q 10 (.c 16 (.q 17 (.q 18 (.done)))))))))))))))))))) (by kernel_rfl) ?_
    simp (maxSteps := 1000000) -implicitDefEqProofs only [push_cast, seval, b1, rd_of b1, rd1_of b1, bp, rd_of bp, rd1_of bp, l2, lp, la, ra, u1, xl, rb]
    repeat (with_reducible refine And.intro ?_ ?_; · (first | omega | decide))
    with_reducible refine CQ.look _ (ShX.look Ep c2) ?_
    simp (maxSteps := 1000000) -implicitDefEqProofs only [push_cast, seval, b1, rd_of b1, rd1_of b1, bp, rd_of bp, rd1_of bp, l2, lp, la, ra, u1, xl, rb]
    repeat (with_reducible refine And.intro ?_ ?_; · (first | omega | decide))
    repeat (with_reducible refine And.intro (by first | omega | (simp only [ByteArray.size_append]; omega)) ?_)
    with_reducible refine CQ.look _ (ShX.look Eq c2) ?_
    simp (maxSteps := 1000000) -implicitDefEqProofs only [push_cast, seval, b1, rd_of b1, rd1_of b1, bp, rd_of bp, rd1_of bp, l2, lp, la, ra, u1, xl, rb]
    repeat (with_reducible refine And.intro (by first | omega | (simp only [ByteArray.size_append]; omega)) ?_)
    refine ⟨?_, kp⟩
    rw [kz0, kz1]
  rw [if_neg o21] at eS
  simp (maxSteps := 1000000) -implicitDefEqProofs only [push_cast, seval, b1, rd_of b1, rd1_of b1, l2]
  with_reducible refine bcase_d (fun o22 => ?_) (fun o22 => ?_)
  · rw [if_pos o22] at eS
    rw [eS]
    have kq := sk.c o22
    with_reducible refine Exists.elim kq (fun pk kq => ?_)
    with_reducible refine Exists.elim kq (fun qk kq => ?_)
    have hp := kq.1
    have hq := kq.2.1
    have hk2 := kq.2.2
    clear kq
    with_reducible refine Or.elim hk2 (fun ek2 => ?_) (fun hk3 => ?_)
    · have xl : x.kids.length = 2 := by rw [ek2]; rfl
      have cs0 := kcn 0 pk (by omega) (by rw [ek2]; rfl)
      have cs1 := kcn 1 qk (by omega) (by rw [ek2]; rfl)
      have zA : (shE (L.map Prod.fst) g pk).size ≤ 1048640 * 2001 := Nat.le_trans (szk pk hp.1 hp.2).1 (Nat.mul_le_mul_left _ (by omega))
      have zB := Nat.le_trans (szs qk hq.1 hq.2) (Nat.mul_le_mul_left 1048640 (show cnt (L.map Prod.fst) g qk ≤ 2001 by omega))
      have Ep := EX pk hp.1 hp.2 (by omega)
      have Eq := ihg qk hq.1 hq.2 (by omega)
      have kz0 := kidN'_0 ek2
      have kz1 := kidN'_1 ek2
      have ka := kid_g c2 hx (a := 0) (by omega) (k := pk) (by rw [ek2]; rfl)
      have kb := kid_g c2 hx (a := 1) (by omega) (k := qk) (by rw [ek2]; rfl)
      with_reducible refine Exists.elim ka (fun ia ka => ?_)
      with_reducible refine Exists.elim ka (fun oa ka => ?_)
      with_reducible refine Exists.elim ka (fun ca ka => ?_)
      have ev := ka.1
      have la := ka.2.1
      have ra := ka.2.2
      clear ka
      subst ev
      have rb : rd1 h2 ia (oa + 1 * 1) = some (.int .i64 (qk : Nat)) := by
        obtain ⟨a, b, d, e, l, q⟩ := kb
        injection e with e _ _
        injection e with e
        injection e with e1 e2
        subst e1 e2
        exact q
      rw [Nat.zero_mul, Nat.add_zero] at ra
      rw [Nat.one_mul] at rb
      simp (maxSteps := 1000000) -implicitDefEqProofs only [push_cast, seval]
      refine WC.draw' (by kernel_rfl) (by kernel_rfl) (.q 0 (.q 1 (.q 2 (.q 3 (.q 4 (.q 8 (.q 9 (.q 10 (.q 11 (.q 12 (.c 5 (.q 6 (.q 7 (.c 13 (.q 14 (.q 15 (.done))))))))))))))))) (by kernel_rfl) ?_
      simp (maxSteps := 1000000) -implicitDefEqProofs only [push_cast, seval, b1, rd_of b1, rd1_of b1, bp, rd_of bp, rd1_of bp, l2, lp, la, ra, u1, xl, rb]
      repeat (with_reducible refine And.intro ?_ ?_; · (first | omega | decide))
      with_reducible refine CQ.look _ (ShX.look Ep c2) ?_
      simp (maxSteps := 1000000) -implicitDefEqProofs only [push_cast, seval, b1, rd_of b1, rd1_of b1, bp, rd_of bp, rd1_of bp, l2, lp, la, ra, u1, xl, rb]
      repeat (with_reducible refine And.intro ?_ ?_; · (first | omega | decide))
      repeat (with_reducible refine And.intro (by first | omega | (simp only [ByteArray.size_append]; omega)) ?_)
      with_reducible refine CQ.look _ (ShX.look Eq c2) ?_
      simp (maxSteps := 1000000) -implicitDefEqProofs only [push_cast, seval, b1, rd_of b1, rd1_of b1, bp, rd_of bp, rd1_of bp, l2, lp, la, ra, u1, xl, rb]
      repeat (with_reducible refine And.intro (by first | omega | (simp only [ByteArray.size_append]; omega)) ?_)
      refine ⟨?_, kp⟩
      rw [kz0, kz1]
    · with_reducible refine Exists.elim hk3 (fun rk hk3 => ?_)
      have ek2 := hk3.1
      have hr := hk3.2
      have xl : x.kids.length = 3 := by rw [ek2]; rfl
      have cs2 := kcn 2 rk (by omega) (by rw [ek2]; rfl)
      have zC := Nat.le_trans (szs rk hr.1 hr.2) (Nat.mul_le_mul_left 1048640 (show cnt (L.map Prod.fst) g rk ≤ 2001 by omega))
      have Er := ihg rk hr.1 hr.2 (by omega)
      have kz2 : kidN' x 2 = rk := by unfold kidN'; rw [ek2]; rfl
      have cs0 := kcn 0 pk (by omega) (by rw [ek2]; rfl)
      have cs1 := kcn 1 qk (by omega) (by rw [ek2]; rfl)
      have zA : (shE (L.map Prod.fst) g pk).size ≤ 1048640 * 2001 := Nat.le_trans (szk pk hp.1 hp.2).1 (Nat.mul_le_mul_left _ (by omega))
      have zB := Nat.le_trans (szs qk hq.1 hq.2) (Nat.mul_le_mul_left 1048640 (show cnt (L.map Prod.fst) g qk ≤ 2001 by omega))
      have Ep := EX pk hp.1 hp.2 (by omega)
      have Eq := ihg qk hq.1 hq.2 (by omega)
      have kz0 := kidN'_0 ek2
      have kz1 := kidN'_1 ek2
      have ka := kid_g c2 hx (a := 0) (by omega) (k := pk) (by rw [ek2]; rfl)
      have kb := kid_g c2 hx (a := 1) (by omega) (k := qk) (by rw [ek2]; rfl)
      have kc := kid_g c2 hx (a := 2) (by omega) (k := rk) (by rw [ek2]; rfl)
      with_reducible refine Exists.elim ka (fun ia ka => ?_)
      with_reducible refine Exists.elim ka (fun oa ka => ?_)
      with_reducible refine Exists.elim ka (fun ca ka => ?_)
      have ev := ka.1
      have la := ka.2.1
      have ra := ka.2.2
      clear ka
      subst ev
      have rb : rd1 h2 ia (oa + 1 * 1) = some (.int .i64 (qk : Nat)) := by
        obtain ⟨a, b, d, e, l, q⟩ := kb
        injection e with e _ _
        injection e with e
        injection e with e1 e2
        subst e1 e2
        exact q
      have rc : rd1 h2 ia (oa + 2 * 1) = some (.int .i64 (rk : Nat)) := by
        obtain ⟨a, b, d, e, l, q⟩ := kc
        injection e with e _ _
        injection e with e
        injection e with e1 e2
        subst e1 e2
        exact q
      rw [Nat.mul_one] at rc
      rw [Nat.zero_mul, Nat.add_zero] at ra
      rw [Nat.one_mul] at rb
      simp (maxSteps := 1000000) -implicitDefEqProofs only [push_cast, seval]
      refine WC.draw' (by kernel_rfl) (by kernel_rfl) (.q 0 (.q 1 (.q 2 (.q 3 (.q 4 (.q 8 (.q 9 (.q 10 (.q 11 (.q 12 (.c 5 (.q 6 (.q 7 (.c 13 (.q 14 (.q 15 (.done))))))))))))))))) (by kernel_rfl) ?_
      simp (maxSteps := 1000000) -implicitDefEqProofs only [push_cast, seval, b1, rd_of b1, rd1_of b1, bp, rd_of bp, rd1_of bp, l2, lp, la, ra, u1, xl, rb]
      repeat (with_reducible refine And.intro ?_ ?_; · (first | omega | decide))
      with_reducible refine CQ.look _ (ShX.look Ep c2) ?_
      simp (maxSteps := 1000000) -implicitDefEqProofs only [push_cast, seval, b1, rd_of b1, rd1_of b1, bp, rd_of bp, rd1_of bp, l2, lp, la, ra, u1, xl, rb]
      repeat (with_reducible refine And.intro ?_ ?_; · (first | omega | decide))
      repeat (with_reducible refine And.intro (by first | omega | (simp only [ByteArray.size_append]; omega)) ?_)
      with_reducible refine CQ.look _ (ShX.look Eq c2) ?_
      simp (maxSteps := 1000000) -implicitDefEqProofs only [push_cast, seval, b1, rd_of b1, rd1_of b1, bp, rd_of bp, rd1_of bp, l2, lp, la, ra, u1, xl, rb]
      repeat (with_reducible refine And.intro (by first | omega | (simp only [ByteArray.size_append]; omega)) ?_)
      simp (maxSteps := 1000000) -implicitDefEqProofs only [push_cast, seval, b1, rd_of b1, rd1_of b1, bp, rd_of bp, rd1_of bp, l2, lp, la, ra, u1, xl, rb]
      refine WC.draw' (by kernel_rfl) (by kernel_rfl) (.q 0 (.q 1 (.q 2 (.q 3 (.q 4 (.q 5 (.q 6 (.c 7 (.q 8 (.q 9 (.done))))))))))) (by kernel_rfl) ?_
      simp (maxSteps := 1000000) -implicitDefEqProofs only [push_cast, seval, b1, rd_of b1, rd1_of b1, bp, rd_of bp, rd1_of bp, l2, lp, la, ra, u1, xl, rb, rc]
      repeat (with_reducible refine And.intro ?_ ?_; · (first | omega | decide))
      repeat (with_reducible refine And.intro (by first | omega | (simp only [ByteArray.size_append]; omega)) ?_)
      with_reducible refine CQ.look _ (ShX.look Er c2) ?_
      simp (maxSteps := 1000000) -implicitDefEqProofs only [push_cast, seval, b1, rd_of b1, rd1_of b1, bp, rd_of bp, rd1_of bp, l2, lp, la, ra, u1, xl, rb, rc]
      repeat (with_reducible refine And.intro (by first | omega | (simp only [ByteArray.size_append]; omega)) ?_)
      refine ⟨?_, kp⟩
      rw [kz0, kz1, kz2, ← ba_assoc]
  rw [if_neg o22] at eS
  simp (maxSteps := 1000000) -implicitDefEqProofs only [push_cast, seval, b1, rd_of b1, rd1_of b1, l2]
  with_reducible refine bcase_d (fun o23 => ?_) (fun o23 => ?_)
  · rw [if_pos o23] at eS
    rw [eS]
    simp (maxSteps := 1000000) -implicitDefEqProofs only [push_cast, seval, b1, rd_of b1, rd1_of b1, l2]
    exact kp
  rw [if_neg o23] at eS
  simp (maxSteps := 1000000) -implicitDefEqProofs only [push_cast, seval, b1, rd_of b1, rd1_of b1, l2]
  with_reducible refine bcase_d (fun o25 => ?_) (fun o25 => ?_)
  · rw [if_pos o25] at eS
    rw [eS]
    simp (maxSteps := 1000000) -implicitDefEqProofs only [push_cast, seval, b1, rd_of b1, rd1_of b1, l2]
    repeat (with_reducible refine And.intro (by first | omega | (simp only [ByteArray.size_append]; omega)) ?_)
    exact kp
  rw [if_neg o25] at eS
  have o24 : x.op = 24 := by omega
  rw [eS]
  have kr := (c2.kids _ hx).rde (fun _ => rfl)
  with_reducible refine Exists.elim kr (fun Ak kr => ?_)
  with_reducible refine Exists.elim kr (fun ck kr => ?_)
  have ekv : kv = .slice Ak x.kids.length ck := kr.1
  clear kr
  subst ekv
  have sp := sk.b o24
  have spl := sp.1
  have l125 : (ByteArray.mk #[125]).size = 1 := rfl
  simp (maxSteps := 1000000) -implicitDefEqProofs only [push_cast, seval, b1, rd_of b1, rd1_of b1, l2, u1]
  refine WC.loopA (by kernel_rfl) [9, 10] [143, 144, 145, 146, 147, 148, 149, 150, 151, 152, 153, 154, 155, 156, 157, 158, 159, 160, 161, 162] (fun a : Nat × ByteArray => [.string a.2, .int .i64 (a.1 : Nat)]) (fun a h' => a.1 ≤ x.kids.length ∧ a.2 = (⟨#[123, 32]⟩ : ByteArray) ++ jB (⟨#[59, 32]⟩ : ByteArray) ((x.kids.take a.1).map fun a => shS (L.map Prod.fst) g a.toNat) ∧ a.2.size ≤ 6 + a.1 * 2098328700 ∧ Pre h2 h') (fun a => x.kids.length - a.1) (0, (⟨#[123, 32]⟩ : ByteArray)) (by kernel_rfl) ⟨Nat.zero_le _, by show (⟨#[123, 32]⟩ : ByteArray) = (⟨#[123, 32]⟩ : ByteArray) ++ jB (⟨#[59, 32]⟩ : ByteArray) []; rw [jB_nil, ba_nil], by show ((⟨#[123, 32]⟩ : ByteArray)).size ≤ _; omega, Pre.refl _⟩ ?_
  intro a gg h3 hJ
  obtain ⟨i, t⟩ := a
  have hi := hJ.1
  have eT := hJ.2.1
  have zT := hJ.2.2.1
  have p3 := hJ.2.2.2
  clear hJ
  simp only at hi eT zT
  have b3 := (p3.ob _ l2).trans b1
  have bp3 := (p3.ob _ lp).trans bp
  have l3 : h.n + 1 < h3.n := Nat.lt_of_lt_of_le l2 p3.n
  have lp3 : h.n < h3.n := Nat.lt_of_lt_of_le lp p3.n
  have c3 := c2.pre p3
  simp (maxSteps := 1000000) -implicitDefEqProofs only [push_cast, seval, b3, rd_of b3, rd1_of b3, l3, u1]
  with_reducible refine bcase_d (fun hb => ?_) (fun hb => ?_)
  rotate_left
  · have ei : i = x.kids.length := by omega
    rw [ei, List.take_length] at eT
    have kp3 : Keep h.n h h3 := (p0.trans p3).keep
    simp (maxSteps := 1000000) -implicitDefEqProofs only [push_cast, seval, b3, rd_of b3, rd1_of b3, l3, u1]
    with_reducible refine bcase_d (fun hz => ?_) (fun hz => ?_)
    · simp (maxSteps := 1000000) -implicitDefEqProofs only [push_cast, seval]
      repeat (with_reducible refine And.intro (by first | omega | (simp only [ByteArray.size_append]; omega)) ?_)

      refine ⟨?_, kp3⟩
      rw [if_neg (fun e => by rw [e] at hz; exact absurd hz (by decide)), ← eT, ba_assoc]
      rfl
    · simp (maxSteps := 1000000) -implicitDefEqProofs only [push_cast, seval]
      repeat (with_reducible refine And.intro (by first | omega | (simp only [ByteArray.size_append]; omega)) ?_)

      refine ⟨?_, kp3⟩
      have e0 : x.kids = [] := List.eq_nil_of_length_eq_zero (by omega)
      rw [if_pos e0, eT, e0]
      rfl
  have hi' : i < x.kids.length := by omega
  have kk := sp.2 i hi'
  with_reducible refine Exists.elim kk (fun j kk => ?_)
  have ej := kk.1
  have lj := kk.2.1
  have cj := kcn i j hi' ej
  have fs := strs_succ (F := shS (L.map Prod.fst) g) hi' ej
  have Ej := ihg j lj kk.2.2 (by omega)
  have zj : (shS (L.map Prod.fst) g j).size ≤ 2098328640 := Nat.le_trans (szs j lj kk.2.2) (Nat.le_trans (Nat.mul_le_mul_left 1048640 (show cnt (L.map Prod.fst) g j ≤ 2001 by omega)) (by omega))
  have z0 := kid_g c3 hx hi' ej
  with_reducible refine Exists.elim z0 (fun id z0 => ?_)
  with_reducible refine Exists.elim z0 (fun off z0 => ?_)
  with_reducible refine Exists.elim z0 (fun q z0 => ?_)
  have ekv := z0.1
  injection ekv with ekv _ _
  subst ekv
  have lid := z0.2.1
  have rk := z0.2.2
  clear z0
  simp (maxSteps := 1000000) -implicitDefEqProofs only [push_cast, seval, b3, rd_of b3, rd1_of b3, l3, u1]
  with_reducible refine bcase_d (fun h0 => ?_) (fun h0 => ?_)
  · have ne : ((x.kids.take i).map fun a => shS (L.map Prod.fst) g a.toNat) ≠ [] := fun e => by
      have := congrArg List.length e
      rw [List.length_map, List.length_take, List.length_nil] at this
      omega
    simp (maxSteps := 1000000) -implicitDefEqProofs only [push_cast, seval]
    repeat (with_reducible refine And.intro (by first | omega | (simp only [ByteArray.size_append]; omega)) ?_)
    refine WC.draw' (by kernel_rfl) (by kernel_rfl) (.q 0 (.q 1 (.q 2 (.q 3 (.q 4 (.q 5 (.q 6 (.c 7 (.q 8 (.q 9 (.done))))))))))) (by kernel_rfl) ?_
    simp (maxSteps := 1000000) -implicitDefEqProofs only [push_cast, seval, b3, rd_of b3, rd1_of b3, bp3, rd_of bp3, rd1_of bp3, l3, lp3, rk, lid, u1]
    repeat (with_reducible refine And.intro ?_ ?_; · (first | omega | decide))
    with_reducible refine CQ.look _ (ShX.look Ej c3) ?_
    simp (maxSteps := 1000000) -implicitDefEqProofs only [push_cast, seval, b3, rd_of b3, rd1_of b3, bp3, rd_of bp3, rd1_of bp3, l3, lp3, rk, lid, u1]
    repeat (with_reducible refine And.intro (by first | omega | (simp only [ByteArray.size_append]; omega)) ?_)
    rw [wrapSucc (by omega)]
    refine ⟨(i + 1, t ++ (⟨#[59, 32]⟩ : ByteArray) ++ shS (L.map Prod.fst) g j), by kernel_rfl, ⟨by show i + 1 ≤ _; omega, by show t ++ _ ++ _ = _; rw [fs, eT]; exact jB_step _ _ _ _ ne, by show (t ++ _ ++ _).size ≤ 6 + (i + 1) * _; simp only [ByteArray.size_append]; omega, p3⟩, by show _ - (i + 1) < _ - i; omega⟩
  · have i0 : i = 0 := by omega
    simp (maxSteps := 1000000) -implicitDefEqProofs only [push_cast, seval]
    refine WC.draw' (by kernel_rfl) (by kernel_rfl) (.q 0 (.q 1 (.q 2 (.q 3 (.q 4 (.q 5 (.q 6 (.c 7 (.q 8 (.q 9 (.done))))))))))) (by kernel_rfl) ?_
    simp (maxSteps := 1000000) -implicitDefEqProofs only [push_cast, seval, b3, rd_of b3, rd1_of b3, bp3, rd_of bp3, rd1_of bp3, l3, lp3, rk, lid, u1]
    repeat (with_reducible refine And.intro ?_ ?_; · (first | omega | decide))
    with_reducible refine CQ.look _ (ShX.look Ej c3) ?_
    simp (maxSteps := 1000000) -implicitDefEqProofs only [push_cast, seval, b3, rd_of b3, rd1_of b3, bp3, rd_of bp3, rd1_of bp3, l3, lp3, rk, lid, u1]
    repeat (with_reducible refine And.intro (by first | omega | (simp only [ByteArray.size_append]; omega)) ?_)
    rw [wrapSucc (by omega)]
    refine ⟨(i + 1, t ++ shS (L.map Prod.fst) g j), by kernel_rfl, ⟨by show i + 1 ≤ _; omega, by show t ++ _ = _; rw [fs, eT, i0]; exact jB_step0 _ _ _, by show (t ++ _).size ≤ 6 + (i + 1) * _; simp only [ByteArray.size_append]; omega, p3⟩, by show _ - (i + 1) < _ - i; omega⟩
end Go.Proofs.YtdlpdfclljnmhaaGreat
