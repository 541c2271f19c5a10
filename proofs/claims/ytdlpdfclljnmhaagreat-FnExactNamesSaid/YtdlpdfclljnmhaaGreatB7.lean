/- Parts of the proof of the row: the ground, contracts of the functions that it reaches (M5, M6, M8, M9). Conditions: those that each theorem names. -/
import Derived.Test.YtdlpdfclljnmhaaGreatB6
namespace Go.Proofs.YtdlpdfclljnmhaaGreat
open Go Go.Sim Go.Proofs
set_option linter.unusedSimpArgs false
set_option linter.unusedVariables false
set_option maxRecDepth 100000
set_option maxHeartbeats 1000000
theorem rdS {h : AH} {v : Value} {l : List ByteArray} (r : RdV h v 1 encTx l) {i : Nat} (hi : i < l.length) {A : Option Addr} {n c : Nat} (e : v = .slice A n c) : ∃ id off, A = some ⟨id, off, none⟩ ∧ id < h.n ∧ rd1 h id (off + i * 1) = some (.string l[i]) := by
  subst e
  rcases r with ⟨c, e, e2⟩ | ⟨id, off, c, e, q, hlt⟩
  · subst e2; simp at hi
  · injection e with e1 e2 e3
    refine ⟨id, off, e1, hlt, ?_⟩
    exact rd_1 (chunk_of (enc := encTx) (n := 0) (fun x _ => rfl) q hi)
theorem l11In_c (l : List ByteArray) (v : Value) (s : ByteArray) (h : AH) (r : RdV h v 1 encTx l) (hl : l.length ≤ 1048576) :
    CD Tryz.prog 40 [v, .string s] h (.bool (l.any (fun t => decide (t = s)))) h := by
  refine CD.withBig (fun big => ?_)
  refine CD.quiet ?_ (low_bool _ _)
  obtain ⟨A, c, rfl, hR⟩ := r.rde (fun _ => rfl)
  refine CC.ofN Tryz.func40 Tryz.ntmps40 Tryz.results40 rfl (by decide) (by kernel_rfl) ?_
  simp (maxSteps := 1000000) -implicitDefEqProofs only [push_cast, seval]
  refine WC.loopA (by kernel_rfl) [5] [4, 6, 7, 8, 9, 10, 11, 12, 13, 14, 15, 16, 17] (fun i : Nat => [.int .i64 i]) (fun i h' => (i ≤ l.length ∧ ∀ j (hj : j < l.length), j < i → l[j] ≠ s) ∧ Pre h h') (fun i => l.length - i) 0 (by kernel_rfl) ⟨⟨Nat.zero_le _, fun j hj h0 => by omega⟩, Pre.refl _⟩ ?_
  intro i g h1 hJ
  have hi := hJ.1.1
  have hj := hJ.1.2
  have p1 := hJ.2
  clear hJ
  simp (maxSteps := 1000000) -implicitDefEqProofs only [push_cast, seval]
  with_reducible refine bcase_d (fun hb => ?_) (fun hb => ?_)
  · have hi' : i < l.length := by omega
    have hno : l[i] ≠ s → ∀ j (hj : j < l.length), j < i + 1 → l[j] ≠ s := fun e j hj1 hj2 => by
      by_cases e2 : j = i
      · subst e2; exact e
      · exact hj j hj1 (by omega)
    have hyes : l[i] = s → l.any (fun t => decide (t = s)) = true := fun e => List.any_eq_true.2 ⟨_, List.getElem_mem hi', by simp [e]⟩
    with_reducible refine hR.use big p1 hi' (fun id off eA hlt hr => ?_)
    subst eA
    generalize l[i] = T at *
    simp only [encTx, Nat.mul_one] at hr
    have r0 := rd_1 hr
    simp (maxSteps := 1000000) -implicitDefEqProofs only [push_cast, seval, hr, r0, hlt, Nat.mul_one]
    repeat (with_reducible refine And.intro ?_ ?_; · (first | omega | decide))
    with_reducible refine bcase_d (fun hT => ?_) (fun hT => ?_)
    · simp (maxSteps := 1000000) -implicitDefEqProofs only [push_cast, seval]
      rw [hyes hT]
      exact ⟨rfl, p1.keep⟩
    · simp (maxSteps := 1000000) -implicitDefEqProofs only [push_cast, seval]
      rw [wrapSucc (by omega)]
      exact ⟨i + 1, by kernel_rfl, ⟨⟨by omega, hno (fun e => hT e)⟩, p1⟩, by omega⟩
  have ei : i = l.length := by omega
  subst ei
  simp (maxSteps := 1000000) -implicitDefEqProofs only [push_cast, seval]
  have : l.any (fun t => decide (t = s)) = false := List.any_eq_false.2 (fun x hx => by
    obtain ⟨j, hj1, rfl⟩ := List.getElem_of_mem hx
    simpa using hj j hj1 hj1)
  rw [this]
  exact ⟨rfl, p1.keep⟩
theorem Names_s (L : List (Nd × Value)) (R : List Ru) (vN vR : Value) (h : AH) (w : RdG h vN vR L R) (hz : SzG L R) :
    CC Tryz.prog 14 [.agg #[vN, vR]] h (fun v h' => ∃ ns, RdV h' v 1 encTx ns ∧ (programOk ⟨L.map Prod.fst, R⟩ = true → NmOk (nmAt (L.map Prod.fst) (reach (L.map Prod.fst) R) L.length) ns) ∧ (programOk ⟨L.map Prod.fst, R⟩ = false → ns = []) ∧ Pre h h' ∧ ∀ i, atBlock v i → h.n ≤ i) := by
  refine CC.withBig (fun big => ?_)
  have w0 := w
  obtain ⟨B, d, rfl, hN⟩ := w.nodes.rde encD_len
  obtain ⟨C, c, rfl, hR⟩ := w.rules.rde (fun _ => rfl)
  have p0 : Pre h ((h.alloc (.cells [.slice B L.length d, .slice C R.length c] .solo h.n)).alloc (.cells [] .solo (h.n + 1))) := ((Pre.refl h).alloc _).alloc _
  have c0 : ((h.alloc (.cells [.slice B L.length d, .slice C R.length c] .solo h.n)).alloc (.cells [] .solo (h.n + 1))).ob h.n = .cells [.slice B L.length d, .slice C R.length c] .solo h.n := (by (try simp (maxSteps := 1000000) -implicitDefEqProofs only [push_cast, seval, rdOb]); try rfl)
  have g0 : RdV ((h.alloc (.cells [.slice B L.length d, .slice C R.length c] .solo h.n)).alloc (.cells [] .solo (h.n + 1))) (.slice (some ⟨h.n + 1, 0, none⟩) 0 1) 1 encTx [] := (Gr.new (n0 := 0) (h := h.alloc (.cells [.slice B L.length d, .slice C R.length c] .solo h.n)) (by omega) [] 0 1 rfl).rdv (by decide) (fun _ => rfl)
  have n0 : ((h.alloc (.cells [.slice B L.length d, .slice C R.length c] .solo h.n)).alloc (.cells [] .solo (h.n + 1))).n = h.n + 2 := rfl
  refine CC.ofN Tryz.func14 Tryz.ntmps14 Tryz.results14 rfl (by decide) (by kernel_rfl) ?_
  simp (maxSteps := 1000000) -implicitDefEqProofs only [push_cast, seval]
  generalize ((h.alloc (.cells [.slice B L.length d, .slice C R.length c] .solo h.n)).alloc (.cells [] .solo (h.n + 1))) = h1 at *
  with_reducible refine CD.to (ProgramOk_s L R _ _ h1 (w0.pre p0) hz) ?_
  have l1 : h.n < h1.n := by omega
  cases hok : programOk ⟨L.map Prod.fst, R⟩
  · simp (maxSteps := 1000000) -implicitDefEqProofs only [push_cast, seval]
    exact ⟨[], g0, fun e => by simp at e, fun _ => rfl, p0, fun i e => by have : h.n + 1 = i := e; omega⟩
  have ok := OkG.of hok
  have zn := ok.n
  simp (maxSteps := 1000000) -implicitDefEqProofs only [push_cast, seval, c0, rd_of c0, rd1_of c0, l1]
  with_reducible refine CC.mono (l11Reach_c L R _ _ h1 (w0.pre p0) ok) (fun v h2 hv => ?_)
  have rv := hv.1
  have p2 := hv.2
  clear hv
  have g2 := g0.pre p2
  have c2 := (p2.ob _ l1).trans c0
  have l2 : h.n < h2.n := Nat.lt_of_lt_of_le l1 p2.n
  have q2 := p0.trans p2
  have n2 := p2.n
  have u1 := rv.one
  have hzt : ∀ x ∈ L, x.1.text.size ≤ 1048576 := fun x hx => hz.text x hx
  have hz0 : ∀ t, ¬ nmAt (L.map Prod.fst) (reach (L.map Prod.fst) R) 0 t := fun t e => by obtain ⟨j, hj, _⟩ := e; omega
  generalize hF : reach (L.map Prod.fst) R = F at *
  clear p0 p2 g0 c0 l1 hF
  have k0 : NmOk (nmAt (L.map Prod.fst) F 0) [] := NmOk.nil.to (fun t => ⟨fun e => e.elim, fun e => absurd e (hz0 t)⟩)
  simp (maxSteps := 1000000) -implicitDefEqProofs only [push_cast, seval]
  refine WC.loopA (by kernel_rfl) [3, 5] [6, 7, 8, 9, 17, 18, 19, 20, 21, 22, 23, 24, 25, 26, 27, 28, 29, 30, 31, 32, 33, 34, 35, 36, 37, 38, 39, 40, 41, 42, 43, 44, 45, 46, 47, 48, 49, 50, 51, 52, 53, 54, 55, 56, 57, 58, 59, 60, 61, 62, 63, 64, 65, 66, 67, 68, 69, 70, 71, 72, 73, 74, 75, 76, 77, 78, 79, 80, 81, 82, 83, 84, 85, 86, 87, 88, 89, 90, 91, 92, 93, 94, 95, 96] (fun a : Value × List ByteArray × Nat => [a.1, .int .i64 (a.2.2 : Nat)]) (fun a h' => (a.2.2 ≤ L.length ∧ NmOk (nmAt (L.map Prod.fst) F a.2.2) a.2.1 ∧ RdV h' a.1 1 encTx a.2.1) ∧ (∀ i, atBlock a.1 i → h.n ≤ i) ∧ Pre h2 h') (fun a => L.length - a.2.2) (.slice (some ⟨h.n + 1, 0, none⟩) 0 1, [], 0) (by kernel_rfl) ⟨⟨Nat.zero_le _, k0, g2⟩, fun i hi => by have e : h.n + 1 = i := hi; omega, Pre.refl _⟩ ?_
  intro a g h3 hJ
  have hi := hJ.1.1
  have k3 := hJ.1.2.1
  have g3 := hJ.1.2.2
  have d3 := hJ.2.1
  have p3 := hJ.2.2
  clear hJ
  have l3 : h.n < h3.n := Nat.lt_of_lt_of_le l2 p3.n
  have c3 := (p3.ob _ l2).trans c2
  have r3 := rv.pre p3
  have hcnt := k3.cnt
  simp (maxSteps := 1000000) -implicitDefEqProofs only [push_cast, seval, c3, rd_of c3, rd1_of c3, l3]
  with_reducible refine bcase_d (fun hb => ?_) (fun hb => ?_)
  · have hi' : a.2.2 < L.length := by omega
    with_reducible refine hN.use big (q2.trans p3) hi' (fun id off eA hlt hr => ?_)
    subst eA
    have hnd := nd_eq hi'
    have kone := (w0.kids _ (List.getElem_mem hi')).one
    simp only [encD] at hr
    generalize L[a.2.2] = X at *
    have r30 := (rd_3 hr).1
    have r31 := (rd_3 hr).2.1
    have r32 := (rd_3 hr).2.2
    simp (maxSteps := 1000000) -implicitDefEqProofs only [push_cast, seval, c3, rd_of c3, rd1_of c3, l3, hr, r30, r31, r32, hlt, kone]
    repeat (with_reducible refine And.intro ?_ ?_; · (first | omega | decide))
    have pp : Pre h3 ((h3.alloc (.cells [.int .i64 0, .string ⟨#[]⟩, .slice none 0 0] .solo h3.n)).set h3.n (.cells [.int .i64 X.1.op, .string X.1.text, X.2] .solo h3.n)) := ((Pre.refl h3).alloc _).set (Nat.le_refl _) _
    have e4 : ((h3.alloc (.cells [.int .i64 0, .string ⟨#[]⟩, .slice none 0 0] .solo h3.n)).set h3.n (.cells [.int .i64 X.1.op, .string X.1.text, X.2] .solo h3.n)).ob h3.n = _ := set_same _ _
    have k4 : ((h3.alloc (.cells [.int .i64 0, .string ⟨#[]⟩, .slice none 0 0] .solo h3.n)).set h3.n (.cells [.int .i64 X.1.op, .string X.1.text, X.2] .solo h3.n)).n = h3.n + 1 := rfl
    generalize ((h3.alloc (.cells [.int .i64 0, .string ⟨#[]⟩, .slice none 0 0] .solo h3.n)).set h3.n (.cells [.int .i64 X.1.op, .string X.1.text, X.2] .solo h3.n)) = h4 at *
    have l4 : h3.n < h4.n := by omega
    have r4 := r3.pre pp
    have p4 := p3.trans pp
    have g4 := g3.pre pp
    have hsu := nmAt_succ (L.map Prod.fst) F a.2.2
    rw [hnd] at hsu
    with_reducible refine Exists.elim (rdB r4 hi') (fun vi hv => ?_)
    with_reducible refine Exists.elim hv (fun vo hv => ?_)
    with_reducible refine Exists.elim hv (fun vc hv => ?_)
    have ev := hv.1
    have vlt := hv.2.1
    have vrd := hv.2.2
    clear hv
    subst ev
    simp (maxSteps := 1000000) -implicitDefEqProofs only [push_cast, seval, e4, rd_of e4, rd1_of e4, l4, vrd, vlt]
    repeat (with_reducible refine And.intro ?_ ?_; · (first | omega | decide))
    have kf := g4.rde (fun _ => rfl)
    with_reducible refine Exists.elim kf (fun A kf => ?_)
    with_reducible refine Exists.elim kf (fun cA kf => ?_)
    have eA := kf.1
    clear kf
    have g4b : RdV h4 (.slice A a.2.1.length cA) 1 encTx a.2.1 := by rw [← eA]; exact g4
    have d3b : ∀ i, atBlock (.slice A a.2.1.length cA) i → h.n ≤ i := by rw [← eA]; exact d3
    cases hFa : F a.2.2
    · rw [hFa] at hsu
      simp (maxSteps := 1000000) -implicitDefEqProofs only [push_cast, seval]
      rw [wrapSucc (by omega)]
      refine ⟨(a.1, a.2.1, a.2.2 + 1), by kernel_rfl, ⟨⟨by show a.2.2 + 1 ≤ _; omega, k3.to (fun t => ?_), g4⟩, d3, p4⟩, by show L.length - (a.2.2 + 1) < _; omega⟩
      rw [hsu]
      simp
    · rw [hFa] at hsu
      simp (maxSteps := 1000000) -implicitDefEqProofs only [push_cast, seval, e4, rd_of e4, rd1_of e4, l4]
      with_reducible refine bcase_mk (fun hq => ?_) (fun hp => ?_)
      · have hput : isPut X.1.op = true := by simp at hq; simp [isPut, hq]
        simp (maxSteps := 1000000) -implicitDefEqProofs only [push_cast, seval, e4, rd_of e4, rd1_of e4, l4, eA]
        have hIn := l11In_c a.2.1 a.1 X.1.text h4 g4 (by omega)
        rw [eA] at hIn
        with_reducible refine CD.to hIn ?_
        have hnot0 : a.2.1.any (fun t => decide (t = X.1.text)) = false → X.1.text ∉ a.2.1 := fun hin e => by rw [List.any_eq_false] at hin; exact hin _ e (by simp)
        have hin0 := k3.any X.1.text
        generalize a.2.1.any (fun t => decide (t = X.1.text)) = hin at *
        cases hin
        · have hnot := hnot0 rfl
          clear hIn
          simp (maxSteps := 1000000) -implicitDefEqProofs only [push_cast, seval, e4, rd_of e4, rd1_of e4, l4]
          have p5 : Pre h4 (h4.alloc (.cells [] .solo h4.n)) := (Pre.refl _).alloc _
          have g5 : Gr h4.n (h4.alloc (.cells [] .solo h4.n)) (.slice (some ⟨h4.n, 0, none⟩) 0 1) 1 [] := Gr.new (Nat.le_refl _) [] 0 1 rfl
          generalize (h4.alloc (.cells [] .solo h4.n)) = h5 at *
          refine WC.loopA (by kernel_rfl) [7, 8] [51, 52, 53, 54, 55, 56, 57, 58, 59, 60, 61, 62, 63, 64, 65, 66, 67, 68, 69, 70] (fun b : Value × Nat => [b.1, .int .i64 (b.2 : Nat)]) (fun b h' => (b.2 ≤ a.2.1.length ∧ Gr h4.n h' b.1 1 (((a.2.1.take b.2).filter (fun u => ltB u X.1.text)).map encTx).flatten) ∧ Pre h4 h') (fun b => a.2.1.length - b.2) (.slice (some ⟨h4.n, 0, none⟩) 0 1, 0) (by kernel_rfl) ⟨⟨Nat.zero_le _, g5⟩, p5⟩ ?_
          intro b gb h6 hJ
          have bi := hJ.1.1
          have b6 := hJ.1.2
          have p6 := hJ.2
          clear hJ
          have e6 := (p6.ob _ l4).trans e4
          have l6 : h3.n < h6.n := Nat.lt_of_lt_of_le l4 p6.n
          simp (maxSteps := 1000000) -implicitDefEqProofs only [push_cast, seval]
          with_reducible refine bcase_d (fun hb2 => ?_) (fun hb2 => ?_)
          · have hk' : b.2 < a.2.1.length := by omega
            have hfn := filter_next (fun u => ltB u X.1.text) hk'
            have hfk := filter_len (fun u => ltB u X.1.text) a.2.1 b.2
            have rk := rdS (g4.pre p6) hk' eA
            generalize a.2.1[b.2] = T at *
            with_reducible refine Exists.elim rk (fun ki hv => ?_)
            with_reducible refine Exists.elim hv (fun ko hv => ?_)
            have ev := hv.1
            have klt := hv.2.1
            have krd := hv.2.2
            clear hv rk
            subst ev
            simp (maxSteps := 1000000) -implicitDefEqProofs only [push_cast, seval, e6, rd_of e6, rd1_of e6, l6, krd, klt]
            refine WC.draw' (by kernel_rfl) (by kernel_rfl) (.q 0 (.q 1 (.q 2 (.q 3 (.q 4 (.q 5 (.q 6 (.done)))))))) (by kernel_rfl) ?_
            simp (maxSteps := 1000000) -implicitDefEqProofs only [push_cast, seval, e6, rd_of e6, rd1_of e6, l6, krd, klt]
            repeat (with_reducible refine And.intro ?_ ?_; · (first | omega | decide))
            have hfl : (((a.2.1.take b.2).filter (fun u => ltB u X.1.text)).map encTx).flatten.length / 1 = ((a.2.1.take b.2).filter (fun u => ltB u X.1.text)).length := by rw [flat_len (enc := encTx) (k := 1) _ (fun _ => rfl)]; omega
            cases hT : Op.bytesLess T.toList X.1.text.toList
            · rw [if_neg (show ¬ ltB T X.1.text = true by unfold ltB; rw [hT]; simp), List.append_nil] at hfn
              simp (maxSteps := 1000000) -implicitDefEqProofs only [push_cast, seval]
              rw [wrapSucc (by omega)]
              exact ⟨(b.1, b.2 + 1), by kernel_rfl, ⟨⟨by show b.2 + 1 ≤ _; omega, by rw [hfn]; exact b6⟩, p6⟩, by show a.2.1.length - (b.2 + 1) < _; omega⟩
            · rw [if_pos (show ltB T X.1.text = true from hT)] at hfn
              simp (maxSteps := 1000000) -implicitDefEqProofs only [push_cast, seval, e6, rd_of e6, rd1_of e6, l6, krd, klt]
              repeat (with_reducible refine And.intro ?_ ?_; · (first | omega | decide))
              refine Gr.app1 (h0 := h4) si37 (by decide) (by decide) (notInt_sl und37) b6 p6 rfl (by rw [hfl]; omega) (by decide) (fun h7 gr ow p7 hn' he => ?_)
              rw [hfl] at gr
              simp (maxSteps := 1000000) -implicitDefEqProofs only [push_cast, seval]
              rw [wrapSucc (by omega), hfl]
              exact ⟨(_, b.2 + 1), by kernel_rfl, ⟨⟨by show b.2 + 1 ≤ _; omega, by rw [hfn, List.map_append, List.flatten_append]; exact gr⟩, p7⟩, by show a.2.1.length - (b.2 + 1) < _; omega⟩
          have eb : b.2 = a.2.1.length := by omega
          rw [eb, List.take_length] at b6
          have hfk := filter_len2 (fun u => ltB u X.1.text) a.2.1
          clear g5 p5
          have hfl : ((a.2.1.filter (fun u => ltB u X.1.text)).map encTx).flatten.length / 1 = (a.2.1.filter (fun u => ltB u X.1.text)).length := by rw [flat_len (enc := encTx) (k := 1) _ (fun _ => rfl)]; omega
          simp (maxSteps := 1000000) -implicitDefEqProofs only [push_cast, seval, e6, rd_of e6, rd1_of e6, l6]
          refine Gr.app1 (h0 := h4) si37 (by decide) (by decide) (notInt_sl und37) b6 p6 rfl (by rw [hfl]; omega) (by decide) (fun h7 gr ow p7 hn' he => ?_)
          rw [hfl] at gr
          simp (maxSteps := 1000000) -implicitDefEqProofs only [push_cast, seval]
          rw [hfl]
          have g7 : Gr h4.n h7 (.slice (some ⟨h6.n + 1, 0, none⟩) ((a.2.1.filter (fun u => ltB u X.1.text)).length + 1) 1) 1 ((a.2.1.filter (fun u => ltB u X.1.text) ++ [X.1.text] ++ (a.2.1.take 0).filter (fun u => ltB X.1.text u)).map encTx).flatten := by
            rw [List.take_zero, List.filter_nil, List.append_nil, List.map_append, List.flatten_append]; exact gr
          clear b6 gr ow e6 l6 p6 hb2 bi he hn' eb hfl
          refine WC.loopA (by kernel_rfl) [7, 9] [76, 77, 78, 79, 80, 81, 82, 83, 84, 85, 86, 87, 88, 89, 90, 91, 92, 93, 94, 95] (fun b : Value × Nat => [b.1, .int .i64 (b.2 : Nat)]) (fun b h' => (b.2 ≤ a.2.1.length ∧ Gr h4.n h' b.1 1 ((a.2.1.filter (fun u => ltB u X.1.text) ++ [X.1.text] ++ (a.2.1.take b.2).filter (fun u => ltB X.1.text u)).map encTx).flatten) ∧ Pre h4 h') (fun b => a.2.1.length - b.2) (.slice (some ⟨h6.n + 1, 0, none⟩) ((a.2.1.filter (fun u => ltB u X.1.text)).length + 1) 1, 0) (by kernel_rfl) ⟨⟨Nat.zero_le _, g7⟩, p7⟩ ?_
          clear g7 p7
          intro b gb2 h8 hJ
          have bi := hJ.1.1
          have b6 := hJ.1.2
          have p6 := hJ.2
          clear hJ
          have e6 := (p6.ob _ l4).trans e4
          have l6 : h3.n < h8.n := Nat.lt_of_lt_of_le l4 p6.n
          simp (maxSteps := 1000000) -implicitDefEqProofs only [push_cast, seval]
          with_reducible refine bcase_d (fun hb2 => ?_) (fun hb2 => ?_)
          · have hk' : b.2 < a.2.1.length := by omega
            have hfn := filter_next (fun u => ltB X.1.text u) hk'
            have hfk := filter_len (fun u => ltB X.1.text u) a.2.1 b.2
            have rk := rdS (g4.pre p6) hk' eA
            generalize a.2.1[b.2] = T at *
            with_reducible refine Exists.elim rk (fun ki hv => ?_)
            with_reducible refine Exists.elim hv (fun ko hv => ?_)
            have ev := hv.1
            have klt := hv.2.1
            have krd := hv.2.2
            clear hv rk
            subst ev
            simp (maxSteps := 1000000) -implicitDefEqProofs only [push_cast, seval, e6, rd_of e6, rd1_of e6, l6, krd, klt]
            refine WC.draw' (by kernel_rfl) (by kernel_rfl) (.q 0 (.q 1 (.q 2 (.q 3 (.q 4 (.q 5 (.q 6 (.done)))))))) (by kernel_rfl) ?_
            simp (maxSteps := 1000000) -implicitDefEqProofs only [push_cast, seval, e6, rd_of e6, rd1_of e6, l6, krd, klt, gtB]
            repeat (with_reducible refine And.intro ?_ ?_; · (first | omega | decide))
            have hfl : ((a.2.1.filter (fun u => ltB u X.1.text) ++ [X.1.text] ++ (a.2.1.take b.2).filter (fun u => ltB X.1.text u)).map encTx).flatten.length / 1 = (a.2.1.filter (fun u => ltB u X.1.text) ++ [X.1.text] ++ (a.2.1.take b.2).filter (fun u => ltB X.1.text u)).length := by rw [flat_len (enc := encTx) (k := 1) _ (fun _ => rfl)]; omega
            have hfm : (a.2.1.filter (fun u => ltB u X.1.text) ++ [X.1.text] ++ (a.2.1.take b.2).filter (fun u => ltB X.1.text u)).length ≤ 1000 := by rw [List.length_append, List.length_append, List.length_singleton]; omega
            cases hT : ltB X.1.text T
            · rw [if_neg (show ¬ ltB X.1.text T = true by rw [hT]; simp), List.append_nil] at hfn
              simp (maxSteps := 1000000) -implicitDefEqProofs only [push_cast, seval]
              rw [wrapSucc (by omega)]
              exact ⟨(b.1, b.2 + 1), by kernel_rfl, ⟨⟨by show b.2 + 1 ≤ _; omega, by rw [hfn]; exact b6⟩, p6⟩, by show a.2.1.length - (b.2 + 1) < _; omega⟩
            · rw [if_pos hT] at hfn
              simp (maxSteps := 1000000) -implicitDefEqProofs only [push_cast, seval, e6, rd_of e6, rd1_of e6, l6, krd, klt]
              repeat (with_reducible refine And.intro ?_ ?_; · (first | omega | decide))
              refine Gr.app1 (h0 := h4) si37 (by decide) (by decide) (notInt_sl und37) b6 p6 rfl (by rw [hfl]; omega) (by decide) (fun h9 gr ow p9 hn' he => ?_)
              rw [hfl] at gr
              simp (maxSteps := 1000000) -implicitDefEqProofs only [push_cast, seval]
              rw [wrapSucc (by omega), hfl]
              exact ⟨(_, b.2 + 1), by kernel_rfl, ⟨⟨by show b.2 + 1 ≤ _; omega, by rw [hfn, ← List.append_assoc, List.map_append, List.flatten_append]; exact gr⟩, p9⟩, by show a.2.1.length - (b.2 + 1) < _; omega⟩
          have eb : b.2 = a.2.1.length := by omega
          rw [eb, List.take_length] at b6
          simp (maxSteps := 1000000) -implicitDefEqProofs only [push_cast, seval]
          rw [wrapSucc (by omega)]
          refine ⟨(b.1, a.2.1.filter (fun u => ltB u X.1.text) ++ [X.1.text] ++ a.2.1.filter (fun u => ltB X.1.text u), a.2.2 + 1), by kernel_rfl, ⟨⟨by show a.2.2 + 1 ≤ _; omega, (k3.ins hnot).to (fun t => ?_), b6.rdv (by decide) (fun _ => rfl)⟩, fun i e => ?_, p4.trans p6⟩, by show L.length - (a.2.2 + 1) < _; omega⟩
          · rw [hsu]; simp [hput]
          · have := (b6.lt e).1
            have := p4.n
            have := q2.n
            omega
        · have hin := hin0.1 rfl
          simp (maxSteps := 1000000) -implicitDefEqProofs only [push_cast, seval]
          rw [wrapSucc (by omega)]
          refine ⟨(.slice A a.2.1.length cA, a.2.1, a.2.2 + 1), by kernel_rfl, ⟨⟨by show a.2.2 + 1 ≤ _; omega, k3.to (fun t => ?_), g4b⟩, d3b, p4⟩, by show L.length - (a.2.2 + 1) < _; omega⟩
          rw [hsu]
          exact ⟨fun e => .inl e, fun e => e.elim (fun e => e) (fun e => by rw [e.2]; exact hin)⟩
      simp (maxSteps := 1000000) -implicitDefEqProofs only [push_cast, seval, e4, rd_of e4, rd1_of e4, l4]
      with_reducible refine bcase_mk (fun hq => ?_) (fun hp2 => ?_)
      · have hput : isPut X.1.op = true := by simp at hq; simp [isPut, hq]
        simp (maxSteps := 1000000) -implicitDefEqProofs only [push_cast, seval, e4, rd_of e4, rd1_of e4, l4, eA]
        have hIn := l11In_c a.2.1 a.1 X.1.text h4 g4 (by omega)
        rw [eA] at hIn
        with_reducible refine CD.to hIn ?_
        have hnot0 : a.2.1.any (fun t => decide (t = X.1.text)) = false → X.1.text ∉ a.2.1 := fun hin e => by rw [List.any_eq_false] at hin; exact hin _ e (by simp)
        have hin0 := k3.any X.1.text
        generalize a.2.1.any (fun t => decide (t = X.1.text)) = hin at *
        cases hin
        · have hnot := hnot0 rfl
          clear hIn
          simp (maxSteps := 1000000) -implicitDefEqProofs only [push_cast, seval, e4, rd_of e4, rd1_of e4, l4]
          have p5 : Pre h4 (h4.alloc (.cells [] .solo h4.n)) := (Pre.refl _).alloc _
          have g5 : Gr h4.n (h4.alloc (.cells [] .solo h4.n)) (.slice (some ⟨h4.n, 0, none⟩) 0 1) 1 [] := Gr.new (Nat.le_refl _) [] 0 1 rfl
          generalize (h4.alloc (.cells [] .solo h4.n)) = h5 at *
          refine WC.loopA (by kernel_rfl) [7, 8] [51, 52, 53, 54, 55, 56, 57, 58, 59, 60, 61, 62, 63, 64, 65, 66, 67, 68, 69, 70] (fun b : Value × Nat => [b.1, .int .i64 (b.2 : Nat)]) (fun b h' => (b.2 ≤ a.2.1.length ∧ Gr h4.n h' b.1 1 (((a.2.1.take b.2).filter (fun u => ltB u X.1.text)).map encTx).flatten) ∧ Pre h4 h') (fun b => a.2.1.length - b.2) (.slice (some ⟨h4.n, 0, none⟩) 0 1, 0) (by kernel_rfl) ⟨⟨Nat.zero_le _, g5⟩, p5⟩ ?_
          intro b gb h6 hJ
          have bi := hJ.1.1
          have b6 := hJ.1.2
          have p6 := hJ.2
          clear hJ
          have e6 := (p6.ob _ l4).trans e4
          have l6 : h3.n < h6.n := Nat.lt_of_lt_of_le l4 p6.n
          simp (maxSteps := 1000000) -implicitDefEqProofs only [push_cast, seval]
          with_reducible refine bcase_d (fun hb2 => ?_) (fun hb2 => ?_)
          · have hk' : b.2 < a.2.1.length := by omega
            have hfn := filter_next (fun u => ltB u X.1.text) hk'
            have hfk := filter_len (fun u => ltB u X.1.text) a.2.1 b.2
            have rk := rdS (g4.pre p6) hk' eA
            generalize a.2.1[b.2] = T at *
            with_reducible refine Exists.elim rk (fun ki hv => ?_)
            with_reducible refine Exists.elim hv (fun ko hv => ?_)
            have ev := hv.1
            have klt := hv.2.1
            have krd := hv.2.2
            clear hv rk
            subst ev
            simp (maxSteps := 1000000) -implicitDefEqProofs only [push_cast, seval, e6, rd_of e6, rd1_of e6, l6, krd, klt]
            refine WC.draw' (by kernel_rfl) (by kernel_rfl) (.q 0 (.q 1 (.q 2 (.q 3 (.q 4 (.q 5 (.q 6 (.done)))))))) (by kernel_rfl) ?_
            simp (maxSteps := 1000000) -implicitDefEqProofs only [push_cast, seval, e6, rd_of e6, rd1_of e6, l6, krd, klt]
            repeat (with_reducible refine And.intro ?_ ?_; · (first | omega | decide))
            have hfl : (((a.2.1.take b.2).filter (fun u => ltB u X.1.text)).map encTx).flatten.length / 1 = ((a.2.1.take b.2).filter (fun u => ltB u X.1.text)).length := by rw [flat_len (enc := encTx) (k := 1) _ (fun _ => rfl)]; omega
            cases hT : Op.bytesLess T.toList X.1.text.toList
            · rw [if_neg (show ¬ ltB T X.1.text = true by unfold ltB; rw [hT]; simp), List.append_nil] at hfn
              simp (maxSteps := 1000000) -implicitDefEqProofs only [push_cast, seval]
              rw [wrapSucc (by omega)]
              exact ⟨(b.1, b.2 + 1), by kernel_rfl, ⟨⟨by show b.2 + 1 ≤ _; omega, by rw [hfn]; exact b6⟩, p6⟩, by show a.2.1.length - (b.2 + 1) < _; omega⟩
            · rw [if_pos (show ltB T X.1.text = true from hT)] at hfn
              simp (maxSteps := 1000000) -implicitDefEqProofs only [push_cast, seval, e6, rd_of e6, rd1_of e6, l6, krd, klt]
              repeat (with_reducible refine And.intro ?_ ?_; · (first | omega | decide))
              refine Gr.app1 (h0 := h4) si37 (by decide) (by decide) (notInt_sl und37) b6 p6 rfl (by rw [hfl]; omega) (by decide) (fun h7 gr ow p7 hn' he => ?_)
              rw [hfl] at gr
              simp (maxSteps := 1000000) -implicitDefEqProofs only [push_cast, seval]
              rw [wrapSucc (by omega), hfl]
              exact ⟨(_, b.2 + 1), by kernel_rfl, ⟨⟨by show b.2 + 1 ≤ _; omega, by rw [hfn, List.map_append, List.flatten_append]; exact gr⟩, p7⟩, by show a.2.1.length - (b.2 + 1) < _; omega⟩
          have eb : b.2 = a.2.1.length := by omega
          rw [eb, List.take_length] at b6
          have hfk := filter_len2 (fun u => ltB u X.1.text) a.2.1
          clear g5 p5
          have hfl : ((a.2.1.filter (fun u => ltB u X.1.text)).map encTx).flatten.length / 1 = (a.2.1.filter (fun u => ltB u X.1.text)).length := by rw [flat_len (enc := encTx) (k := 1) _ (fun _ => rfl)]; omega
          simp (maxSteps := 1000000) -implicitDefEqProofs only [push_cast, seval, e6, rd_of e6, rd1_of e6, l6]
          refine Gr.app1 (h0 := h4) si37 (by decide) (by decide) (notInt_sl und37) b6 p6 rfl (by rw [hfl]; omega) (by decide) (fun h7 gr ow p7 hn' he => ?_)
          rw [hfl] at gr
          simp (maxSteps := 1000000) -implicitDefEqProofs only [push_cast, seval]
          rw [hfl]
          have g7 : Gr h4.n h7 (.slice (some ⟨h6.n + 1, 0, none⟩) ((a.2.1.filter (fun u => ltB u X.1.text)).length + 1) 1) 1 ((a.2.1.filter (fun u => ltB u X.1.text) ++ [X.1.text] ++ (a.2.1.take 0).filter (fun u => ltB X.1.text u)).map encTx).flatten := by
            rw [List.take_zero, List.filter_nil, List.append_nil, List.map_append, List.flatten_append]; exact gr
          clear b6 gr ow e6 l6 p6 hb2 bi he hn' eb hfl
          refine WC.loopA (by kernel_rfl) [7, 9] [76, 77, 78, 79, 80, 81, 82, 83, 84, 85, 86, 87, 88, 89, 90, 91, 92, 93, 94, 95] (fun b : Value × Nat => [b.1, .int .i64 (b.2 : Nat)]) (fun b h' => (b.2 ≤ a.2.1.length ∧ Gr h4.n h' b.1 1 ((a.2.1.filter (fun u => ltB u X.1.text) ++ [X.1.text] ++ (a.2.1.take b.2).filter (fun u => ltB X.1.text u)).map encTx).flatten) ∧ Pre h4 h') (fun b => a.2.1.length - b.2) (.slice (some ⟨h6.n + 1, 0, none⟩) ((a.2.1.filter (fun u => ltB u X.1.text)).length + 1) 1, 0) (by kernel_rfl) ⟨⟨Nat.zero_le _, g7⟩, p7⟩ ?_
          clear g7 p7
          intro b gb2 h8 hJ
          have bi := hJ.1.1
          have b6 := hJ.1.2
          have p6 := hJ.2
          clear hJ
          have e6 := (p6.ob _ l4).trans e4
          have l6 : h3.n < h8.n := Nat.lt_of_lt_of_le l4 p6.n
          simp (maxSteps := 1000000) -implicitDefEqProofs only [push_cast, seval]
          with_reducible refine bcase_d (fun hb2 => ?_) (fun hb2 => ?_)
          · have hk' : b.2 < a.2.1.length := by omega
            have hfn := filter_next (fun u => ltB X.1.text u) hk'
            have hfk := filter_len (fun u => ltB X.1.text u) a.2.1 b.2
            have rk := rdS (g4.pre p6) hk' eA
            generalize a.2.1[b.2] = T at *
            with_reducible refine Exists.elim rk (fun ki hv => ?_)
            with_reducible refine Exists.elim hv (fun ko hv => ?_)
            have ev := hv.1
            have klt := hv.2.1
            have krd := hv.2.2
            clear hv rk
            subst ev
            simp (maxSteps := 1000000) -implicitDefEqProofs only [push_cast, seval, e6, rd_of e6, rd1_of e6, l6, krd, klt]
            refine WC.draw' (by kernel_rfl) (by kernel_rfl) (.q 0 (.q 1 (.q 2 (.q 3 (.q 4 (.q 5 (.q 6 (.done)))))))) (by kernel_rfl) ?_
            simp (maxSteps := 1000000) -implicitDefEqProofs only [push_cast, seval, e6, rd_of e6, rd1_of e6, l6, krd, klt, gtB]
            repeat (with_reducible refine And.intro ?_ ?_; · (first | omega | decide))
            have hfl : ((a.2.1.filter (fun u => ltB u X.1.text) ++ [X.1.text] ++ (a.2.1.take b.2).filter (fun u => ltB X.1.text u)).map encTx).flatten.length / 1 = (a.2.1.filter (fun u => ltB u X.1.text) ++ [X.1.text] ++ (a.2.1.take b.2).filter (fun u => ltB X.1.text u)).length := by rw [flat_len (enc := encTx) (k := 1) _ (fun _ => rfl)]; omega
            have hfm : (a.2.1.filter (fun u => ltB u X.1.text) ++ [X.1.text] ++ (a.2.1.take b.2).filter (fun u => ltB X.1.text u)).length ≤ 1000 := by rw [List.length_append, List.length_append, List.length_singleton]; omega
            cases hT : ltB X.1.text T
            · rw [if_neg (show ¬ ltB X.1.text T = true by rw [hT]; simp), List.append_nil] at hfn
              simp (maxSteps := 1000000) -implicitDefEqProofs only [push_cast, seval]
              rw [wrapSucc (by omega)]
              exact ⟨(b.1, b.2 + 1), by kernel_rfl, ⟨⟨by show b.2 + 1 ≤ _; omega, by rw [hfn]; exact b6⟩, p6⟩, by show a.2.1.length - (b.2 + 1) < _; omega⟩
            · rw [if_pos hT] at hfn
              simp (maxSteps := 1000000) -implicitDefEqProofs only [push_cast, seval, e6, rd_of e6, rd1_of e6, l6, krd, klt]
              repeat (with_reducible refine And.intro ?_ ?_; · (first | omega | decide))
              refine Gr.app1 (h0 := h4) si37 (by decide) (by decide) (notInt_sl und37) b6 p6 rfl (by rw [hfl]; omega) (by decide) (fun h9 gr ow p9 hn' he => ?_)
              rw [hfl] at gr
              simp (maxSteps := 1000000) -implicitDefEqProofs only [push_cast, seval]
              rw [wrapSucc (by omega), hfl]
              exact ⟨(_, b.2 + 1), by kernel_rfl, ⟨⟨by show b.2 + 1 ≤ _; omega, by rw [hfn, ← List.append_assoc, List.map_append, List.flatten_append]; exact gr⟩, p9⟩, by show a.2.1.length - (b.2 + 1) < _; omega⟩
          have eb : b.2 = a.2.1.length := by omega
          rw [eb, List.take_length] at b6
          simp (maxSteps := 1000000) -implicitDefEqProofs only [push_cast, seval]
          rw [wrapSucc (by omega)]
          refine ⟨(b.1, a.2.1.filter (fun u => ltB u X.1.text) ++ [X.1.text] ++ a.2.1.filter (fun u => ltB X.1.text u), a.2.2 + 1), by kernel_rfl, ⟨⟨by show a.2.2 + 1 ≤ _; omega, (k3.ins hnot).to (fun t => ?_), b6.rdv (by decide) (fun _ => rfl)⟩, fun i e => ?_, p4.trans p6⟩, by show L.length - (a.2.2 + 1) < _; omega⟩
          · rw [hsu]; simp [hput]
          · have := (b6.lt e).1
            have := p4.n
            have := q2.n
            omega
        · have hin := hin0.1 rfl
          simp (maxSteps := 1000000) -implicitDefEqProofs only [push_cast, seval]
          rw [wrapSucc (by omega)]
          refine ⟨(.slice A a.2.1.length cA, a.2.1, a.2.2 + 1), by kernel_rfl, ⟨⟨by show a.2.2 + 1 ≤ _; omega, k3.to (fun t => ?_), g4b⟩, d3b, p4⟩, by show L.length - (a.2.2 + 1) < _; omega⟩
          rw [hsu]
          exact ⟨fun e => .inl e, fun e => e.elim (fun e => e) (fun e => by rw [e.2]; exact hin)⟩
      have hput : isPut X.1.op = false := by simp at hp hp2; simp [isPut, hp, hp2]
      simp (maxSteps := 1000000) -implicitDefEqProofs only [push_cast, seval]
      rw [wrapSucc (by omega)]
      refine ⟨(a.1, a.2.1, a.2.2 + 1), by kernel_rfl, ⟨⟨by show a.2.2 + 1 ≤ _; omega, k3.to (fun t => ?_), g4⟩, d3, p4⟩, by show L.length - (a.2.2 + 1) < _; omega⟩
      rw [hsu]
      simp [hput]
  have ei : a.2.2 = L.length := by omega
  rw [ei] at k3
  simp (maxSteps := 1000000) -implicitDefEqProofs only [push_cast, seval]
  exact ⟨a.2.1, g3, fun _ => k3, fun e => by simp at e, q2.trans p3, d3⟩
end Go.Proofs.YtdlpdfclljnmhaaGreat
namespace Go.Proofs.YtdlpdfclljnmhaaGreat
open Go Go.Sim Go.Proofs
set_option linter.unusedSimpArgs false
set_option linter.unusedVariables false
set_option maxRecDepth 100000
set_option maxHeartbeats 1000000
theorem badOp_cases (ns : List ByteArray) (x : Nd) : badOp ns x = (decide (x.op = 18) || decide (x.op = 20) || decide (x.op = 25) || decide (x.op = 7) || ((decide (x.op = 3) || decide (x.op = 4)) && ns.any (fun t => decide (t = x.text)))) := rfl
theorem opm_split (op : Int) : op = 18 ∨ op = 20 ∨ op = 25 ∨ op = 7 ∨ op = 3 ∨ op = 4 ∨ (op ≠ 18 ∧ op ≠ 20 ∧ op ≠ 25 ∧ op ≠ 7 ∧ op ≠ 3 ∧ op ≠ 4) := by omega
theorem Mergeable_i (L : List (Nd × Value)) (R : List Ru) (vN vR : Value) (h : AH) (w : RdG h vN vR L R) (hz : SzG L R) :
    CD Tryz.prog 13 [.agg #[vN, vR]] h (.bool (mergeOk ⟨L.map Prod.fst, R⟩)) h := by
  refine CD.withBig (fun big => ?_)
  refine CD.quiet ?_ (low_bool _ _)
  have w0 := w
  obtain ⟨B, d, rfl, hN⟩ := w.nodes.rde encD_len
  obtain ⟨C, c, rfl, hR⟩ := w.rules.rde (fun _ => rfl)
  have p0 : Pre h (h.alloc (.cells [.slice B L.length d, .slice C R.length c] .solo h.n)) := (Pre.refl h).alloc _
  have c0 : (h.alloc (.cells [.slice B L.length d, .slice C R.length c] .solo h.n)).ob h.n = .cells [.slice B L.length d, .slice C R.length c] .solo h.n := alloc_same _
  have n0 : (h.alloc (.cells [.slice B L.length d, .slice C R.length c] .solo h.n)).n = h.n + 1 := rfl
  refine CC.ofN Tryz.func13 Tryz.ntmps13 Tryz.results13 rfl (by decide) (by kernel_rfl) ?_
  simp (maxSteps := 1000000) -implicitDefEqProofs only [push_cast, seval]
  generalize (h.alloc (.cells [.slice B L.length d, .slice C R.length c] .solo h.n)) = h1 at *
  with_reducible refine CD.to (ProgramOk_i L R _ _ h1 (w0.pre p0) hz) ?_
  have l1 : h.n < h1.n := by omega
  unfold mergeOk
  cases hok : programOk ⟨L.map Prod.fst, R⟩
  · simp (maxSteps := 1000000) -implicitDefEqProofs only [push_cast, seval]
    exact p0.keep
  have ok := OkG.of hok
  have zn := ok.n
  rw [Bool.true_and]
  have hcl := nmC_len (L.map Prod.fst) (reach (L.map Prod.fst) R)
  rw [List.length_map] at hcl
  have hco := nmC_ok (L.map Prod.fst) (reach (L.map Prod.fst) R)
  rw [List.length_map] at hco
  simp (maxSteps := 1000000) -implicitDefEqProofs only [push_cast, seval, c0, rd_of c0, rd1_of c0, l1]
  with_reducible refine CC.mono (Names_i L R _ _ h1 (w0.pre p0) hz) (fun vn h2 hv => ?_)
  with_reducible refine Exists.elim hv (fun ns hv => ?_)
  have rn := hv.1
  have ens := (hv.2.2.1 hok).uniq hco
  have p2 := hv.2.2.2.2
  clear hv
  subst ens
  have c1 := (p2.ob _ l1).trans c0
  have l2 : h.n < h2.n := Nat.lt_of_lt_of_le l1 p2.n
  have q2 := p0.trans p2
  simp (maxSteps := 1000000) -implicitDefEqProofs only [push_cast, seval, c1, rd_of c1, rd1_of c1, l2]
  with_reducible refine CC.mono (reachedBy_c L R _ _ h2 (w0.pre q2) ok) (fun vr h3 hv => ?_)
  have rr := hv.1
  have p3 := hv.2.1
  clear hv
  have c2 := (p3.ob _ l2).trans c1
  have l3 : h.n < h3.n := Nat.lt_of_lt_of_le l2 p3.n
  have q3 := q2.trans p3
  replace rn := rn.pre p3
  have un := rn.one
  have ur := rr.one
  generalize hns : nmC (L.map Prod.fst) (reach (L.map Prod.fst) R) = ns at *
  generalize hF : reach (L.map Prod.fst) R = F at *
  simp (maxSteps := 1000000) -implicitDefEqProofs only [push_cast, seval, c2, rd_of c2, rd1_of c2, l3]
  refine WC.loopA (by kernel_rfl) [17] [2, 5, 6, 18, 19, 20, 21, 22, 23, 24, 25, 26, 27, 28, 29, 30, 31, 32, 33, 34, 35, 36, 37, 38, 39, 40, 41] (fun i : Nat => [.int .i64 (i : Nat)]) (fun i h' => (i ≤ L.length ∧ ∀ j, j < i → (F j && badOp ns (nd (L.map Prod.fst) j)) = false) ∧ Pre h3 h') (fun i => L.length - i) 0 (by kernel_rfl) ⟨⟨Nat.zero_le _, fun j hj => absurd hj (Nat.not_lt_zero j)⟩, Pre.refl _⟩ ?_
  intro i g h4 hJ
  have hi := hJ.1.1
  have hall := hJ.1.2
  have p4 := hJ.2
  clear hJ
  have l4 : h.n < h4.n := Nat.lt_of_lt_of_le l3 p4.n
  have c4 := (p4.ob _ l3).trans c2
  simp (maxSteps := 1000000) -implicitDefEqProofs only [push_cast, seval, c4, rd_of c4, rd1_of c4, l4]
  with_reducible refine bcase_d (fun hb => ?_) (fun hb => ?_)
  rotate_left
  · have ei : i = L.length := by omega
    subst ei
    simp (maxSteps := 1000000) -implicitDefEqProofs only [push_cast, seval]
    have hm : mergeB (L.map Prod.fst) F ns = true := allN_iff.2 (fun j hj => by rw [hall j (by simpa using hj)]; rfl)
    exact ⟨by rw [hm], (q3.trans p4).keep⟩
  have hi' : i < L.length := by omega
  with_reducible refine hN.use big (q3.trans p4) hi' (fun id off eA hlt hr => ?_)
  subst eA
  have hnd := nd_eq hi'
  have kone := (w0.kids _ (List.getElem_mem hi')).one
  have hbad : (F i && badOp ns L[i].1) = true → mergeB (L.map Prod.fst) F ns = false := fun e => by
    refine allN_false (i := i) (by rw [List.length_map]; exact hi') ?_
    rw [hnd, e]; rfl
  have hgood : (F i && badOp ns L[i].1) = false → ∀ j, j < i + 1 → (F j && badOp ns (nd (L.map Prod.fst) j)) = false := fun e j hj => by
    by_cases e2 : j = i
    · subst e2; rw [hnd]; exact e
    · exact hall j (by omega)
  simp only [encD] at hr
  generalize L[i] = X at *
  have r30 := (rd_3 hr).1
  have r31 := (rd_3 hr).2.1
  have r32 := (rd_3 hr).2.2
  simp (maxSteps := 1000000) -implicitDefEqProofs only [push_cast, seval, c4, rd_of c4, rd1_of c4, l4, hr, r30, r31, r32, hlt, kone]
  repeat (with_reducible refine And.intro ?_ ?_; · (first | omega | decide))
  have pp : Pre h4 ((h4.alloc (.cells [.int .i64 0, .string ⟨#[]⟩, .slice none 0 0] .solo h4.n)).set h4.n (.cells [.int .i64 X.1.op, .string X.1.text, X.2] .solo h4.n)) := ((Pre.refl h4).alloc _).set (Nat.le_refl _) _
  have e5 : ((h4.alloc (.cells [.int .i64 0, .string ⟨#[]⟩, .slice none 0 0] .solo h4.n)).set h4.n (.cells [.int .i64 X.1.op, .string X.1.text, X.2] .solo h4.n)).ob h4.n = _ := set_same _ _
  have k5 : ((h4.alloc (.cells [.int .i64 0, .string ⟨#[]⟩, .slice none 0 0] .solo h4.n)).set h4.n (.cells [.int .i64 X.1.op, .string X.1.text, X.2] .solo h4.n)).n = h4.n + 1 := rfl
  generalize ((h4.alloc (.cells [.int .i64 0, .string ⟨#[]⟩, .slice none 0 0] .solo h4.n)).set h4.n (.cells [.int .i64 X.1.op, .string X.1.text, X.2] .solo h4.n)) = h5 at *
  have l5 : h4.n < h5.n := by omega
  have p5 := p4.trans pp
  have hC := Contains_c ns vn X.1.text h5 (rn.pre p5) (by omega)
  with_reducible refine Exists.elim (rdB (rr.pre p5) hi') (fun vi hv => ?_)
  with_reducible refine Exists.elim hv (fun vo hv => ?_)
  with_reducible refine Exists.elim hv (fun vc hv => ?_)
  have ev := hv.1
  have vlt := hv.2.1
  have vrd := hv.2.2
  clear hv
  subst ev
  have pe := q3.trans p5
  simp (maxSteps := 1000000) -implicitDefEqProofs only [push_cast, seval, e5, rd_of e5, rd1_of e5, l5, vrd, vlt]
  repeat (with_reducible refine And.intro ?_ ?_; · (first | omega | decide))
  cases hFi : F i
  · rw [hFi] at hgood
    simp (maxSteps := 1000000) -implicitDefEqProofs only [push_cast, seval]
    rw [wrapSucc (by omega)]
    exact ⟨i + 1, by kernel_rfl, ⟨⟨by omega, hgood rfl⟩, p5⟩, by omega⟩
  rw [hFi] at hbad hgood
  rcases opm_split X.1.op with e | e | e | e | e | e | e
  · rw [e] at e5
    have hb1 := hbad (by simp [badOp, e])
    simp (maxSteps := 1000000) -implicitDefEqProofs only [push_cast, seval, e5, rd_of e5, rd1_of e5, l5]
    exact ⟨by rw [hb1], pe.keep⟩
  · rw [e] at e5
    have hb1 := hbad (by simp [badOp, e])
    simp (maxSteps := 1000000) -implicitDefEqProofs only [push_cast, seval, e5, rd_of e5, rd1_of e5, l5]
    exact ⟨by rw [hb1], pe.keep⟩
  · rw [e] at e5
    have hb1 := hbad (by simp [badOp, e])
    simp (maxSteps := 1000000) -implicitDefEqProofs only [push_cast, seval, e5, rd_of e5, rd1_of e5, l5]
    exact ⟨by rw [hb1], pe.keep⟩
  · rw [e] at e5
    have hb1 := hbad (by simp [badOp, e])
    simp (maxSteps := 1000000) -implicitDefEqProofs only [push_cast, seval, e5, rd_of e5, rd1_of e5, l5]
    exact ⟨by rw [hb1], pe.keep⟩
  · rw [e] at e5
    simp (maxSteps := 1000000) -implicitDefEqProofs only [push_cast, seval, e5, rd_of e5, rd1_of e5, l5]
    with_reducible refine CD.to hC ?_
    have hb0 : badOp ns X.1 = ns.any (fun t => decide (t = X.1.text)) := by simp [badOp, e]
    rw [hb0] at hbad hgood
    generalize ns.any (fun t => decide (t = X.1.text)) = hin at *
    cases hin
    · simp (maxSteps := 1000000) -implicitDefEqProofs only [push_cast, seval]
      rw [wrapSucc (by omega)]
      exact ⟨i + 1, by kernel_rfl, ⟨⟨by omega, hgood rfl⟩, p5⟩, by omega⟩
    · have hb1 := hbad rfl
      simp (maxSteps := 1000000) -implicitDefEqProofs only [push_cast, seval]
      exact ⟨by rw [hb1], pe.keep⟩
  · rw [e] at e5
    simp (maxSteps := 1000000) -implicitDefEqProofs only [push_cast, seval, e5, rd_of e5, rd1_of e5, l5]
    with_reducible refine CD.to hC ?_
    have hb0 : badOp ns X.1 = ns.any (fun t => decide (t = X.1.text)) := by simp [badOp, e]
    rw [hb0] at hbad hgood
    generalize ns.any (fun t => decide (t = X.1.text)) = hin at *
    cases hin
    · simp (maxSteps := 1000000) -implicitDefEqProofs only [push_cast, seval]
      rw [wrapSucc (by omega)]
      exact ⟨i + 1, by kernel_rfl, ⟨⟨by omega, hgood rfl⟩, p5⟩, by omega⟩
    · have hb1 := hbad rfl
      simp (maxSteps := 1000000) -implicitDefEqProofs only [push_cast, seval]
      exact ⟨by rw [hb1], pe.keep⟩
  · have hg := hgood (by simp [badOp, e])
    simp (maxSteps := 1000000) -implicitDefEqProofs only [push_cast, seval, e5, rd_of e5, rd1_of e5, l5, decide_eq_false e.1, decide_eq_false e.2.1, decide_eq_false e.2.2.1, decide_eq_false e.2.2.2.1, decide_eq_false e.2.2.2.2.1, decide_eq_false e.2.2.2.2.2]
    rw [wrapSucc (by omega)]
    exact ⟨i + 1, by kernel_rfl, ⟨⟨by omega, hg⟩, p5⟩, by omega⟩
theorem Mergeable_s (L : List (Nd × Value)) (R : List Ru) (vN vR : Value) (h : AH) (w : RdG h vN vR L R) (hz : SzG L R) :
    CD Tryz.prog 12 [.agg #[vN, vR]] h (.bool (mergeOk ⟨L.map Prod.fst, R⟩)) h := by
  refine CD.withBig (fun big => ?_)
  refine CD.quiet ?_ (low_bool _ _)
  have w0 := w
  obtain ⟨B, d, rfl, hN⟩ := w.nodes.rde encD_len
  obtain ⟨C, c, rfl, hR⟩ := w.rules.rde (fun _ => rfl)
  have p0 : Pre h (h.alloc (.cells [.slice B L.length d, .slice C R.length c] .solo h.n)) := (Pre.refl h).alloc _
  have c0 : (h.alloc (.cells [.slice B L.length d, .slice C R.length c] .solo h.n)).ob h.n = .cells [.slice B L.length d, .slice C R.length c] .solo h.n := alloc_same _
  have n0 : (h.alloc (.cells [.slice B L.length d, .slice C R.length c] .solo h.n)).n = h.n + 1 := rfl
  refine CC.ofN Tryz.func12 Tryz.ntmps12 Tryz.results12 rfl (by decide) (by kernel_rfl) ?_
  simp (maxSteps := 1000000) -implicitDefEqProofs only [push_cast, seval]
  generalize (h.alloc (.cells [.slice B L.length d, .slice C R.length c] .solo h.n)) = h1 at *
  with_reducible refine CD.to (ProgramOk_s L R _ _ h1 (w0.pre p0) hz) ?_
  have l1 : h.n < h1.n := by omega
  unfold mergeOk
  cases hok : programOk ⟨L.map Prod.fst, R⟩
  · simp (maxSteps := 1000000) -implicitDefEqProofs only [push_cast, seval]
    exact p0.keep
  have ok := OkG.of hok
  have zn := ok.n
  rw [Bool.true_and]
  have hcl := nmC_len (L.map Prod.fst) (reach (L.map Prod.fst) R)
  rw [List.length_map] at hcl
  have hco := nmC_ok (L.map Prod.fst) (reach (L.map Prod.fst) R)
  rw [List.length_map] at hco
  simp (maxSteps := 1000000) -implicitDefEqProofs only [push_cast, seval, c0, rd_of c0, rd1_of c0, l1]
  with_reducible refine CC.mono (l11Reach_c L R _ _ h1 (w0.pre p0) ok) (fun vr h2 hv => ?_)
  have rr := hv.1
  have p2 := hv.2
  clear hv
  have c1 := (p2.ob _ l1).trans c0
  have l2 : h.n < h2.n := Nat.lt_of_lt_of_le l1 p2.n
  have q2 := p0.trans p2
  simp (maxSteps := 1000000) -implicitDefEqProofs only [push_cast, seval, c1, rd_of c1, rd1_of c1, l2]
  with_reducible refine CC.mono (Names_s L R _ _ h2 (w0.pre q2) hz) (fun vn h3 hv => ?_)
  with_reducible refine Exists.elim hv (fun ns hv => ?_)
  have rn := hv.1
  have ens := (hv.2.1 hok).uniq hco
  have p3 := hv.2.2.2.1
  clear hv
  subst ens
  have c2 := (p3.ob _ l2).trans c1
  have l3 : h.n < h3.n := Nat.lt_of_lt_of_le l2 p3.n
  have q3 := q2.trans p3
  replace rr := rr.pre p3
  have un := rn.one
  have ur := rr.one
  generalize hns : nmC (L.map Prod.fst) (reach (L.map Prod.fst) R) = ns at *
  generalize hF : reach (L.map Prod.fst) R = F at *
  simp (maxSteps := 1000000) -implicitDefEqProofs only [push_cast, seval, c2, rd_of c2, rd1_of c2, l3]
  refine WC.loopA (by kernel_rfl) [5] [2, 6, 14, 15, 16, 17, 18, 19, 20, 21, 22, 23, 24, 25, 26, 27, 28, 29, 30, 31, 32, 33, 34, 35, 36, 37, 38, 39, 40, 41, 42, 43, 44] (fun i : Nat => [.int .i64 (i : Nat)]) (fun i h' => (i ≤ L.length ∧ ∀ j, j < i → (F j && badOp ns (nd (L.map Prod.fst) j)) = false) ∧ Pre h3 h') (fun i => L.length - i) 0 (by kernel_rfl) ⟨⟨Nat.zero_le _, fun j hj => absurd hj (Nat.not_lt_zero j)⟩, Pre.refl _⟩ ?_
  intro i g h4 hJ
  have hi := hJ.1.1
  have hall := hJ.1.2
  have p4 := hJ.2
  clear hJ
  have l4 : h.n < h4.n := Nat.lt_of_lt_of_le l3 p4.n
  have c4 := (p4.ob _ l3).trans c2
  simp (maxSteps := 1000000) -implicitDefEqProofs only [push_cast, seval, c4, rd_of c4, rd1_of c4, l4]
  with_reducible refine bcase_d (fun hb => ?_) (fun hb => ?_)
  rotate_left
  · have ei : i = L.length := by omega
    subst ei
    simp (maxSteps := 1000000) -implicitDefEqProofs only [push_cast, seval]
    have hm : mergeB (L.map Prod.fst) F ns = true := allN_iff.2 (fun j hj => by rw [hall j (by simpa using hj)]; rfl)
    exact ⟨by rw [hm], (q3.trans p4).keep⟩
  have hi' : i < L.length := by omega
  with_reducible refine hN.use big (q3.trans p4) hi' (fun id off eA hlt hr => ?_)
  subst eA
  have hnd := nd_eq hi'
  have kone := (w0.kids _ (List.getElem_mem hi')).one
  have hbad : (F i && badOp ns L[i].1) = true → mergeB (L.map Prod.fst) F ns = false := fun e => by
    refine allN_false (i := i) (by rw [List.length_map]; exact hi') ?_
    rw [hnd, e]; rfl
  have hgood : (F i && badOp ns L[i].1) = false → ∀ j, j < i + 1 → (F j && badOp ns (nd (L.map Prod.fst) j)) = false := fun e j hj => by
    by_cases e2 : j = i
    · subst e2; rw [hnd]; exact e
    · exact hall j (by omega)
  simp only [encD] at hr
  generalize L[i] = X at *
  have r30 := (rd_3 hr).1
  have r31 := (rd_3 hr).2.1
  have r32 := (rd_3 hr).2.2
  simp (maxSteps := 1000000) -implicitDefEqProofs only [push_cast, seval, c4, rd_of c4, rd1_of c4, l4, hr, r30, r31, r32, hlt, kone]
  repeat (with_reducible refine And.intro ?_ ?_; · (first | omega | decide))
  have pp : Pre h4 ((h4.alloc (.cells [.int .i64 0, .string ⟨#[]⟩, .slice none 0 0] .solo h4.n)).set h4.n (.cells [.int .i64 X.1.op, .string X.1.text, X.2] .solo h4.n)) := ((Pre.refl h4).alloc _).set (Nat.le_refl _) _
  have e5 : ((h4.alloc (.cells [.int .i64 0, .string ⟨#[]⟩, .slice none 0 0] .solo h4.n)).set h4.n (.cells [.int .i64 X.1.op, .string X.1.text, X.2] .solo h4.n)).ob h4.n = _ := set_same _ _
  have k5 : ((h4.alloc (.cells [.int .i64 0, .string ⟨#[]⟩, .slice none 0 0] .solo h4.n)).set h4.n (.cells [.int .i64 X.1.op, .string X.1.text, X.2] .solo h4.n)).n = h4.n + 1 := rfl
  generalize ((h4.alloc (.cells [.int .i64 0, .string ⟨#[]⟩, .slice none 0 0] .solo h4.n)).set h4.n (.cells [.int .i64 X.1.op, .string X.1.text, X.2] .solo h4.n)) = h5 at *
  have l5 : h4.n < h5.n := by omega
  have p5 := p4.trans pp
  have hC := l11In_c ns vn X.1.text h5 (rn.pre p5) (by omega)
  with_reducible refine Exists.elim (rdB (rr.pre p5) hi') (fun vi hv => ?_)
  with_reducible refine Exists.elim hv (fun vo hv => ?_)
  with_reducible refine Exists.elim hv (fun vc hv => ?_)
  have ev := hv.1
  have vlt := hv.2.1
  have vrd := hv.2.2
  clear hv
  subst ev
  have pe := q3.trans p5
  simp (maxSteps := 1000000) -implicitDefEqProofs only [push_cast, seval, e5, rd_of e5, rd1_of e5, l5, vrd, vlt]
  repeat (with_reducible refine And.intro ?_ ?_; · (first | omega | decide))
  cases hFi : F i
  · rw [hFi] at hgood
    simp (maxSteps := 1000000) -implicitDefEqProofs only [push_cast, seval]
    rw [wrapSucc (by omega)]
    exact ⟨i + 1, by kernel_rfl, ⟨⟨by omega, hgood rfl⟩, p5⟩, by omega⟩
  rw [hFi] at hbad hgood
  rcases opm_split X.1.op with e | e | e | e | e | e | e
  · rw [e] at e5
    have hb1 := hbad (by simp [badOp, e])
    simp (maxSteps := 1000000) -implicitDefEqProofs only [push_cast, seval, e5, rd_of e5, rd1_of e5, l5]
    exact ⟨by rw [hb1], pe.keep⟩
  · rw [e] at e5
    have hb1 := hbad (by simp [badOp, e])
    simp (maxSteps := 1000000) -implicitDefEqProofs only [push_cast, seval, e5, rd_of e5, rd1_of e5, l5]
    exact ⟨by rw [hb1], pe.keep⟩
  · rw [e] at e5
    have hb1 := hbad (by simp [badOp, e])
    simp (maxSteps := 1000000) -implicitDefEqProofs only [push_cast, seval, e5, rd_of e5, rd1_of e5, l5]
    exact ⟨by rw [hb1], pe.keep⟩
  · rw [e] at e5
    have hb1 := hbad (by simp [badOp, e])
    simp (maxSteps := 1000000) -implicitDefEqProofs only [push_cast, seval, e5, rd_of e5, rd1_of e5, l5]
    exact ⟨by rw [hb1], pe.keep⟩
  · rw [e] at e5
    simp (maxSteps := 1000000) -implicitDefEqProofs only [push_cast, seval, e5, rd_of e5, rd1_of e5, l5]
    with_reducible refine CD.to hC ?_
    have hb0 : badOp ns X.1 = ns.any (fun t => decide (t = X.1.text)) := by simp [badOp, e]
    rw [hb0] at hbad hgood
    generalize ns.any (fun t => decide (t = X.1.text)) = hin at *
    cases hin
    · simp (maxSteps := 1000000) -implicitDefEqProofs only [push_cast, seval]
      rw [wrapSucc (by omega)]
      exact ⟨i + 1, by kernel_rfl, ⟨⟨by omega, hgood rfl⟩, p5⟩, by omega⟩
    · have hb1 := hbad rfl
      simp (maxSteps := 1000000) -implicitDefEqProofs only [push_cast, seval]
      exact ⟨by rw [hb1], pe.keep⟩
  · rw [e] at e5
    simp (maxSteps := 1000000) -implicitDefEqProofs only [push_cast, seval, e5, rd_of e5, rd1_of e5, l5]
    with_reducible refine CD.to hC ?_
    have hb0 : badOp ns X.1 = ns.any (fun t => decide (t = X.1.text)) := by simp [badOp, e]
    rw [hb0] at hbad hgood
    generalize ns.any (fun t => decide (t = X.1.text)) = hin at *
    cases hin
    · simp (maxSteps := 1000000) -implicitDefEqProofs only [push_cast, seval]
      rw [wrapSucc (by omega)]
      exact ⟨i + 1, by kernel_rfl, ⟨⟨by omega, hgood rfl⟩, p5⟩, by omega⟩
    · have hb1 := hbad rfl
      simp (maxSteps := 1000000) -implicitDefEqProofs only [push_cast, seval]
      exact ⟨by rw [hb1], pe.keep⟩
  · have hg := hgood (by simp [badOp, e])
    simp (maxSteps := 1000000) -implicitDefEqProofs only [push_cast, seval, e5, rd_of e5, rd1_of e5, l5, decide_eq_false e.1, decide_eq_false e.2.1, decide_eq_false e.2.2.1, decide_eq_false e.2.2.2.1, decide_eq_false e.2.2.2.2.1, decide_eq_false e.2.2.2.2.2]
    rw [wrapSucc (by omega)]
    exact ⟨i + 1, by kernel_rfl, ⟨⟨by omega, hg⟩, p5⟩, by omega⟩
end Go.Proofs.YtdlpdfclljnmhaaGreat

namespace Go.Proofs.YtdlpdfclljnmhaaGreat
open Go Go.Sim Go.Proofs
set_option linter.unusedSimpArgs false
set_option linter.unusedVariables false
set_option maxRecDepth 100000
set_option maxHeartbeats 1000000
theorem markText_c (k : Nat) (h0 : 0 < k) (hk : k < 4000000000000) (h : AH) : CD Tryz.prog 47 [.int .i64 (k : Nat)] h (.string (mt k)) h := by
  refine CD.quiet ?_ (low_string _ _)
  refine CC.ofN Tryz.func47 Tryz.ntmps47 Tryz.results47 rfl (by decide) (by kernel_rfl) ?_
  simp (maxSteps := 1000000) -implicitDefEqProofs only [push_cast, seval]
  with_reducible refine bcase_d (fun hb => ?_) (fun hb => ?_)
  · exfalso; omega
  simp (maxSteps := 1000000) -implicitDefEqProofs only [push_cast, seval]
  refine WC.loopA (by kernel_rfl) [0, 3] [6, 7, 8, 9, 10, 11, 12, 13, 14, 15, 16, 17] (fun a : Nat × ByteArray => [.int .i64 (a.1 : Nat), .string a.2]) (fun a h' => (dg a.1 a.1 a.2 = dg k k ⟨#[]⟩ ∧ a.2.size + a.1 ≤ k) ∧ Pre h h') (fun a => a.1) (k, ⟨#[]⟩) (by kernel_rfl) ⟨⟨rfl, by show 0 + k ≤ k; omega⟩, Pre.refl _⟩ ?_
  intro a g h1 hJ
  have hd := hJ.1.1
  have hl := hJ.1.2
  have hp := hJ.2
  clear hJ
  simp (maxSteps := 1000000) -implicitDefEqProofs only [push_cast, seval]
  with_reducible refine bcase_d (fun hb => ?_) (fun hb => ?_)
  · have e1 : (IntKind.u8.wrap (IntKind.i64.wrap (48 + (a.1 : Int).tmod 10))).toNat = 48 + a.1 % 10 := by
      rw [Int.tmod_eq_emod_of_nonneg (by omega), w64 (by omega) (by omega), w8 (by omega) (by omega)]; omega
    have e2 : IntKind.i64.wrap ((a.1 : Int).tdiv 10) = ((a.1 / 10 : Nat) : Int) := by
      rw [Int.tdiv_eq_ediv_of_nonneg (by omega), w64 (by omega) (by omega)]; omega
    simp (maxSteps := 1000000) -implicitDefEqProofs only [push_cast, seval, e1, e2]
    have z1 : (ByteArray.mk #[UInt8.ofNat (48 + a.1 % 10)]).size = 1 := rfl
    refine And.intro (by rw [z1]; omega) ⟨(a.1 / 10, ⟨#[UInt8.ofNat (48 + a.1 % 10)]⟩ ++ a.2), by kernel_rfl, ⟨⟨?_, ?_⟩, hp.alloc _⟩, ?_⟩
    · rw [← hd, dg_step (k := a.1) (by omega)]
    · show (ByteArray.mk #[UInt8.ofNat (48 + a.1 % 10)] ++ a.2).size + a.1 / 10 ≤ k
      rw [ByteArray.size_append, z1]; omega
    · show a.1 / 10 < a.1
      omega
  · have e : a.1 = 0 := by omega
    have z1 : (ByteArray.mk #[109]).size = 1 := rfl
    rw [e, dg_zero] at hd
    rw [hd] at hl
    simp (maxSteps := 1000000) -implicitDefEqProofs only [push_cast, seval]
    refine And.intro (by rw [z1, hd]; omega) ?_
    repeat' (first | with_reducible (first | exact Keep.refl _ _ | assumption | exact byte_lt _ _ | apply Keep.alloc | (refine Keep.set ?_ ?_; rotate_left; · omega) | apply Pre.alloc | apply Pre.set | exact Pre.refl _ | exact le_alloc _ | (refine Pre.keep ?_; assumption) | (refine Pre.n ?_; assumption)) | ((with_reducible (first | refine bcase_d (fun hb => ?_) (fun hb => ?_) | refine bcase_mk (fun hb => ?_) (fun hb => ?_))) <;> try simp (maxSteps := 1000000) -implicitDefEqProofs only [push_cast, seval]) | with_reducible refine And.intro ?_ ?_ | omega | (simp only [alloc_n, set_n, kill_n]; omega) | (exfalso; omega))
    rw [hd]; rfl
/-- A slice whose cells are marked. -/
def fS (k : Nat) : Value := .string (mt k)
def fI (k : Nat) : Value := .int .i64 (k : Nat)
theorem markIntS_s (id n : Nat) (cs : List Value) (k : Nat) (h : AH) (e : h.ob id = .cells cs .solo id) (hid : id < h.n) (hl : cs.length = n * 1) (h0 : 0 < k) (hk : k + n * 1 < 4000000000000) (hn : n < 274877906944) :
    CC Tryz.prog 73 [.slice (some ⟨id, 0, none⟩) n 1, .int .i64 (k : Nat)] h (fun v h' => v = .int .i64 ((k + n * 1 : Nat) : Int) ∧ (∃ cs', h'.ob id = .cells cs' .solo id ∧ cs'.length = n * 1) ∧ h'.n = h.n ∧ ∀ j, j ≠ id → h'.ob j = h.ob j) := by
  refine CC.ofN Tryz.func73 Tryz.ntmps73 Tryz.results73 rfl (by decide) (by kernel_rfl) ?_
  simp (maxSteps := 1000000) -implicitDefEqProofs only [push_cast, seval]
  refine WC.loopA (by kernel_rfl) [1, 5] [6, 7, 8, 9, 10, 11, 12, 13, 14, 15, 16, 17] (fun a : Nat × Nat × List Value => [.int .i64 (a.2.1 : Nat), .int .i64 (a.1 : Nat)]) (fun a h' => (a.1 ≤ n ∧ a.2.1 = k + a.1 * 1 ∧ a.2.2.length = n * 1) ∧ h'.ob id = .cells a.2.2 .solo id ∧ h'.n = h.n ∧ ∀ j, j ≠ id → h'.ob j = h.ob j) (fun a => n - a.1) (0, k, cs) (by kernel_rfl) ⟨⟨Nat.zero_le _, rfl, hl⟩, e, rfl, fun _ _ => rfl⟩ ?_
  intro a g h1 hJ
  have hi := hJ.1.1
  have hK := hJ.1.2.1
  have hc := hJ.1.2.2
  have o1 := hJ.2.1
  have n1 := hJ.2.2.1
  have f1 := hJ.2.2.2
  clear hJ
  have l1 : id < h1.n := by omega
  simp (maxSteps := 1000000) -implicitDefEqProofs only [push_cast, seval]
  with_reducible refine bcase_d (fun hb => ?_) (fun hb => ?_)
  · have hi' : a.1 < n := by omega
    simp (maxSteps := 1000000) -implicitDefEqProofs only [push_cast, seval, o1, rd_of o1, rd1_of o1, l1]
    refine And.intro (by omega) (And.intro (by omega) (And.intro (by omega) ?_))
    rw [wrapSucc (by omega), wrapSucc (by omega)]
    exact ⟨(a.1 + 1, a.2.1 + 1, a.2.2.set (a.1 * 1) (.int .i64 (a.2.1 : Nat))), by kernel_rfl, ⟨⟨by show a.1 + 1 ≤ n; omega, by show a.2.1 + 1 = k + (a.1 + 1) * 1; omega, by show (List.set _ _ _).length = _; rw [List.length_set]; exact hc⟩, rfl, n1, fun j hj => (set_ne _ hj).trans (f1 j hj)⟩, by show n - (a.1 + 1) < n - a.1; omega⟩
  · have e1 : a.1 = n := by omega
    simp (maxSteps := 1000000) -implicitDefEqProofs only [push_cast, seval]
    exact ⟨by rw [hK, e1]; push_cast; rfl, ⟨_, o1, hc⟩, n1, f1⟩
theorem markRuleS_s (id n : Nat) (cs : List Value) (k : Nat) (h : AH) (e : h.ob id = .cells cs .solo id) (hid : id < h.n) (hl : cs.length = n * 3) (h0 : 0 < k) (hk : k + n * 3 < 4000000000000) (hn : n < 274877906944) :
    CC Tryz.prog 46 [.slice (some ⟨id, 0, none⟩) n 3, .int .i64 (k : Nat)] h (fun v h' => v = .int .i64 ((k + n * 3 : Nat) : Int) ∧ (∃ cs', h'.ob id = .cells cs' .solo id ∧ cs'.length = n * 3) ∧ h'.n = h.n ∧ ∀ j, j ≠ id → h'.ob j = h.ob j) := by
  refine CC.ofN Tryz.func46 Tryz.ntmps46 Tryz.results46 rfl (by decide) (by kernel_rfl) ?_
  simp (maxSteps := 1000000) -implicitDefEqProofs only [push_cast, seval]
  refine WC.loopA (by kernel_rfl) [1, 5] [6, 7, 8, 9, 10, 11, 12, 13, 14, 15, 16, 17, 18, 19, 20, 21, 22, 23, 24, 25, 26, 27, 28, 29, 30, 31, 32] (fun a : Nat × Nat × List Value => [.int .i64 (a.2.1 : Nat), .int .i64 (a.1 : Nat)]) (fun a h' => (a.1 ≤ n ∧ a.2.1 = k + a.1 * 3 ∧ a.2.2.length = n * 3) ∧ h'.ob id = .cells a.2.2 .solo id ∧ h'.n = h.n ∧ ∀ j, j ≠ id → h'.ob j = h.ob j) (fun a => n - a.1) (0, k, cs) (by kernel_rfl) ⟨⟨Nat.zero_le _, rfl, hl⟩, e, rfl, fun _ _ => rfl⟩ ?_
  intro a g h1 hJ
  have hi := hJ.1.1
  have hK := hJ.1.2.1
  have hc := hJ.1.2.2
  have o1 := hJ.2.1
  have n1 := hJ.2.2.1
  have f1 := hJ.2.2.2
  clear hJ
  have l1 : id < h1.n := by omega
  simp (maxSteps := 1000000) -implicitDefEqProofs only [push_cast, seval]
  with_reducible refine bcase_d (fun hb => ?_) (fun hb => ?_)
  · have hi' : a.1 < n := by omega
    with_reducible refine nameN (a.2.1 + 1) (fun K1 hK1 => ?_)
    have w1 : IntKind.i64.wrap ((a.2.1 : Int) + 1) = (K1 : Nat) := by rw [wrapSucc (by omega), hK1]
    with_reducible refine nameN (K1 + 1) (fun K2 hK2 => ?_)
    have w2 : IntKind.i64.wrap ((K1 : Int) + 1) = (K2 : Nat) := by rw [wrapSucc (by omega), hK2]
    with_reducible refine nameN (K2 + 1) (fun K3 hK3 => ?_)
    have w3 : IntKind.i64.wrap ((K2 : Int) + 1) = (K3 : Nat) := by rw [wrapSucc (by omega), hK3]
    simp (maxSteps := 1000000) -implicitDefEqProofs only [push_cast, seval, o1, rd_of o1, rd1_of o1, l1, w1]
    refine And.intro (by omega) (And.intro (by omega) (And.intro (by omega) ?_))
    simp (maxSteps := 1000000) -implicitDefEqProofs only [push_cast, seval, w2]
    refine And.intro (by omega) (And.intro (by omega) (And.intro (by omega) (And.intro (by omega) (And.intro (by omega) (And.intro (by omega) ?_)))))
    simp (maxSteps := 1000000) -implicitDefEqProofs only [push_cast, seval, w3]
    rw [wrapSucc (by omega)]
    exact ⟨(a.1 + 1, K3, ((a.2.2.set (a.1 * 3) (.int .i64 (a.2.1 : Nat))).set (a.1 * 3 + 1) (.int .i64 (K1 : Nat))).set (a.1 * 3 + 2) (.int .i64 (K2 : Nat))), by kernel_rfl, ⟨⟨by show a.1 + 1 ≤ n; omega, by show K3 = k + (a.1 + 1) * 3; omega, by show (List.set _ _ _).length = _; rw [List.length_set, List.length_set, List.length_set]; exact hc⟩, rfl, n1, fun j hj => (set_ne _ hj).trans (f1 j hj)⟩, by show n - (a.1 + 1) < n - a.1; omega⟩
  · have e1 : a.1 = n := by omega
    simp (maxSteps := 1000000) -implicitDefEqProofs only [push_cast, seval]
    exact ⟨by rw [hK, e1]; push_cast; rfl, ⟨_, o1, hc⟩, n1, f1⟩
/-- Nodes of the call's own, marked or not: their kids' slices stand in them, each in a slice of its own. -/
def KN (h : AH) (id : Nat) (cs : List Value) (D : List (Nd × Value)) : Prop := h.ob id = .cells cs .solo id ∧ cs.length = D.length * 3 ∧ (∀ j (hj : j < D.length), cs[j * 3 + 2]? = some D[j].2) ∧ ∀ x ∈ D, ∃ i ks, x.2 = .slice (some ⟨i, 0, none⟩) x.1.kids.length 1 ∧ h.ob i = .cells ks .solo i ∧ ks.length = x.1.kids.length * 1 ∧ i ≠ id ∧ i < h.n
theorem SoN.kn {n0 : Nat} {h : AH} {w : Value} {D : List (Nd × Value)} {id : Nat} {cs : List Value} (s : SoN n0 h w D id cs) : KN h id cs D := by
  refine ⟨s.ob, s.fill.1, fun j hj => ?_, fun x hx => ?_⟩
  · have := congrArg (·[2]?) (s.fill.2 j hj hj)
    simp only [List.getElem?_take, List.getElem?_drop, encD] at this
    simpa using this
  · obtain ⟨i, ks, e1, e2, e3, e4, e5⟩ := s.kids x hx
    exact ⟨i, ks, e1, e2, e3, by omega, e5⟩
/-- An object of the nodes. -/
def KB (id : Nat) (D : List (Nd × Value)) (j : Nat) : Prop := j = id ∨ ∃ x ∈ D, atBlock x.2 j
theorem markNodeS_s (id : Nat) (cs : List Value) (D : List (Nd × Value)) (k : Nat) (h : AH) (w : KN h id cs D) (hid : id < h.n) (h0 : 0 < k) (hk : k ≤ 1000) (hn : D.length ≤ 1048576) (hz : ∀ x ∈ D, x.1.kids.length ≤ 1048576) :
    CC Tryz.prog 45 [.slice (some ⟨id, 0, none⟩) D.length 3, .int .i64 (k : Nat)] h (fun v h' => (∃ k' : Nat, v = .int .i64 (k' : Nat) ∧ 0 < k' ∧ k' ≤ k + D.length * 1048578) ∧ h'.n = h.n ∧ ∀ j, ¬ KB id D j → h'.ob j = h.ob j) := by
  refine CC.ofN Tryz.func45 Tryz.ntmps45 Tryz.results45 rfl (by decide) (by kernel_rfl) ?_
  simp (maxSteps := 1000000) -implicitDefEqProofs only [push_cast, seval]
  refine WC.loopA (by kernel_rfl) [1, 5] [6, 7, 8, 9, 10, 11, 12, 13, 14, 15, 16, 17, 18, 19, 20, 21, 22, 23, 24, 25, 26, 27, 28, 29, 30, 31, 32, 33] (fun a : Nat × Nat × List Value => [.int .i64 (a.2.1 : Nat), .int .i64 (a.1 : Nat)]) (fun a h' => (a.1 ≤ D.length ∧ 0 < a.2.1 ∧ a.2.1 ≤ k + a.1 * 1048578) ∧ KN h' id a.2.2 D ∧ h'.n = h.n ∧ ∀ j, ¬ KB id D j → h'.ob j = h.ob j) (fun a => D.length - a.1) (0, k, cs) (by kernel_rfl) ⟨⟨Nat.zero_le _, h0, by show k ≤ k + 0 * 1048578; omega⟩, w, rfl, fun _ _ => rfl⟩ ?_
  intro a g h1 hJ
  have hi := hJ.1.1
  have hK0 := hJ.1.2.1
  have hK := hJ.1.2.2
  have kn := hJ.2.1
  have n1 := hJ.2.2.1
  have f1 := hJ.2.2.2
  clear hJ
  have o1 := kn.1
  have hc := kn.2.1
  have l1 : id < h1.n := by omega
  simp (maxSteps := 1000000) -implicitDefEqProofs only [push_cast, seval]
  with_reducible refine bcase_d (fun hb => ?_) (fun hb => ?_)
  · have hi' : a.1 < D.length := by omega
    have kd := kn.2.2.1 a.1 hi'
    have hzx := hz _ (List.getElem_mem hi')
    have hxm := List.getElem_mem hi'
    have kk := kn.2.2.2 _ hxm
    generalize D[a.1] = X at *
    with_reducible refine nameN (a.2.1 + 1) (fun K1 hK1 => ?_)
    have w1 : IntKind.i64.wrap ((a.2.1 : Int) + 1) = (K1 : Nat) := by rw [wrapSucc (by omega), hK1]
    with_reducible refine nameN (K1 + 1) (fun K2 hK2 => ?_)
    have w2 : IntKind.i64.wrap ((K1 : Int) + 1) = (K2 : Nat) := by rw [wrapSucc (by omega), hK2]
    simp (maxSteps := 1000000) -implicitDefEqProofs only [push_cast, seval, o1, rd_of o1, rd1_of o1, l1, w1]
    refine And.intro (by omega) (And.intro (by omega) (And.intro (by omega) ?_))
    with_reducible refine CD.to (markText_c K1 (by omega) (by omega) _) ?_
    have rk : ((a.2.2.set (a.1 * 3) (.int .i64 (a.2.1 : Nat))).set (a.1 * 3 + 1) (.string (mt K1)))[a.1 * 3 + 2]? = some X.2 := by
      rw [List.getElem?_set_ne (by omega), List.getElem?_set_ne (by omega)]; exact kd
    with_reducible refine Exists.elim kk (fun i kk => ?_)
    with_reducible refine Exists.elim kk (fun ks kk => ?_)
    have ke := kk.1
    have ko := kk.2.1
    have kl := kk.2.2.1
    have kne := kk.2.2.2.1
    have klt := kk.2.2.2.2
    clear kk
    rw [ke] at rk
    simp (maxSteps := 1000000) -implicitDefEqProofs only [push_cast, seval, o1, rd_of o1, rd1_of o1, l1, w1, w2, rk]
    refine And.intro (by omega) (And.intro (by omega) (And.intro (by omega) (And.intro (by omega) (And.intro (by omega) ?_))))
    simp (maxSteps := 1000000) -implicitDefEqProofs only [push_cast, seval, o1, rd_of o1, rd1_of o1, l1, w1, w2, rk]
    have oH : (h1.set id (.cells ((a.2.2.set (a.1 * 3) (.int .i64 (a.2.1 : Nat))).set (a.1 * 3 + 1) (.string (mt K1))) .solo id)).ob id = _ := set_same _ _
    have fH : ∀ j, j ≠ id → (h1.set id (.cells ((a.2.2.set (a.1 * 3) (.int .i64 (a.2.1 : Nat))).set (a.1 * 3 + 1) (.string (mt K1))) .solo id)).ob j = h1.ob j := fun j hj => set_ne _ hj
    have nH : (h1.set id (.cells ((a.2.2.set (a.1 * 3) (.int .i64 (a.2.1 : Nat))).set (a.1 * 3 + 1) (.string (mt K1))) .solo id)).n = h1.n := rfl
    generalize (h1.set id (.cells ((a.2.2.set (a.1 * 3) (.int .i64 (a.2.1 : Nat))).set (a.1 * 3 + 1) (.string (mt K1))) .solo id)) = H at *
    with_reducible refine CC.mono (markIntS_s i X.1.kids.length ks K2 H ((fH i kne).trans ko) (by omega) kl (by omega) (by omega) (by omega)) (fun v h2 hv => ?_)
    have e1 := hv.1
    have e2 := hv.2.1
    have n2 := hv.2.2.1
    have f2 := hv.2.2.2
    clear hv
    with_reducible refine nameN (K2 + X.1.kids.length * 1) (fun K3 hK3 => ?_)
    rw [← hK3] at e1
    subst e1
    simp (maxSteps := 1000000) -implicitDefEqProofs only [push_cast, seval]
    rw [wrapSucc (by omega)]
    refine ⟨(a.1 + 1, K3, (a.2.2.set (a.1 * 3) (.int .i64 (a.2.1 : Nat))).set (a.1 * 3 + 1) (.string (mt K1))), by kernel_rfl, ⟨⟨by show a.1 + 1 ≤ D.length; omega, by show 0 < K3; omega, by show K3 ≤ k + (a.1 + 1) * 1048578; omega⟩, ⟨(f2 id (Ne.symm kne)).trans oH, by show (List.set _ _ _).length = _; rw [List.length_set, List.length_set]; exact hc, fun j hj => ?_, fun y hy => ?_⟩, by omega, fun j hj => ?_⟩, by show D.length - (a.1 + 1) < D.length - a.1; omega⟩
    · show (List.set _ _ _)[j * 3 + 2]? = _
      rw [List.getElem?_set_ne (by omega), List.getElem?_set_ne (by omega)]; exact kn.2.2.1 j hj
    · obtain ⟨iy, ky, q1, q2, q3, q4, q5⟩ := kn.2.2.2 y hy
      by_cases ei : iy = i
      · subst ei
        obtain ⟨cs2, c1, c2⟩ := e2
        rw [ko] at q2
        injection q2 with q2
        subst q2
        exact ⟨iy, cs2, q1, c1, by omega, q4, by omega⟩
      · exact ⟨iy, ky, q1, (f2 iy ei).trans ((fH iy q4).trans q2), q3, q4, by omega⟩
    · have j1 : j ≠ id := fun e => hj (.inl e)
      have j2 : j ≠ i := fun e => hj (.inr ⟨X, hxm, by rw [ke]; exact e.symm⟩)
      exact (f2 j j2).trans ((fH j j1).trans (f1 j hj))
  · have e1 : a.1 = D.length := by omega
    simp (maxSteps := 1000000) -implicitDefEqProofs only [push_cast, seval]
    exact ⟨⟨a.2.1, rfl, hK0, by rw [e1] at hK; exact hK⟩, n1, f1⟩
theorem markProgram_s (wN wR : Value) (D : List (Nd × Value)) (R : List Ru) (n0 : Nat) (h : AH) (s : SoG n0 h wN wR D R) (hn : D.length ≤ 1048576) (hr : R.length ≤ 1048576) (hz : ∀ x ∈ D, x.1.kids.length ≤ 1048576) :
    CC Tryz.prog 17 [.agg #[wN, wR], .int .i64 1] h (fun v h' => (∃ k' : Nat, v = .int .i64 (k' : Nat)) ∧ h.n ≤ h'.n ∧ ∀ j, j < h.n → ¬ (atBlock wN j ∨ atBlock wR j ∨ ∃ x ∈ D, atBlock x.2 j) → h'.ob j = h.ob j) := by
  obtain ⟨id, cs, sn⟩ := s.nodes
  obtain ⟨ir, cr, rfl, ro, rl, r0, rlt⟩ := s.rules
  have ap := s.apart ir rfl
  obtain rfl := sn.e
  have kn := sn.kn
  have hid := sn.hi
  have hne : ir ≠ id := fun e => ap.1 (by rw [e]; exact rfl)
  have hnk : ∀ x ∈ D, ¬ atBlock x.2 ir := ap.2
  have kn' : KN (h.alloc (.cells [.slice (some ⟨id, 0, none⟩) D.length 3, .slice (some ⟨ir, 0, none⟩) R.length 3] .solo h.n)) id cs D := ⟨(alloc_lt _ hid).trans kn.1, kn.2.1, kn.2.2.1, fun x hx => by
    obtain ⟨i, ks, e1, e2, e3, e4, e5⟩ := kn.2.2.2 x hx
    exact ⟨i, ks, e1, (alloc_lt _ e5).trans e2, e3, e4, Nat.lt_succ_of_lt e5⟩⟩
  have kb : ∀ j, KB id D j → j < h.n := fun j hj => by
    rcases hj with rfl | ⟨x, hx, e⟩
    · exact hid
    · exact ((sn.kids x hx).range e).2
  refine CC.ofN Tryz.func17 Tryz.ntmps17 Tryz.results17 rfl (by decide) (by kernel_rfl) ?_
  simp (maxSteps := 1000000) -implicitDefEqProofs only [push_cast, seval]
  have hM := markNodeS_s id cs D 1 _ kn' (Nat.lt_succ_of_lt hid) (by omega) (by omega) hn hz
  with_reducible refine CC.mono hM (fun v h1 hv => ?_)
  with_reducible refine Exists.elim hv.1 (fun k1 hk => ?_)
  have e1 := hk.1
  have k0 := hk.2.1
  have kb1 := hk.2.2
  have n1 := hv.2.1
  have f1 := hv.2.2
  clear hv hk hM
  subst e1
  have n1' : h1.n = h.n + 1 := n1
  have hp : ¬ KB id D h.n := fun e => by have := kb _ e; omega
  have o1 := (f1 h.n hp).trans (alloc_same _)
  have l1 : h.n < h1.n := by omega
  have hir : ¬ KB id D ir := fun e => by
    rcases e with e | ⟨x, hx, e⟩
    · exact hne e
    · exact hnk x hx e
  have or1 : h1.ob ir = .cells cr .solo ir := (f1 ir hir).trans ((alloc_lt _ rlt).trans ro)
  simp (maxSteps := 1000000) -implicitDefEqProofs only [push_cast, seval, o1, rd_of o1, rd1_of o1, l1]
  with_reducible refine CC.mono (markRuleS_s ir R.length cr k1 h1 or1 (by omega) rl k0 (by omega) (by omega)) (fun v h2 hv => ?_)
  have e1 := hv.1
  have n2 := hv.2.2.1
  have f2 := hv.2.2.2
  clear hv
  with_reducible refine nameN (k1 + R.length * 3) (fun K3 hK3 => ?_)
  rw [← hK3] at e1
  subst e1
  simp (maxSteps := 1000000) -implicitDefEqProofs only [push_cast, seval]
  refine ⟨⟨K3, rfl⟩, by omega, fun j hj hb => ?_⟩
  rw [f2 j (fun e => hb (.inr (.inl e.symm))), f1 j (fun e => hb (by
    rcases e with e | e
    · exact .inl e.symm
    · exact .inr (.inr e))), alloc_lt _ hj]
theorem Own.val {h : AH} {id off n : Nat} {all : List Value} {m k : Nat} (o : Own h id off n 1 all) (hm : Mkd fS k all m) (hmn : m ≤ n) : RdV h (.slice (some ⟨id, off, none⟩) m 1) 1 encTx ((List.range m).map fun j => mt (k + j)) := by
  refine .inr ⟨id, off, 1, by simp, ?_, o.lt⟩
  have hr := o.rd (lo := 0) (m := m) (by omega)
  rw [List.length_map, List.length_range, Nat.mul_one, show off = off + 0 from rfl, hr, List.drop_zero]
  congr 1
  have ho := o.len
  rw [encTx_row]
  apply List.ext_getElem?
  intro j
  rw [List.getElem?_take]
  by_cases hj : j < m
  · rw [if_pos hj, hm j hj]
    simp only [List.map_map, List.getElem?_map, List.getElem?_range hj, Option.map_some, Function.comp_apply]
    rw [show Go.Proofs.encStr (asL (mt (k + j))) = .string (mt (k + j)) from congrArg Value.string (asB_asL _)]
    rfl
  · rw [if_neg hj, List.getElem?_eq_none (by simp; omega)]
theorem markString_p {n0 m : Nat} (v : Value) (k : Nat) (h : AH) (o : OwnP n0 h v m) (h0 : 0 < k) (hk : k + m < 4000000000000) (hm : m < 274877906944) :
    CC Tryz.prog 18 [v, .int .i64 (k : Nat)] h (fun r h' => r = .int .i64 ((k + m : Nat) : Int) ∧ RdV h' v 1 encTx ((List.range m).map fun j => mt (k + j)) ∧ h'.n = h.n ∧ ∀ j, j < n0 → h'.ob j = h.ob j) := by
  refine CC.withLin (fun lin => ?_)
  have lo := o.lo
  rcases o.at_ with ⟨c, rfl, rfl⟩ | ⟨id, off, n, all, rfl, b, hmn, o⟩
  · refine (show CD Tryz.prog 18 [.slice none 0 c, .int .i64 (k : Nat)] h (.int .i64 (k : Nat)) h from ?_).to ⟨rfl, RdV.nil _ _ _ _, rfl, fun _ _ => rfl⟩
    refine CD.quiet ?_ (low_int _ _ _)
    refine CC.ofN Tryz.func18 Tryz.ntmps18 Tryz.results18 rfl (by decide) (by kernel_rfl) ?_
    simp (maxSteps := 1000000) -implicitDefEqProofs only [push_cast, seval]
    refine WC.loopA (by kernel_rfl) [1, 5] [6, 7, 8, 9, 10, 11, 12, 13, 14, 15, 16, 17, 18] (fun a : Nat => [.int .i64 (k : Nat), .int .i64 (a : Nat)]) (fun a h' => a = 0 ∧ Pre h h') (fun a => 1 - a) 0 (by kernel_rfl) ⟨rfl, Pre.refl _⟩ ?_
    intro a g h1 hJ
    have e := hJ.1
    have hp := hJ.2
    clear hJ
    subst e
    simp (maxSteps := 1000000) -implicitDefEqProofs only [push_cast, seval]
    repeat' (first | with_reducible (first | exact Keep.refl _ _ | assumption | exact byte_lt _ _ | apply Keep.alloc | (refine Keep.set ?_ ?_; rotate_left; · omega) | apply Pre.alloc | apply Pre.set | exact Pre.refl _ | exact le_alloc _ | (refine Pre.keep ?_; assumption) | (refine Pre.n ?_; assumption)) | ((with_reducible (first | refine bcase_d (fun hb => ?_) (fun hb => ?_) | refine bcase_mk (fun hb => ?_) (fun hb => ?_))) <;> try simp (maxSteps := 1000000) -implicitDefEqProofs only [push_cast, seval]) | with_reducible refine And.intro ?_ ?_ | omega | (simp only [alloc_n, set_n, kill_n]; omega) | (exfalso; omega))
  refine CC.ofN Tryz.func18 Tryz.ntmps18 Tryz.results18 rfl (by decide) (by kernel_rfl) ?_
  simp (maxSteps := 1000000) -implicitDefEqProofs only [push_cast, seval]
  refine WC.loopA (by kernel_rfl) [1, 5] [6, 7, 8, 9, 10, 11, 12, 13, 14, 15, 16, 17, 18] (fun a : Nat × Nat × List Value => [.int .i64 (a.2.1 : Nat), .int .i64 (a.1 : Nat)]) (fun a h' => (a.1 ≤ m ∧ a.2.1 = k + a.1 ∧ Mkd fS k a.2.2 a.1) ∧ Own h' id off n 1 a.2.2 ∧ Wr h h' id) (fun a => m - a.1) (0, k, all) (by kernel_rfl) ⟨⟨Nat.zero_le _, rfl, Mkd.zero _ _ _⟩, o, Wr.refl _ _⟩ ?_
  intro a g h1 hJ
  have hi := hJ.1.1
  have hK := hJ.1.2.1
  have hmk := hJ.1.2.2
  have o0 := hJ.2.1
  have r0 := hJ.2.2
  clear hJ
  have l0 := o0.lt
  have nl := o0.len
  simp (maxSteps := 1000000) -implicitDefEqProofs only [push_cast, seval]
  with_reducible refine bcase_d (fun hb => ?_) (fun hb => ?_)
  · have hi' : a.1 < m := by omega
    with_reducible refine nameN (a.2.1 + 1) (fun K1 hK1 => ?_)
    have w1 : IntKind.i64.wrap ((a.2.1 : Int) + 1) = (K1 : Nat) := by rw [wrapSucc (by omega), hK1]
    simp (maxSteps := 1000000) -implicitDefEqProofs only [push_cast, seval]
    with_reducible refine CD.to (markText_c a.2.1 (by omega) (by omega) _) ?_
    simp (maxSteps := 1000000) -implicitDefEqProofs only [push_cast, seval, l0, w1]
    refine And.intro (by omega) (And.intro (by omega) ?_)
    refine (show Own _ id off n 1 _ from o0).wr (lo := a.1 * 1) (vs := [.string (mt a.2.1)]) (by simp only [List.length_cons, List.length_nil]; omega) (fun h2 o1 q1 => ?_)
    have l1 := o1.lt
    simp (maxSteps := 1000000) -implicitDefEqProofs only [push_cast, seval, l1, w1]
    rw [wrapSucc (by omega)]
    refine ⟨(a.1 + 1, K1, putL (a.2.2) (a.1 * 1) [.string (mt a.2.1)]), by kernel_rfl, ⟨⟨by show a.1 + 1 ≤ m; omega, by show K1 = k + (a.1 + 1); omega, ?_⟩, o1, r0.trans (q1)⟩, by show m - (a.1 + 1) < m - a.1; omega⟩
    have := (hmk).put (v := .string (mt a.2.1)) (by (try simp only [putL_length]); omega) (by rw [hK]; rfl)
    rw [Nat.mul_one]
    exact this
  · have e : a.1 = m := by omega
    simp (maxSteps := 1000000) -implicitDefEqProofs only [push_cast, seval]
    rw [e] at hmk
    refine ⟨by rw [hK, e]; push_cast; rfl, Own.val o0 hmk hmn, r0.n, fun j hj => ?_⟩
    refine r0.ob j (by omega) (fun l hl e => ?_)
    have := lin j l e
    have := lo id rfl l hl
    omega
theorem heldString_p {m : Nat} (v : Value) (k : Nat) (h : AH) (r : RdV h v 1 encTx ((List.range m).map fun j => mt (k + j))) (h0 : 0 < k) (hk : k + m < 4000000000000) (hm : m < 274877906944) :
    CD Tryz.prog 19 [v, .int .i64 (k : Nat)] h (.int .i64 ((k + m : Nat) : Int)) h := by
  refine CD.quiet ?_ (low_int _ _ _)
  obtain ⟨A, c, rfl, _⟩ := r.rde (fun _ => rfl)
  have hlen : ((List.range m).map fun j => mt (k + j)).length = m := by simp
  rw [hlen] at r ⊢
  refine CC.ofN Tryz.func19 Tryz.ntmps19 Tryz.results19 rfl (by decide) (by kernel_rfl) ?_
  simp (maxSteps := 1000000) -implicitDefEqProofs only [push_cast, seval]
  refine WC.loopA (by kernel_rfl) [1, 5] [4, 6, 7, 8, 9, 10, 11, 12, 13, 14, 15, 16, 17, 18, 19, 20] (fun a : Nat × Nat => [.int .i64 (a.2 : Nat), .int .i64 (a.1 : Nat)]) (fun a h' => (a.1 ≤ m ∧ a.2 = k + a.1) ∧ Pre h h') (fun a => m - a.1) (0, k) (by kernel_rfl) ⟨⟨Nat.zero_le _, rfl⟩, Pre.refl _⟩ ?_
  intro a g h1 hJ
  have hi := hJ.1.1
  have hK := hJ.1.2
  have hp := hJ.2
  clear hJ
  simp (maxSteps := 1000000) -implicitDefEqProofs only [push_cast, seval]
  with_reducible refine bcase_d (fun hb => ?_) (fun hb => ?_)
  · have hi' : a.1 < m := by omega
    with_reducible refine nameN (a.2 + 1) (fun K1 hK1 => ?_)
    have w1 : IntKind.i64.wrap ((a.2 : Int) + 1) = (K1 : Nat) := by rw [wrapSucc (by omega), hK1]
    have rk := rdS (r.pre hp) (i := a.1) (by rw [hlen]; exact hi') rfl
    with_reducible refine Exists.elim rk (fun id hv => ?_)
    with_reducible refine Exists.elim hv (fun off hv => ?_)
    have ev := hv.1
    have l1 := hv.2.1
    have g0 := hv.2.2
    clear hv rk
    subst ev
    rw [List.getElem_map, List.getElem_range, ← hK] at g0
    simp (maxSteps := 1000000) -implicitDefEqProofs only [push_cast, seval, l1, w1, g0]
    refine WC.draw' (by kernel_rfl) (by kernel_rfl) (.q 0 (.q 1 (.q 2 (.q 3 (.q 4 (.c 5 (.q 6 (.done)))))))) (by kernel_rfl) ?_
    simp (maxSteps := 1000000) -implicitDefEqProofs only [push_cast, seval, l1, w1, g0]
    refine And.intro (by omega) (And.intro (by omega) ?_)
    simp (maxSteps := 1000000) -implicitDefEqProofs only [push_cast, seval, l1, w1, g0]
    refine CQ.pure (fun h' => markText_c a.2 (by omega) (by omega) h') ?_
    simp (maxSteps := 1000000) -implicitDefEqProofs only [push_cast, seval, l1, w1, g0]
    rw [wrapSucc (by omega)]
    exact ⟨(a.1 + 1, K1), by kernel_rfl, ⟨⟨by show a.1 + 1 ≤ m; omega, by show K1 = k + (a.1 + 1); omega⟩, hp⟩, by show m - (a.1 + 1) < m - a.1; omega⟩
  · have e : a.1 = m := by omega
    simp (maxSteps := 1000000) -implicitDefEqProofs only [push_cast, seval]
    refine ⟨by rw [hK, e]; push_cast; rfl, hp.keep⟩
end Go.Proofs.YtdlpdfclljnmhaaGreat
namespace Go.Proofs.YtdlpdfclljnmhaaGreat
open Go Go.Sim Go.Proofs
set_option linter.unusedSimpArgs false
set_option linter.unusedVariables false
set_option maxRecDepth 100000
set_option maxHeartbeats 1000000
def nmX (N : List Nd) (R : List Ru) : List ByteArray := if programOk ⟨N, R⟩ = true then nmC N (reach N R) else []
theorem nmX_len (N : List Nd) (R : List Ru) (h : N.length ≤ 1048576) : (nmX N R).length ≤ 1048576 := by
  unfold nmX
  split
  · exact Nat.le_trans (nmC_len _ _) h
  · exact Nat.zero_le _
theorem nmX_of {L : List (Nd × Value)} {R : List Ru} {ns : List ByteArray} (h1 : programOk ⟨L.map Prod.fst, R⟩ = true → NmOk (nmAt (L.map Prod.fst) (reach (L.map Prod.fst) R) L.length) ns) (h2 : programOk ⟨L.map Prod.fst, R⟩ = false → ns = []) : ns = nmX (L.map Prod.fst) R := by
  unfold nmX
  cases h : programOk ⟨L.map Prod.fst, R⟩
  · rw [if_neg (by simp)]; exact h2 h
  · rw [if_pos rfl]
    have := nmC_ok (L.map Prod.fst) (reach (L.map Prod.fst) R)
    rw [List.length_map] at this
    exact (h1 h).uniq this
theorem Names_i' (L : List (Nd × Value)) (R : List Ru) (vN vR : Value) (h : AH) (w : RdG h vN vR L R) (hz : SzG L R) :
    CC Tryz.prog 15 [.agg #[vN, vR]] h (fun v h' => RdV h' v 1 encTx (nmX (L.map Prod.fst) R) ∧ OwnP h.n h' v (nmX (L.map Prod.fst) R).length ∧ Pre h h') :=
  (Names_i L R vN vR h w hz).mono fun v h' ⟨ns, r, o, h1, h2, p⟩ => by
    obtain rfl := nmX_of h1 h2
    exact ⟨r, o, p⟩
theorem Names_s' (L : List (Nd × Value)) (R : List Ru) (vN vR : Value) (h : AH) (w : RdG h vN vR L R) (hz : SzG L R) :
    CC Tryz.prog 14 [.agg #[vN, vR]] h (fun v h' => RdV h' v 1 encTx (nmX (L.map Prod.fst) R) ∧ Pre h h') :=
  (Names_s L R vN vR h w hz).mono fun v h' ⟨ns, r, h1, h2, p, _⟩ => by
    obtain rfl := nmX_of h1 h2
    exact ⟨r, p⟩
theorem SoG.pre {n0 : Nat} {h h' : AH} {wN wR : Value} {D : List (Nd × Value)} {R : List Ru} (s : SoG n0 h wN wR D R) (p : Pre h h') : SoG n0 h' wN wR D R := by
  obtain ⟨id, cs, sn⟩ := s.nodes
  exact ⟨⟨id, cs, sn.keep p.n (fun i e => p.ob i (sn.range e).2)⟩, s.rules.pre p, s.apart⟩
theorem SoG.range {n0 : Nat} {h : AH} {wN wR : Value} {D : List (Nd × Value)} {R : List Ru} (s : SoG n0 h wN wR D R) {i : Nat} (e : atBlock wN i ∨ atBlock wR i ∨ ∃ x ∈ D, atBlock x.2 i) : n0 ≤ i ∧ i < h.n := by
  obtain ⟨id, cs, sn⟩ := s.nodes
  rcases e with e | e | e
  · exact sn.range (.inl e)
  · exact s.rules.range e
  · exact sn.range (.inr e)
theorem eqT_v (l : List ByteArray) (v w : Value) (h : AH) (hA : RdV h v 1 encTx l) (hB : RdV h w 1 encTx l) (hl : l.length < 274877906944) :
    CD Tryz.prog 16 [v, w] h (.bool true) h := by
  obtain ⟨A, ca, rfl, rA⟩ := hA.rde (fun _ => rfl)
  obtain ⟨B, cb, rfl, rB⟩ := hB.rde (fun _ => rfl)
  have := eqStringS_c l l A B ca cb h rA rB hl hl
  rwa [decide_eq_true rfl] at this
theorem law_Names (L : List (Nd × Value)) (R : List Ru) (vN vR : Value) (h : AH) (r0 : RdG h vN vR L R) (hz0 : ∀ x ∈ L, x.1.text.size ≤ maxLen ∧ x.1.kids.length ≤ maxLen) (hn0 : L.length ≤ maxLen) (hr0 : R.length ≤ maxLen) (big : Big h) : CE Tryz.prog 5 [.agg #[vN, vR]] h fun v _ => v = .bool true := by
  have u00 := r0.nodes.one
  have u01 := r0.rules.one
  have pb : Pre h (h.alloc (.cells [vN, vR] .solo h.n)) := (Pre.refl _).alloc _
  have hS := szProgram_c L R vN vR 1048576 _ (r0.pre pb) hz0 hn0 hr0 (by omega)
  refine CE.ofN Tryz.func5 Tryz.ntmps5 Tryz.results5 rfl (by kernel_rfl) ?_
  simp (maxSteps := 1000000) -implicitDefEqProofs only [push_cast, seval, u00, u01]
  repeat (with_reducible refine And.intro ?_ ?_; · (first | omega | decide))
  with_reducible refine CD.to hS ?_
  simp (maxSteps := 1000000) -implicitDefEqProofs only [push_cast, seval]
  with_reducible refine bcase_d (fun hb => ?_) (fun hb => ?_)
  · simp (maxSteps := 1000000) -implicitDefEqProofs only [push_cast, seval]
  have hw : progW L R ≤ 1048576 := by
    by_cases e : (1048576 : Int) - progW L R < 0
    · exact absurd (by rw [if_pos e]; decide) hb
    · omega
  have hz := SzG.ofW hw
  simp (maxSteps := 1000000) -implicitDefEqProofs only [push_cast, seval, u00, u01]
  with_reducible refine CC.mono (toProgram_c L R vN vR _ (r0.pre pb) hz) (fun v h1 hv => ?_)
  with_reducible refine Exists.elim hv (fun a1 hw => ?_)
  with_reducible refine Exists.elim hw (fun b1 hw => ?_)
  with_reducible refine Exists.elim hw (fun D1 hw => ?_)
  have e1 := hw.1
  have m1 := hw.2.1
  have r1 := hw.2.2.1
  have p1 := hw.2.2.2.1
  clear hv hw
  subst e1
  have z1 := hz.of m1
  have u10 := r1.nodes.one
  have u11 := r1.rules.one
  have q1 : Pre h h1 := pb.trans p1
  have l1 : h.n < h1.n := Nat.lt_of_lt_of_le (lt_alloc _) p1.n
  have o1 : h1.ob h.n = _ := (p1.ob _ (lt_alloc _)).trans (alloc_same _)
  simp (maxSteps := 1000000) -implicitDefEqProofs only [push_cast, seval, o1, rd_of o1, rd1_of o1, l1]
  with_reducible refine CC.mono (Names_s' D1 R a1 b1 _ r1 z1) (fun w0 h2 hv => ?_)
  have rw0 := hv.1
  have p2 := hv.2
  clear hv
  rw [m1] at rw0
  have hnl := nmX_len (L.map Prod.fst) R (by rw [List.length_map]; have := hz.n; omega)
  generalize hns : nmX (L.map Prod.fst) R = ns at *
  have uw := rw0.one
  have q2 : Pre h h2 := q1.trans p2
  have l2 : h.n < h2.n := Nat.lt_of_lt_of_le l1 p2.n
  have o2 : h2.ob h.n = _ := (p2.ob _ l1).trans o1
  simp (maxSteps := 1000000) -implicitDefEqProofs only [push_cast, seval, o2, rd_of o2, rd1_of o2, l2, u00, u01, uw]
  with_reducible refine CC.mono (toProgram_c L R vN vR _ (r0.pre q2) hz) (fun v h3 hv => ?_)
  with_reducible refine Exists.elim hv (fun a3 hw => ?_)
  with_reducible refine Exists.elim hw (fun b3 hw => ?_)
  with_reducible refine Exists.elim hw (fun D3 hw => ?_)
  have e1 := hw.1
  have m3 := hw.2.1
  have r3 := hw.2.2.1
  have p3 := hw.2.2.2.1
  have s3 := hw.2.2.2.2
  clear hv hw
  subst e1
  have z3 := hz.of m3
  have u30 := r3.nodes.one
  have u31 := r3.rules.one
  have q3 : Pre h h3 := q2.trans p3
  have l3 : h.n < h3.n := Nat.lt_of_lt_of_le l2 p3.n
  have o3 : h3.ob h.n = _ := (p3.ob _ l2).trans o2
  simp (maxSteps := 1000000) -implicitDefEqProofs only [push_cast, seval, o3, rd_of o3, rd1_of o3, l3, u30, u31]
  have p4 : Pre h3 ((h3.alloc (.cells [.slice none 0 0, .slice none 0 0] .solo h3.n)).set h3.n (.cells [a3, b3] .solo h3.n)) := ((Pre.refl h3).alloc _).set (Nat.le_refl _) _
  have o4 : ((h3.alloc (.cells [.slice none 0 0, .slice none 0 0] .solo h3.n)).set h3.n (.cells [a3, b3] .solo h3.n)).ob h3.n = AOb.cells [a3, b3] .solo h3.n := set_same _ _
  have n4 : ((h3.alloc (.cells [.slice none 0 0, .slice none 0 0] .solo h3.n)).set h3.n (.cells [a3, b3] .solo h3.n)).n = h3.n + 1 := rfl
  generalize ((h3.alloc (.cells [.slice none 0 0, .slice none 0 0] .solo h3.n)).set h3.n (.cells [a3, b3] .solo h3.n)) = h4 at *
  have k4 : h3.n < h4.n := by omega
  have l4 : h.n < h4.n := by omega
  have o44 : h4.ob h.n = _ := (p4.ob _ l3).trans o3
  have q4 := q3.trans p4
  simp (maxSteps := 1000000) -implicitDefEqProofs only [push_cast, seval, o4, rd_of o4, rd1_of o4, k4, u30, u31]
  have hN5 := Names_i' D3 R a3 b3 h4 (r3.pre p4) z3
  rw [m3, hns] at hN5
  with_reducible refine CC.mono hN5 (fun g0 h5 hv => ?_)
  have rg := hv.1
  have og := hv.2.1
  have p5 := hv.2.2
  clear hv hN5
  have ug := rg.one
  have rw5 := rw0.pre ((p3.trans p4).trans p5)
  have q5 := q4.trans p5
  have o5 := (p5.ob _ k4).trans o4
  have o55 := (p5.ob _ l4).trans o44
  have k5 : h3.n < h5.n := Nat.lt_of_lt_of_le k4 p5.n
  have l5 : h.n < h5.n := Nat.lt_of_lt_of_le l4 p5.n
  simp (maxSteps := 1000000) -implicitDefEqProofs only [push_cast, seval, o5, rd_of o5, rd1_of o5, k5]
  with_reducible refine CD.to (eqT_v ns g0 w0 h5 rg rw5 (by omega)) ?_
  simp (maxSteps := 1000000) -implicitDefEqProofs only [push_cast, seval, o5, rd_of o5, rd1_of o5, o55, rd_of o55, rd1_of o55, k5, l5, u30, u31]
  refine WC.draw' (by kernel_rfl) (by kernel_rfl) (.q 0 (.q 1 (.a 2 false (.a 3 false (.q 4 (.done)))))) (by kernel_rfl) ?_
  simp (maxSteps := 1000000) -implicitDefEqProofs only [push_cast, seval, o5, rd_of o5, rd1_of o5, o55, rd_of o55, rd1_of o55, k5, l5, u00, u01, u30, u31]
  with_reducible refine CC.mono (toProgram_c L R vN vR _ (r0.pre q5) hz) (fun v h6 hv => ?_)
  with_reducible refine Exists.elim hv (fun a6 hw => ?_)
  with_reducible refine Exists.elim hw (fun b6 hw => ?_)
  with_reducible refine Exists.elim hw (fun D6 hw => ?_)
  have e1 := hw.1
  have m6 := hw.2.1
  have r6 := hw.2.2.1
  have p6 := hw.2.2.2.1
  have s6 := hw.2.2.2.2
  clear hv hw
  subst e1
  have z6 := hz.of m6
  have u60 := r6.nodes.one
  have u61 := r6.rules.one
  have o6 : h6.ob h3.n = _ := (p6.ob _ k5).trans o5
  have o66 : h6.ob h.n = _ := (p6.ob _ l5).trans o55
  have k6 : h3.n < h6.n := Nat.lt_of_lt_of_le k5 p6.n
  have l6 : h.n < h6.n := Nat.lt_of_lt_of_le l5 p6.n
  simp (maxSteps := 1000000) -implicitDefEqProofs only [push_cast, seval, o6, rd_of o6, rd1_of o6, o66, rd_of o66, rd1_of o66, o5, o55, k6, l6, u30, u31, u60, u61]
  with_reducible refine CD.to (eqProgram_c D3 D6 R a3 b3 a6 b6 h6 (r3.pre ((p4.trans p5).trans p6)) r6 (m3.trans m6.symm) z3) ?_
  simp (maxSteps := 1000000) -implicitDefEqProofs only [push_cast, seval, o6, rd_of o6, rd1_of o6, o66, rd_of o66, rd1_of o66, o5, o55, k6, l6, u30, u31]
  have hM := markProgram_s a3 b3 D3 R h2.n h6 (s3.pre ((p4.trans p5).trans p6)) z3.n z3.r z3.kids
  with_reducible refine CC.mono hM (fun v h7 hv => ?_)
  with_reducible refine Exists.elim hv.1 (fun k7 e1 => ?_)
  have n7 := hv.2.1
  have f7 := hv.2.2
  clear hv hM
  subst e1
  have g7 : ∀ j, j < h2.n ∨ (h3.n ≤ j ∧ j < h6.n) → h7.ob j = h6.ob j := fun j hj => by
    have a3 := p3.n
    have a4 := p4.n
    have a5 := p5.n
    have a6 := p6.n
    exact f7 j (by omega) (fun e => by have := s3.range e; omega)
  have pw7 : Pre h2 h7 := ⟨by have := p3.n; have := p4.n; have := p5.n; have := p6.n; omega, fun j hj => (g7 j (.inl hj)).trans ((((p3.trans p4).trans p5).trans p6).ob j hj)⟩
  have q7 : Pre h h7 := q2.trans pw7
  have rw7 := rw0.pre pw7
  have rb6 := rg.pre p6
  have ob6 := og.pre p6
  have bl6 : ∀ i, atBlock g0 i → h7.ob i = h6.ob i := fun i e => g7 i (.inr (by have := ob6.range e; have := p4.n; omega))
  have rg7 := rb6.keep n7 bl6
  have og7 := ob6.keep n7 bl6
  have o77 : h7.ob h.n = _ := (g7 h.n (.inl l2)).trans o66
  have l7 : h.n < h7.n := Nat.lt_of_lt_of_le l6 n7
  simp (maxSteps := 1000000) -implicitDefEqProofs only [push_cast, seval]
  with_reducible refine bcase_d (fun hb7 => ?_) (fun hb7 => ?_)
  · exfalso; omega
  simp (maxSteps := 1000000) -implicitDefEqProofs only [push_cast, seval]
  with_reducible refine CD.to (eqT_v ns g0 w0 h7 rg7 rw7 (by omega)) ?_
  simp (maxSteps := 1000000) -implicitDefEqProofs only [push_cast, seval]
  have hm8 := markString_p g0 1 h7 og7 (by omega) (by omega) (by omega)
  with_reducible refine CC.mono hm8 (fun v h8 hv => ?_)
  have e1 := hv.1
  have rm8 := hv.2.1
  have n8 := hv.2.2.1
  have f8 := hv.2.2.2
  clear hv hm8
  with_reducible refine nameN (1 + ns.length) (fun K8 hK8 => ?_)
  rw [← hK8] at e1
  subst e1
  have a4 : h2.n ≤ h4.n := (p3.trans p4).n
  have pw8 : Pre h2 h8 := ⟨by have := pw7.n; omega, fun j hj => (f8 j (by omega)).trans (pw7.ob j hj)⟩
  have q8 : Pre h h8 := q2.trans pw8
  have rw8 := rw0.pre pw8
  have o8 : h8.ob h.n = _ := (f8 h.n (by omega)).trans o77
  have l8 : h.n < h8.n := by omega
  have hh8 := heldString_p g0 1 h8 rm8 (by omega) (by omega) (by omega)
  rw [← hK8] at hh8
  simp (maxSteps := 1000000) -implicitDefEqProofs only [push_cast, seval]
  with_reducible refine CD.to hh8 ?_
  simp (maxSteps := 1000000) -implicitDefEqProofs only [push_cast, seval]
  with_reducible refine bcase_d (fun hb8 => ?_) (fun hb8 => ?_)
  · exfalso; omega
  simp (maxSteps := 1000000) -implicitDefEqProofs only [push_cast, seval, o8, rd_of o8, rd1_of o8, l8, u00, u01]
  with_reducible refine CC.mono (toProgram_c L R vN vR _ (r0.pre q8) hz) (fun v h9 hv => ?_)
  with_reducible refine Exists.elim hv (fun a9 hw => ?_)
  with_reducible refine Exists.elim hw (fun b9 hw => ?_)
  with_reducible refine Exists.elim hw (fun D9 hw => ?_)
  have e1 := hw.1
  have m9 := hw.2.1
  have r9 := hw.2.2.1
  have p9 := hw.2.2.2.1
  have s9 := hw.2.2.2.2
  clear hv hw
  subst e1
  have z9 := hz.of m9
  have u90 := r9.nodes.one
  have u91 := r9.rules.one
  simp (maxSteps := 1000000) -implicitDefEqProofs only [push_cast, seval, u90, u91]
  have hN9 := Names_i' D9 R a9 b9 h9 r9 z9
  rw [m9, hns] at hN9
  with_reducible refine CC.mono hN9 (fun y h10 hv => ?_)
  have ry := hv.1
  have p10 := hv.2.2
  clear hv hN9
  have uy := ry.one
  have q10 := p9.trans p10
  simp (maxSteps := 1000000) -implicitDefEqProofs only [push_cast, seval]
  with_reducible refine CD.to (eqT_v ns y w0 h10 ry (rw8.pre q10) (by omega)) ?_
  simp (maxSteps := 1000000) -implicitDefEqProofs only [push_cast, seval]
  have hh10 := heldString_p g0 1 h10 (rm8.pre q10) (by omega) (by omega) (by omega)
  rw [← hK8] at hh10
  with_reducible refine CD.to hh10 ?_
  simp (maxSteps := 1000000) -implicitDefEqProofs only [push_cast, seval]
  with_reducible refine bcase_d (fun hb9 => ?_) (fun hb9 => ?_)
  · exfalso; omega
  simp (maxSteps := 1000000) -implicitDefEqProofs only [push_cast, seval]
end Go.Proofs.YtdlpdfclljnmhaaGreat
