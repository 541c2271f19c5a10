/- Parts of the proof of the row: the ground, contracts of the functions that it reaches (L104, L105, L106, L107, L75, L76, L108, SimY, L109, L110, L111, L112, SimW, SimX, SimR2, P13, P14, P19, SimComp). Conditions: those that each theorem names. -/
import Derived.Sort.Row
import Derived.Sort.Grow
import Derived.Lib.SlicesCompact
import Derived.Test.YtdlpdfclljnmhaaGreatB5
namespace Go.Proofs.YtdlpdfclljnmhaaGreat
open Go Go.Sim Go.Proofs
set_option linter.unusedSimpArgs false
set_option linter.unusedVariables false
set_option maxRecDepth 100000
set_option maxHeartbeats 1000000
theorem text_empty (t : ByteArray) : (t = ⟨#[]⟩) = (t.size = 0) := propext ⟨fun e => by rw [e]; rfl, fun e => ByteArray.ext (Array.eq_empty_of_size_eq_zero e)⟩
theorem textFits_c (op : Int) (s : ByteArray) (kv : Value) (h : AH) (y1 : Sim.one kv = true) (y2 : kv.cells = #[kv]) (hs : s.size ≤ 1048576) :
    CD Tryz.prog 63 [.agg #[.int .i64 op, .string s, kv]] h (.bool (textP op s)) h := by
  refine CD.withBig (fun big => ?_)
  refine CD.quiet ?_ (low_bool _ _)
  have hm : s.size ≤ maxLen := by rw [maxLen_eq]; omega
  rcases op_split op with hc | ⟨n1, n2, n3, n4, n5, n8, n9, n10, n11, n12, n13, n14, n15, n16, n17, n18, n19, n20, n21, n22, n24, n25⟩
  · rcases hc with rfl | rfl | rfl | rfl | rfl | rfl | rfl | rfl | rfl | rfl | rfl | rfl | rfl | rfl | rfl | rfl | rfl | rfl | rfl | rfl | rfl | rfl
    all_goals
      refine CC.ofN Tryz.func63 Tryz.ntmps63 Tryz.results63 rfl (by decide) (by kernel_rfl) ?_
      simp (maxSteps := 1000000) -implicitDefEqProofs only [push_cast, seval, y1, y2]
      first
        | (refine ⟨rfl, ?_⟩; exact ((Pre.refl h).alloc _).keep)
        | (with_reducible refine CD.to (allFigures_c s 1 6 hm _) ?_
           simp (maxSteps := 1000000) -implicitDefEqProofs only [push_cast, seval]
           refine ⟨rfl, ?_⟩; exact ((Pre.refl h).alloc _).keep)
        | (with_reducible refine CD.to (isQuotable_c s hm _) ?_
           simp (maxSteps := 1000000) -implicitDefEqProofs only [push_cast, seval]
           refine ⟨rfl, ?_⟩; exact ((Pre.refl h).alloc _).keep)
        | (with_reducible refine CD.to (isName_c s hm _) ?_
           simp (maxSteps := 1000000) -implicitDefEqProofs only [push_cast, seval]
           refine ⟨rfl, ?_⟩; exact ((Pre.refl h).alloc _).keep)
        | skip
    with_reducible refine CC.mono (ReadPattern_i s _ hm) (fun v h3 hv => ?_)
    have p3 := hv.1
    with_reducible refine Exists.elim hv.2.form (fun rv hf => ?_)
    have ev := hf.1
    have z1 := hf.2.1
    have z2 := hf.2.2
    clear hf hv
    subst ev
    have g0 : h3.ob h.n = _ := (p3.ob h.n (lt_alloc _)).trans (alloc_same _)
    have l0 : h.n < h3.n := Nat.lt_of_lt_of_le (lt_alloc _) p3.n
    have pF : Pre h ((h3.alloc (AOb.cells [Value.slice none 0 0] .solo h3.n)).set h3.n (AOb.cells [rv] .solo h3.n)) := ((((Pre.refl h).alloc _).trans p3).alloc _).set (by have := p3.n; have : h.n + 1 ≤ h3.n := this; omega) _
    have tp : textP 16 s = ((readP s).isSome && plain s 47) := by simp [textP]
    rw [tp]
    simp (maxSteps := 1000000) -implicitDefEqProofs only [push_cast, seval, g0, rd_of g0, rd1_of g0, l0, z1, z2]
    cases hG : (readP s).isSome
    · simp (maxSteps := 1000000) -implicitDefEqProofs only [push_cast, seval, g0, rd_of g0, rd1_of g0, l0, z1, z2]
      exact pF.keep
    · simp (maxSteps := 1000000) -implicitDefEqProofs only [push_cast, seval, g0, rd_of g0, rd1_of g0, l0, z1, z2]
      with_reducible refine CD.to (ContainsAny_c s _ 47 10 rfl (by decide) (by decide) (by omega) _) ?_
      simp (maxSteps := 1000000) -implicitDefEqProofs only [push_cast, seval]
      exact ⟨rfl, pF.keep⟩
  · have e : textP op s = decide (s = ⟨#[]⟩) := by simp [textP, *]
    rw [e]
    refine CC.ofN Tryz.func63 Tryz.ntmps63 Tryz.results63 rfl (by decide) (by kernel_rfl) ?_
    simp (maxSteps := 1000000) -implicitDefEqProofs only [push_cast, seval, y1, y2, decide_eq_false n1, decide_eq_false n2, decide_eq_false n3, decide_eq_false n4, decide_eq_false n16, decide_eq_false n18, decide_eq_false n19, decide_eq_false n20, decide_eq_false n21, decide_eq_false n25]
    exact ((Pre.refl h).alloc _).keep
theorem l06Text_c (op : Int) (s : ByteArray) (kv : Value) (h : AH) (y1 : Sim.one kv = true) (y2 : kv.cells = #[kv]) (hs : s.size ≤ 1048576) :
    CD Tryz.prog 84 [.agg #[.int .i64 op, .string s, kv]] h (.bool (textP op s)) h := by
  refine CD.withBig (fun big => ?_)
  refine CD.quiet ?_ (low_bool _ _)
  have hm : s.size ≤ maxLen := by rw [maxLen_eq]; omega
  rcases op_split op with hc | ⟨n1, n2, n3, n4, n5, n8, n9, n10, n11, n12, n13, n14, n15, n16, n17, n18, n19, n20, n21, n22, n24, n25⟩
  · rcases hc with rfl | rfl | rfl | rfl | rfl | rfl | rfl | rfl | rfl | rfl | rfl | rfl | rfl | rfl | rfl | rfl | rfl | rfl | rfl | rfl | rfl | rfl
    all_goals
      refine CC.ofN Tryz.func84 Tryz.ntmps84 Tryz.results84 rfl (by decide) (by kernel_rfl) ?_
      simp (maxSteps := 1000000) -implicitDefEqProofs only [push_cast, seval, y1, y2]
      first
        | (refine ⟨rfl, ?_⟩; exact ((Pre.refl h).alloc _).keep)
        | (with_reducible refine CD.to (IsNum_c s hm _) ?_
           simp (maxSteps := 1000000) -implicitDefEqProofs only [push_cast, seval]
           refine ⟨rfl, ?_⟩; exact ((Pre.refl h).alloc _).keep)
        | (with_reducible refine CD.to (l06Plain_c s 30 34 34 30 rfl rfl hm _) ?_
           simp (maxSteps := 1000000) -implicitDefEqProofs only [push_cast, seval]
           refine ⟨rfl, ?_⟩; exact ((Pre.refl h).alloc _).keep)
        | (with_reducible refine CD.to (l06Name_c s hm _) ?_
           simp (maxSteps := 1000000) -implicitDefEqProofs only [push_cast, seval]
           refine ⟨rfl, ?_⟩; exact ((Pre.refl h).alloc _).keep)
        | skip
    with_reducible refine CC.mono (ReadPattern_s s _ hm) (fun v h3 hv => ?_)
    have p3 := hv.1
    with_reducible refine Exists.elim hv.2.form (fun rv hf => ?_)
    have ev := hf.1
    have z1 := hf.2.1
    have z2 := hf.2.2
    clear hf hv
    subst ev
    have g0 : h3.ob h.n = _ := (p3.ob h.n (lt_alloc _)).trans (alloc_same _)
    have l0 : h.n < h3.n := Nat.lt_of_lt_of_le (lt_alloc _) p3.n
    have pF : Pre h ((h3.alloc (AOb.cells [Value.slice none 0 0] .solo h3.n)).set h3.n (AOb.cells [rv] .solo h3.n)) := ((((Pre.refl h).alloc _).trans p3).alloc _).set (by have := p3.n; have : h.n + 1 ≤ h3.n := this; omega) _
    have tp : textP 16 s = ((readP s).isSome && plain s 47) := by simp [textP]
    rw [tp]
    simp (maxSteps := 1000000) -implicitDefEqProofs only [push_cast, seval, g0, rd_of g0, rd1_of g0, l0, z1, z2]
    cases hG : (readP s).isSome
    · simp (maxSteps := 1000000) -implicitDefEqProofs only [push_cast, seval, g0, rd_of g0, rd1_of g0, l0, z1, z2]
      exact pF.keep
    · simp (maxSteps := 1000000) -implicitDefEqProofs only [push_cast, seval, g0, rd_of g0, rd1_of g0, l0, z1, z2]
      with_reducible refine CD.to (l06Plain_c s 24 47 47 24 rfl rfl hm _) ?_
      simp (maxSteps := 1000000) -implicitDefEqProofs only [push_cast, seval]
      refine ⟨?_, pF.keep⟩
      rw [decide_eq_true (readP_small hG)]
      rfl
  · have e : textP op s = decide (s = ⟨#[]⟩) := by simp [textP, *]
    rw [e]
    refine CC.ofN Tryz.func84 Tryz.ntmps84 Tryz.results84 rfl (by decide) (by kernel_rfl) ?_
    simp (maxSteps := 1000000) -implicitDefEqProofs only [push_cast, seval, y1, y2, decide_eq_false n1, decide_eq_false n2, decide_eq_false n3, decide_eq_false n4, decide_eq_false n16, decide_eq_false n18, decide_eq_false n19, decide_eq_false n20, decide_eq_false n21, decide_eq_false n25]
    exact ((Pre.refl h).alloc _).keep
end Go.Proofs.YtdlpdfclljnmhaaGreat
namespace Go.Proofs.YtdlpdfclljnmhaaGreat
open Go Go.Sim Go.Proofs
set_option linter.unusedSimpArgs false
set_option linter.unusedVariables false
set_option maxRecDepth 100000
set_option maxHeartbeats 1000000
theorem getD_eq {α : Type} (l : List α) (i : Nat) (d : α) (h : i < l.length) : l.getD i d = l[i] := by simp [List.getD_eq_getElem?_getD, h]
theorem nodeOp_at (L : List (Nd × Value)) (z : Int) (k : Nat) (hk : k < L.length) (e : z = k) : nodeOp (L.map Prod.fst) z = L[k].1.op := by
  subst e
  unfold nodeOp
  rw [Int.toNat_natCast, getD_eq _ _ _ (by rw [List.length_map]; exact hk), List.getElem_map]
theorem allN_true {n : Nat} {p : Nat → Bool} (h : ∀ i, i < n → p i = true) : allN n p = true := by
  simp only [allN, List.all_eq_true, List.mem_range]; exact h
theorem allN_false {n : Nat} {p : Nat → Bool} {i : Nat} (hi : i < n) (e : p i = false) : allN n p = false := by
  simp only [allN, List.all_eq_false, List.mem_range]
  exact ⟨i, hi, by rw [e]; decide⟩
theorem kidsAhead_z (v : Value) (l : List Int) (at_ : Nat) (h : AH) (r : RdV h v 1 encZ l) (hl : l.length ≤ 1048576) (ha : at_ ≤ 1048576) :
    CD Tryz.prog 62 [v, .int .i64 (at_ : Nat)] h (.bool (allN l.length fun k => inB (l.getD k 0) 0 ((at_ : Int) - 1))) h := by
  refine CD.withBig (fun big => ?_)
  refine CD.quiet ?_ (low_bool _ _)
  obtain ⟨A, c, rfl, hR⟩ := r.rde (fun _ => rfl)
  refine CC.ofN Tryz.func62 Tryz.ntmps62 Tryz.results62 rfl (by decide) (by kernel_rfl) ?_
  simp (maxSteps := 1000000) -implicitDefEqProofs only [push_cast, seval]
  refine WC.loopA (by kernel_rfl) [9] [4, 6, 10, 11, 12, 13, 14, 15, 16, 17, 18] (fun i : Nat => [.int .i64 i]) (fun i h' => (i ≤ l.length ∧ ∀ k, k < i → inB (l.getD k 0) 0 ((at_ : Int) - 1) = true) ∧ Pre h h') (fun i => l.length - i) 0 (by kernel_rfl) ⟨⟨Nat.zero_le _, fun k hk => by omega⟩, Pre.refl _⟩ ?_
  intro i g h1 hJ
  have hi := hJ.1.1
  have hj := hJ.1.2
  have p1 := hJ.2
  clear hJ
  simp (maxSteps := 1000000) -implicitDefEqProofs only [push_cast, seval]
  with_reducible refine bcase_d (fun hb => ?_) (fun hb => ?_)
  · have hi' : i < l.length := by omega
    have hg := getD_eq l i 0 hi'
    with_reducible refine hR.use big p1 hi' (fun id off eA hlt hr => ?_)
    subst eA
    rw [← hg] at hr
    generalize hZ : l.getD i 0 = Z at *
    simp only [encZ] at hr
    have r0 := rd_1 hr
    simp (maxSteps := 1000000) -implicitDefEqProofs only [push_cast, seval, hr, r0, hlt]
    refine And.intro (by omega) (And.intro (by omega) ?_)
    rw [show IntKind.i64.wrap ((at_ : Int) - 1) = (at_ : Int) - 1 by rw [w64 (by omega) (by omega)]]
    with_reducible refine CD.to (within_c _ _ _ _) ?_
    cases hin : inB Z 0 ((at_ : Int) - 1)
    · simp (maxSteps := 1000000) -implicitDefEqProofs only [push_cast, seval]
      refine ⟨?_, p1.keep⟩
      rw [allN_false hi' (by rw [hZ]; exact hin)]
    · simp (maxSteps := 1000000) -implicitDefEqProofs only [push_cast, seval]
      rw [wrapSucc (by omega)]
      exact ⟨i + 1, by kernel_rfl, ⟨⟨by omega, fun k hk => (Nat.lt_succ_iff_lt_or_eq.1 hk).elim (hj k) (fun e => by subst e; rw [hZ]; exact hin)⟩, p1⟩, by omega⟩
  · have ei : i = l.length := by omega
    subst ei
    simp (maxSteps := 1000000) -implicitDefEqProofs only [push_cast, seval]
    rw [allN_true hj]
    exact ⟨rfl, p1.keep⟩
theorem kidsFit_c (L : List (Nd × Value)) (R : List Ru) (vN vR kv : Value) (x : Nd) (h : AH) (w : RdG h vN vR L R) (r : RdV h kv 1 encZ x.kids) (hl : x.kids.length ≤ 1048576) (hn : L.length ≤ 1048576) (hin : ∀ k, k < x.kids.length → ∃ m : Nat, x.kids.getD k 0 = m ∧ m < L.length) :
    CD Tryz.prog 64 [.agg #[vN, vR], .agg #[.int .i64 x.op, .string x.text, kv]] h (.bool ((allN x.kids.length fun k => kidP x.op k (nodeOp (L.map Prod.fst) (x.kids.getD k 0))) && inB x.kids.length (manyP x.op).1 (manyP x.op).2)) h := by
  refine CD.withBig (fun big => ?_)
  refine CD.quiet ?_ (low_bool _ _)
  have y1 := w.nodes.one
  have y2 := w.rules.one
  obtain ⟨A, c, rfl, hR⟩ := r.rde (fun _ => rfl)
  obtain ⟨B, d, rfl, hN⟩ := w.nodes.rde encD_len
  have hcs : (x.op = 22) ∨ (x.op ≠ 22 ∧ x.op = 24) ∨ (x.op ≠ 22 ∧ x.op ≠ 24) := by omega
  refine CC.ofN Tryz.func64 Tryz.ntmps64 Tryz.results64 rfl (by decide) (by kernel_rfl) ?_
  simp (maxSteps := 1000000) -implicitDefEqProofs only [push_cast, seval, y1, y2]
  with_reducible refine CD.to (kidRange_c _ _) ?_
  simp (maxSteps := 1000000) -implicitDefEqProofs only [push_cast, seval, y1, y2]
  have p0 : Pre h ((h.alloc (.cells [.slice B L.length d, vR] .solo h.n)).alloc (.cells [.int .i64 x.op, .string x.text, .slice A x.kids.length c] .solo (h.n + 1))) := ((Pre.refl h).alloc _).alloc _
  have c0 : ((h.alloc (.cells [.slice B L.length d, vR] .solo h.n)).alloc (.cells [.int .i64 x.op, .string x.text, .slice A x.kids.length c] .solo (h.n + 1))).ob h.n = .cells [.slice B L.length d, vR] .solo h.n := (by (try simp (maxSteps := 1000000) -implicitDefEqProofs only [push_cast, seval, rdOb]); try rfl)
  have c1 : ((h.alloc (.cells [.slice B L.length d, vR] .solo h.n)).alloc (.cells [.int .i64 x.op, .string x.text, .slice A x.kids.length c] .solo (h.n + 1))).ob (h.n + 1) = .cells [.int .i64 x.op, .string x.text, .slice A x.kids.length c] .solo (h.n + 1) := (by (try simp (maxSteps := 1000000) -implicitDefEqProofs only [push_cast, seval, rdOb]); try rfl)
  have n0 : ((h.alloc (.cells [.slice B L.length d, vR] .solo h.n)).alloc (.cells [.int .i64 x.op, .string x.text, .slice A x.kids.length c] .solo (h.n + 1))).n = h.n + 2 := rfl
  generalize ((h.alloc (.cells [.slice B L.length d, vR] .solo h.n)).alloc (.cells [.int .i64 x.op, .string x.text, .slice A x.kids.length c] .solo (h.n + 1))) = h0 at *
  have l0 : h.n < h0.n := by omega
  have l1 : h.n + 1 < h0.n := by omega
  refine WC.loopA (by kernel_rfl) [19] [4, 7, 8, 9, 20, 21, 22, 23, 24, 25, 26, 27, 28, 29, 30, 31, 32, 33, 34, 35, 36, 37, 38, 39, 40, 41, 42, 43, 44, 45, 46, 47, 48, 49, 50, 51, 52, 53, 54] (fun i : Nat => [.int .i64 i]) (fun i h' => (i ≤ x.kids.length ∧ ∀ k, k < i → kidP x.op k (nodeOp (L.map Prod.fst) (x.kids.getD k 0)) = true) ∧ Pre h0 h') (fun i => x.kids.length - i) 0 (by kernel_rfl) ⟨⟨Nat.zero_le _, fun k hk => by omega⟩, Pre.refl _⟩ ?_
  intro i g h1 hJ
  have hi := hJ.1.1
  have hj := hJ.1.2
  have p1 := hJ.2
  clear hJ
  have pre1 := p0.trans p1
  have d0 : h1.ob h.n = _ := (p1.ob _ l0).trans c0
  have d1 : h1.ob (h.n + 1) = _ := (p1.ob _ l1).trans c1
  have m0 : h.n < h1.n := Nat.lt_of_lt_of_le l0 p1.n
  have m1 : h.n + 1 < h1.n := Nat.lt_of_lt_of_le l1 p1.n
  simp (maxSteps := 1000000) -implicitDefEqProofs only [push_cast, seval, d0, rd_of d0, rd1_of d0, d1, rd_of d1, rd1_of d1, m0, m1]
  with_reducible refine bcase_d (fun hb => ?_) (fun hb => ?_)
  · have hi' : i < x.kids.length := by omega
    have hg := getD_eq x.kids i 0 hi'
    have hm := hin i hi'
    with_reducible refine Exists.elim hm (fun m hm => ?_)
    have em := hm.1
    have hm' := hm.2
    clear hm
    have hop := nodeOp_at L _ m hm' em
    with_reducible refine hR.use big pre1 hi' (fun id off eA hlt hr => ?_)
    with_reducible refine hN.use big pre1 hm' (fun id2 off2 eB hlt2 hr2 => ?_)
    subst eA
    subst eB
    rw [← hg, em] at hr
    have hno : kidP x.op i (L[m].1.op) = false → (allN x.kids.length fun k => kidP x.op k (nodeOp (L.map Prod.fst) (x.kids.getD k 0))) = false := fun e => allN_false hi' (by rw [hop]; exact e)
    have hyes : kidP x.op i (L[m].1.op) = true → ∀ k, k < i + 1 → kidP x.op k (nodeOp (L.map Prod.fst) (x.kids.getD k 0)) = true := fun e k hk => (Nat.lt_succ_iff_lt_or_eq.1 hk).elim (hj k) (fun e2 => by subst e2; rw [hop]; exact e)
    simp only [encZ] at hr
    simp only [encD] at hr2
    have r0 := rd_1 hr
    have q0 := (rd_3 hr2).1
    generalize L[m].1.op = O at *
    simp (maxSteps := 1000000) -implicitDefEqProofs only [push_cast, seval, d0, rd_of d0, rd1_of d0, d1, rd_of d1, rd1_of d1, m0, m1, hr, r0, hlt, q0, hlt2]
    repeat (with_reducible refine And.intro ?_ ?_; · (first | omega | decide))
    repeat' (first | with_reducible (first | exact Keep.refl _ _ | assumption | exact byte_lt _ _ | apply Keep.alloc | (refine Keep.set ?_ ?_; rotate_left; · omega) | apply Pre.alloc | apply Pre.set | exact Pre.refl _ | exact le_alloc _ | (refine Pre.keep ?_; assumption) | (refine Pre.n ?_; assumption)) | ((with_reducible (first | refine CD.to (isExpr_c _ _) ?_ | refine CQ.pure (fun _ => isExpr_c _ _) ?_ | refine bcase_d (fun hb => ?_) (fun hb => ?_) | refine bcase_mk (fun hb => ?_) (fun hb => ?_))) <;> try simp (maxSteps := 1000000) -implicitDefEqProofs only [push_cast, seval, d0, rd_of d0, rd1_of d0, d1, rd_of d1, rd1_of d1, m0, m1, hr, r0, hlt, q0, hlt2]) | with_reducible refine And.intro ?_ ?_ | omega | (simp only [alloc_n, set_n, kill_n]; omega) | (exfalso; omega))
    all_goals first
      | exact pre1.keep
      | (rw [hno (by simp only [kidP]; grind)]; rfl)
      | (rw [wrapSucc (by omega)]
         exact ⟨i + 1, by kernel_rfl, ⟨⟨by omega, hyes (by simp only [kidP]; grind)⟩, p1⟩, by omega⟩)
  · have ei : i = x.kids.length := by omega
    subst ei
    rw [allN_true hj]
    simp (maxSteps := 1000000) -implicitDefEqProofs only [push_cast, seval, d0, rd_of d0, rd1_of d0, d1, rd_of d1, rd1_of d1, m0, m1]
    repeat' (first | with_reducible (first | exact Keep.refl _ _ | assumption | exact byte_lt _ _ | apply Keep.alloc | (refine Keep.set ?_ ?_; rotate_left; · omega) | apply Pre.alloc | apply Pre.set | exact Pre.refl _ | exact le_alloc _ | (refine Pre.keep ?_; assumption) | (refine Pre.n ?_; assumption)) | ((with_reducible (first | refine CD.to (within_c _ _ _ _) ?_ | refine CQ.pure (fun _ => within_c _ _ _ _) ?_ | refine bcase_d (fun hb => ?_) (fun hb => ?_) | refine bcase_mk (fun hb => ?_) (fun hb => ?_))) <;> try simp (maxSteps := 1000000) -implicitDefEqProofs only [push_cast, seval, d0, rd_of d0, rd1_of d0, d1, rd_of d1, rd1_of d1, m0, m1]) | with_reducible refine And.intro ?_ ?_ | omega | (simp only [alloc_n, set_n, kill_n]; omega) | (exfalso; omega))
    all_goals (simp only [manyP]; simp [*])
theorem inB_nat {z : Int} {n : Nat} (e : inB z 0 ((n : Int) - 1) = true) : ∃ m : Nat, z = m ∧ m < n := by
  simp only [inB, Bool.and_eq_true, decide_eq_true_eq] at e
  exact ⟨z.toNat, by omega, by omega⟩
theorem ruleFits_c (L : List (Nd × Value)) (R : List Ru) (vN vR : Value) (wh cd ac : Int) (h : AH) (w : RdG h vN vR L R) (hn : L.length ≤ 1048576) :
    CD Tryz.prog 65 [.agg #[vN, vR], .agg #[.int .i64 wh, .int .i64 cd, .int .i64 ac]] h (.bool (ruleP (L.map Prod.fst) ⟨wh, cd, ac⟩)) h := by
  refine CD.withBig (fun big => ?_)
  refine CD.quiet ?_ (low_bool _ _)
  have y1 := w.nodes.one
  have y2 := w.rules.one
  obtain ⟨B, d, rfl, hN⟩ := w.nodes.rde encD_len
  have hlen : (L.map Prod.fst).length = L.length := List.length_map _
  have eP : ruleP (L.map Prod.fst) ⟨wh, cd, ac⟩ = (inB wh 1 3 && inB ac 0 ((L.length : Int) - 1) && decide (nodeOp (L.map Prod.fst) ac = 24) && (decide (cd = -1) || (decide (wh = 2) && inB cd 0 ((L.length : Int) - 1) && isEx (nodeOp (L.map Prod.fst) cd)))) := by rw [ruleP, hlen]
  rw [eP]
  have hw1 : IntKind.i64.wrap ((L.length : Int) - 1) = (L.length : Int) - 1 := by rw [w64 (by omega) (by omega)]
  have p0 : Pre h ((h.alloc (.cells [.slice B L.length d, vR] .solo h.n)).alloc (.cells [.int .i64 wh, .int .i64 cd, .int .i64 ac] .solo (h.n + 1))) := ((Pre.refl h).alloc _).alloc _
  have c0 : ((h.alloc (.cells [.slice B L.length d, vR] .solo h.n)).alloc (.cells [.int .i64 wh, .int .i64 cd, .int .i64 ac] .solo (h.n + 1))).ob h.n = .cells [.slice B L.length d, vR] .solo h.n := (by (try simp (maxSteps := 1000000) -implicitDefEqProofs only [push_cast, seval, rdOb]); try rfl)
  have c1 : ((h.alloc (.cells [.slice B L.length d, vR] .solo h.n)).alloc (.cells [.int .i64 wh, .int .i64 cd, .int .i64 ac] .solo (h.n + 1))).ob (h.n + 1) = .cells [.int .i64 wh, .int .i64 cd, .int .i64 ac] .solo (h.n + 1) := (by (try simp (maxSteps := 1000000) -implicitDefEqProofs only [push_cast, seval, rdOb]); try rfl)
  have n0 : ((h.alloc (.cells [.slice B L.length d, vR] .solo h.n)).alloc (.cells [.int .i64 wh, .int .i64 cd, .int .i64 ac] .solo (h.n + 1))).n = h.n + 2 := rfl
  cases hW : inB wh 1 3
  · refine CC.ofN Tryz.func65 Tryz.ntmps65 Tryz.results65 rfl (by decide) (by kernel_rfl) ?_
    simp (maxSteps := 1000000) -implicitDefEqProofs only [push_cast, seval, y1, y2]
    with_reducible refine CD.to (within_c _ _ _ _) ?_
    rw [hW]
    simp (maxSteps := 1000000) -implicitDefEqProofs only [push_cast, seval, y1, y2]
    exact p0.keep
  cases hA : inB ac 0 ((L.length : Int) - 1)
  · refine CC.ofN Tryz.func65 Tryz.ntmps65 Tryz.results65 rfl (by decide) (by kernel_rfl) ?_
    simp (maxSteps := 1000000) -implicitDefEqProofs only [push_cast, seval, y1, y2]
    with_reducible refine CD.to (within_c _ _ _ _) ?_
    rw [hW]
    simp (maxSteps := 1000000) -implicitDefEqProofs only [push_cast, seval, y1, y2, hw1]
    with_reducible refine CD.to (within_c _ _ _ _) ?_
    rw [hA]
    simp (maxSteps := 1000000) -implicitDefEqProofs only [push_cast, seval, y1, y2]
    exact p0.keep
  obtain ⟨m, em, hm⟩ := inB_nat hA
  subst em
  have ho := nodeOp_at L m m hm rfl
  refine hN.use big p0 hm (fun id2 off2 eB hlt2 hr2 => ?_)
  subst eB
  rw [ho]
  simp only [encD] at hr2
  have q0 := (rd_3 hr2).1
  generalize L[m].1.op = O at *
  refine CC.ofN Tryz.func65 Tryz.ntmps65 Tryz.results65 rfl (by decide) (by kernel_rfl) ?_
  simp (maxSteps := 1000000) -implicitDefEqProofs only [push_cast, seval, y1, y2]
  with_reducible refine CD.to (within_c _ _ _ _) ?_
  rw [hW]
  simp (maxSteps := 1000000) -implicitDefEqProofs only [push_cast, seval, y1, y2, hw1]
  with_reducible refine CD.to (within_c _ _ _ _) ?_
  rw [hA]
  simp (maxSteps := 1000000) -implicitDefEqProofs only [push_cast, seval, y1, y2, hr2, hlt2, q0]
  repeat (with_reducible refine And.intro ?_ ?_; · (first | omega | decide))
  simp (maxSteps := 1000000) -implicitDefEqProofs only [push_cast, seval, y1, y2, hr2, hlt2, q0, hw1]
  with_reducible refine bcase_d (fun hO => ?_) (fun hO => ?_)
  rotate_left
  · simp (maxSteps := 1000000) -implicitDefEqProofs only [push_cast, seval]
    rw [decide_eq_false hO]
    exact ⟨rfl, p0.keep⟩
  rw [decide_eq_true hO]
  simp (maxSteps := 1000000) -implicitDefEqProofs only [push_cast, seval, y1, y2]
  with_reducible refine bcase_d (fun hC => ?_) (fun hC => ?_)
  · simp (maxSteps := 1000000) -implicitDefEqProofs only [push_cast, seval]
    rw [decide_eq_true hC]
    exact ⟨rfl, p0.keep⟩
  rw [decide_eq_false hC]
  simp (maxSteps := 1000000) -implicitDefEqProofs only [push_cast, seval, y1, y2]
  with_reducible refine bcase_d (fun hW2 => ?_) (fun hW2 => ?_)
  rotate_left
  · simp (maxSteps := 1000000) -implicitDefEqProofs only [push_cast, seval]
    rw [decide_eq_false hW2]
    exact ⟨rfl, p0.keep⟩
  rw [decide_eq_true hW2]
  simp (maxSteps := 1000000) -implicitDefEqProofs only [push_cast, seval, y1, y2, hw1]
  with_reducible refine CD.to (within_c _ _ _ _) ?_
  cases hB : inB cd 0 ((L.length : Int) - 1)
  · simp (maxSteps := 1000000) -implicitDefEqProofs only [push_cast, seval]
    exact p0.keep
  have hm2 := inB_nat hB
  with_reducible refine Exists.elim hm2 (fun m2 hm2 => ?_)
  have em2 := hm2.1
  have hm2' := hm2.2
  clear hm2
  subst em2
  have ho2 := nodeOp_at L m2 m2 hm2' rfl
  with_reducible refine hN.use big p0 hm2' (fun id3 off3 eB hlt3 hr3 => ?_)
  with_reducible injection eB with eB
  with_reducible injection eB with e1 e2
  subst e1 e2
  rw [ho2]
  simp only [encD] at hr3
  have q3 := (rd_3 hr3).1
  generalize L[m2].1.op = O2 at *
  simp (maxSteps := 1000000) -implicitDefEqProofs only [push_cast, seval, y1, y2, hr3, hlt3, q3, hw1]
  repeat (with_reducible refine And.intro ?_ ?_; · (first | omega | decide))
  simp (maxSteps := 1000000) -implicitDefEqProofs only [push_cast, seval, y1, y2, hr3, hlt3, q3, hw1]
  repeat' (first | with_reducible (first | exact Keep.refl _ _ | assumption | exact byte_lt _ _ | apply Keep.alloc | (refine Keep.set ?_ ?_; rotate_left; · omega) | apply Pre.alloc | apply Pre.set | exact Pre.refl _ | exact le_alloc _ | (refine Pre.keep ?_; assumption) | (refine Pre.n ?_; assumption)) | ((with_reducible (first | refine CD.to (isExpr_c _ _) ?_ | refine CQ.pure (fun _ => isExpr_c _ _) ?_ | refine bcase_d (fun hb => ?_) (fun hb => ?_) | refine bcase_mk (fun hb => ?_) (fun hb => ?_))) <;> try simp (maxSteps := 1000000) -implicitDefEqProofs only [push_cast, seval, y1, y2, hr3, hlt3, q3, hw1]) | with_reducible refine And.intro ?_ ?_ | omega | (simp only [alloc_n, set_n, kill_n]; omega) | (exfalso; omega))
end Go.Proofs.YtdlpdfclljnmhaaGreat
namespace Go.Proofs.YtdlpdfclljnmhaaGreat
open Go Go.Sim Go.Proofs
set_option linter.unusedSimpArgs false
set_option linter.unusedVariables false
set_option maxRecDepth 100000
set_option maxHeartbeats 1000000
structure SzG (L : List (Nd × Value)) (R : List Ru) : Prop where
  n : L.length ≤ 1048576
  r : R.length ≤ 1048576
  text : ∀ x ∈ L, x.1.text.size ≤ 1048576
  kids : ∀ x ∈ L, x.1.kids.length ≤ 1048576
theorem allN_and (n : Nat) (p q : Nat → Bool) : (allN n fun k => p k && q k) = (allN n p && allN n q) := by
  rw [Bool.eq_iff_iff]
  simp only [allN, List.all_eq_true, List.mem_range, Bool.and_eq_true]
  exact ⟨fun h => ⟨fun k hk => (h k hk).1, fun k hk => (h k hk).2⟩, fun h k hk => ⟨h.1 k hk, h.2 k hk⟩⟩
theorem nodeP_i (N : List Nd) (i : Nat) (x : Nd) : nodeP N i x = (inB x.op 1 25 && (allN x.kids.length fun k => inB (x.kids.getD k 0) 0 ((i : Int) - 1)) && textP x.op x.text && ((allN x.kids.length fun k => kidP x.op k (nodeOp N (x.kids.getD k 0))) && inB x.kids.length (manyP x.op).1 (manyP x.op).2)) := by
  rw [nodeP, allN_and]
  generalize inB x.op 1 25 = a
  generalize textP x.op x.text = b
  generalize inB (x.kids.length : Int) (manyP x.op).1 (manyP x.op).2 = c
  generalize (allN x.kids.length fun k => inB (x.kids.getD k 0) 0 ((i : Int) - 1)) = d
  generalize (allN x.kids.length fun k => kidP x.op k (nodeOp N (x.kids.getD k 0))) = e
  cases a <;> cases b <;> cases c <;> cases d <;> cases e <;> rfl
theorem programOk_split (L : List (Nd × Value)) (R : List Ru) : programOk ⟨L.map Prod.fst, R⟩ = (decide (L.length ≤ 200) && decide (R.length ≤ 12) && allN L.length (fun i => nodeP (L.map Prod.fst) i ((L.map Prod.fst).getD i ⟨0, ⟨#[]⟩, []⟩)) && R.all (ruleP (L.map Prod.fst))) := by
  rw [programOk, List.length_map]
theorem getD_map (L : List (Nd × Value)) (i : Nat) (h : i < L.length) : (L.map Prod.fst).getD i ⟨0, ⟨#[]⟩, []⟩ = L[i].1 := by
  rw [getD_eq _ _ _ (by rw [List.length_map]; exact h), List.getElem_map]
theorem program_no_node {L : List (Nd × Value)} {R : List Ru} {i : Nat} (h : i < L.length) (e : nodeP (L.map Prod.fst) i L[i].1 = false) : programOk ⟨L.map Prod.fst, R⟩ = false := by
  rw [programOk_split, allN_false (i := i) h (by rw [getD_map L i h]; exact e)]; simp
theorem program_no_rule {L : List (Nd × Value)} {R : List Ru} {i : Nat} (h : i < R.length) (e : ruleP (L.map Prod.fst) R[i] = false) : programOk ⟨L.map Prod.fst, R⟩ = false := by
  rw [programOk_split, List.all_eq_false.2 ⟨_, List.getElem_mem h, by simp [e]⟩]; simp
theorem program_rest {L : List (Nd × Value)} {R : List Ru} (hn : ∀ i (h : i < L.length), nodeP (L.map Prod.fst) i L[i].1 = true) (hr : ∀ i (h : i < R.length), ruleP (L.map Prod.fst) R[i] = true) : programOk ⟨L.map Prod.fst, R⟩ = (decide (L.length ≤ 200) && decide (R.length ≤ 12)) := by
  rw [programOk_split, allN_true (fun i hi => by rw [getD_map L i hi]; exact hn i hi), List.all_eq_true.2 (fun x hx => by obtain ⟨i, hi, rfl⟩ := List.getElem_of_mem hx; exact hr i hi)]
  simp
theorem ahead_in {kids : List Int} {i n : Nat} (hi : i < n) (e : (allN kids.length fun k => inB (kids.getD k 0) 0 ((i : Int) - 1)) = true) : ∀ k, k < kids.length → ∃ m : Nat, kids.getD k 0 = m ∧ m < n := fun k hk => by
  simp only [allN, List.all_eq_true, List.mem_range] at e
  obtain ⟨m, e1, e2⟩ := inB_nat (e k hk)
  exact ⟨m, e1, by omega⟩
theorem ProgramOk_i (L : List (Nd × Value)) (R : List Ru) (vN vR : Value) (h : AH) (w : RdG h vN vR L R) (hz : SzG L R) :
    CD Tryz.prog 33 [.agg #[vN, vR]] h (.bool (programOk ⟨L.map Prod.fst, R⟩)) h := by
  refine CD.withBig (fun big => ?_)
  refine CD.quiet ?_ (low_bool _ _)
  have zn := hz.n
  have zr := hz.r
  have y1 := w.nodes.one
  have y2 := w.rules.one
  have w0 := w
  obtain ⟨B, d, rfl, hN⟩ := w.nodes.rde encD_len
  obtain ⟨C, c, rfl, hR⟩ := w.rules.rde (fun _ => rfl)
  refine CC.ofN Tryz.func33 Tryz.ntmps33 Tryz.results33 rfl (by decide) (by kernel_rfl) ?_
  simp (maxSteps := 1000000) -implicitDefEqProofs only [push_cast, seval]
  have p0 : Pre h (h.alloc (.cells [.slice B L.length d, .slice C R.length c] .solo h.n)) := (Pre.refl h).alloc _
  have c0 : (h.alloc (.cells [.slice B L.length d, .slice C R.length c] .solo h.n)).ob h.n = _ := alloc_same _
  have n0 : (h.alloc (.cells [.slice B L.length d, .slice C R.length c] .solo h.n)).n = h.n + 1 := rfl
  generalize (h.alloc (.cells [.slice B L.length d, .slice C R.length c] .solo h.n)) = h0 at *
  have l0 : h.n < h0.n := by omega
  refine WC.loopA (by kernel_rfl) [10] [2, 3, 4, 11, 12, 13, 14, 15, 16, 17, 18, 19, 20, 21, 22, 23, 24, 25, 26, 27, 28, 29, 30, 31, 32, 33, 34, 35, 36, 37] (fun i : Nat => [.int .i64 i]) (fun i h' => (i ≤ L.length ∧ ∀ k (hk : k < L.length), k < i → nodeP (L.map Prod.fst) k L[k].1 = true) ∧ Pre h0 h') (fun i => L.length - i) 0 (by kernel_rfl) ⟨⟨Nat.zero_le _, fun k hk h0 => by omega⟩, Pre.refl _⟩ ?_
  intro i g h1 hJ
  have hi := hJ.1.1
  have hj := hJ.1.2
  have p1 := hJ.2
  clear hJ
  have pre1 := p0.trans p1
  have c1 : h1.ob h.n = _ := (p1.ob _ l0).trans c0
  have l1 : h.n < h1.n := Nat.lt_of_lt_of_le l0 p1.n
  simp (maxSteps := 1000000) -implicitDefEqProofs only [push_cast, seval, c1, rd_of c1, rd1_of c1, l1]
  with_reducible refine bcase_d (fun hb => ?_) (fun hb => ?_)
  · have hi' : i < L.length := by omega
    have tz := hz.text _ (List.getElem_mem hi')
    have kz := hz.kids _ (List.getElem_mem hi')
    have kr := w0.kids _ (List.getElem_mem hi')
    have hno := fun e => program_no_node (R := R) hi' e
    have hyes : nodeP (L.map Prod.fst) i L[i].1 = true → ∀ k (hk : k < L.length), k < i + 1 → nodeP (L.map Prod.fst) k L[k].1 = true := fun e k hk h2 => by
      by_cases e2 : k = i
      · subst e2; exact e
      · exact hj k hk (by omega)
    rw [nodeP_i] at hno hyes
    with_reducible refine hN.use big pre1 hi' (fun id off eA hlt hr => ?_)
    subst eA
    simp only [encD] at hr
    have r0 := (rd_3 hr).1
    have r1 := (rd_3 hr).2.1
    have r2 := (rd_3 hr).2.2
    generalize hXv : L[i].2 = kv at *
    generalize hXn : L[i].1 = X at *
    have y3 := kr.one
    have y4 := rdv_cells kr
    simp (maxSteps := 1000000) -implicitDefEqProofs only [push_cast, seval, hr, r0, r1, r2, hlt, y3, y4]
    repeat (with_reducible refine And.intro ?_ ?_; · (first | omega | decide))
    have pp : Pre h1 ((h1.alloc (.cells [.int .i64 0, .string ⟨#[]⟩, .slice none 0 0] .solo h1.n)).set h1.n (.cells [.int .i64 X.op, .string X.text, kv] .solo h1.n)) := ((Pre.refl h1).alloc _).set (Nat.le_refl _) _
    have e1 : ((h1.alloc (.cells [.int .i64 0, .string ⟨#[]⟩, .slice none 0 0] .solo h1.n)).set h1.n (.cells [.int .i64 X.op, .string X.text, kv] .solo h1.n)).ob h1.n = _ := set_same _ _
    have m1 : ((h1.alloc (.cells [.int .i64 0, .string ⟨#[]⟩, .slice none 0 0] .solo h1.n)).set h1.n (.cells [.int .i64 X.op, .string X.text, kv] .solo h1.n)).n = h1.n + 1 := rfl
    generalize ((h1.alloc (.cells [.int .i64 0, .string ⟨#[]⟩, .slice none 0 0] .solo h1.n)).set h1.n (.cells [.int .i64 X.op, .string X.text, kv] .solo h1.n)) = h2 at *
    have e0 := (pp.ob h.n l1).trans c1
    have lx : h1.n < h2.n := by omega
    have lp : h.n < h2.n := by omega
    have pre2 := pre1.trans pp
    with_reducible refine CD.to (within_c _ _ _ _) ?_
    cases hW : inB X.op 1 25
    · simp (maxSteps := 1000000) -implicitDefEqProofs only [push_cast, seval]
      rw [hno (by rw [hW]; rfl)]
      exact ⟨rfl, pre2.keep⟩
    simp (maxSteps := 1000000) -implicitDefEqProofs only [push_cast, seval, e1, rd_of e1, rd1_of e1, e0, rd_of e0, rd1_of e0, lx, lp, y3, y4]
    with_reducible refine CD.to (kidsAhead_z kv X.kids i h2 (kr.pre pre2) kz (by omega)) ?_
    cases hA : allN X.kids.length fun k => inB (X.kids.getD k 0) 0 ((i : Int) - 1)
    · simp (maxSteps := 1000000) -implicitDefEqProofs only [push_cast, seval]
      rw [hno (by rw [hW, hA]; rfl)]
      exact ⟨rfl, pre2.keep⟩
    simp (maxSteps := 1000000) -implicitDefEqProofs only [push_cast, seval, e1, rd_of e1, rd1_of e1, e0, rd_of e0, rd1_of e0, lx, lp, y3, y4]
    with_reducible refine CD.to (textFits_c X.op X.text kv h2 y3 y4 tz) ?_
    cases hT : textP X.op X.text
    · simp (maxSteps := 1000000) -implicitDefEqProofs only [push_cast, seval]
      rw [hno (by rw [hW, hA, hT]; rfl)]
      exact ⟨rfl, pre2.keep⟩
    simp (maxSteps := 1000000) -implicitDefEqProofs only [push_cast, seval, e1, rd_of e1, rd1_of e1, e0, rd_of e0, rd1_of e0, lx, lp, y3, y4, y1, y2]
    with_reducible refine CD.to (kidsFit_c L R _ _ kv X h2 (w0.pre pre2) (kr.pre pre2) kz zn (ahead_in hi' hA)) ?_
    rw [hW, hA, hT, Bool.true_and, Bool.true_and, Bool.true_and] at hno hyes
    cases hK : (allN X.kids.length fun k => kidP X.op k (nodeOp (L.map Prod.fst) (X.kids.getD k 0))) && inB X.kids.length (manyP X.op).1 (manyP X.op).2
    · simp (maxSteps := 1000000) -implicitDefEqProofs only [push_cast, seval]
      rw [hno hK]
      exact ⟨rfl, pre2.keep⟩
    · simp (maxSteps := 1000000) -implicitDefEqProofs only [push_cast, seval]
      rw [wrapSucc (by omega)]
      exact ⟨i + 1, by kernel_rfl, ⟨⟨by omega, hyes hK⟩, p1.trans pp⟩, by omega⟩
  have ei : i = L.length := by omega
  subst ei
  simp (maxSteps := 1000000) -implicitDefEqProofs only [push_cast, seval, c1, rd_of c1, rd1_of c1, l1]
  refine WC.loopA (by kernel_rfl) [41] [2, 6, 42, 43, 44, 45, 46, 47, 48, 49] (fun i : Nat => [.int .i64 i]) (fun i h' => (i ≤ R.length ∧ ∀ k (hk : k < R.length), k < i → ruleP (L.map Prod.fst) R[k] = true) ∧ Pre h1 h') (fun i => R.length - i) 0 (by kernel_rfl) ⟨⟨Nat.zero_le _, fun k hk h0 => by omega⟩, Pre.refl _⟩ ?_
  clear hb hi
  intro i g2 h2 hJ
  have hi := hJ.1.1
  have hj2 := hJ.1.2
  have p2 := hJ.2
  clear hJ
  have pre2 := pre1.trans p2
  have c2 : h2.ob h.n = _ := (p2.ob _ l1).trans c1
  have l2 : h.n < h2.n := Nat.lt_of_lt_of_le l1 p2.n
  simp (maxSteps := 1000000) -implicitDefEqProofs only [push_cast, seval, c2, rd_of c2, rd1_of c2, l2]
  with_reducible refine bcase_d (fun hb => ?_) (fun hb => ?_)
  · have hi' : i < R.length := by omega
    have hno := fun e => program_no_rule (L := L) hi' e
    have hyes : ruleP (L.map Prod.fst) R[i] = true → ∀ k (hk : k < R.length), k < i + 1 → ruleP (L.map Prod.fst) R[k] = true := fun e k hk h2 => by
      by_cases e2 : k = i
      · subst e2; exact e
      · exact hj2 k hk (by omega)
    with_reducible refine hR.use big pre2 hi' (fun id off eA hlt hr => ?_)
    subst eA
    simp only [encU] at hr
    have r0 := (rd_3 hr).1
    have r1 := (rd_3 hr).2.1
    have r2 := (rd_3 hr).2.2
    generalize hXn : R[i] = X at *
    simp (maxSteps := 1000000) -implicitDefEqProofs only [push_cast, seval, hr, r0, r1, r2, hlt]
    repeat (with_reducible refine And.intro ?_ ?_; · (first | omega | decide))
    have pp : Pre h2 ((h2.alloc (.cells [.int .i64 0, .int .i64 0, .int .i64 0] .solo h2.n)).set h2.n (.cells [.int .i64 X.when_, .int .i64 X.cond, .int .i64 X.act] .solo h2.n)) := ((Pre.refl h2).alloc _).set (Nat.le_refl _) _
    have e1 : ((h2.alloc (.cells [.int .i64 0, .int .i64 0, .int .i64 0] .solo h2.n)).set h2.n (.cells [.int .i64 X.when_, .int .i64 X.cond, .int .i64 X.act] .solo h2.n)).ob h2.n = _ := set_same _ _
    have m1 : ((h2.alloc (.cells [.int .i64 0, .int .i64 0, .int .i64 0] .solo h2.n)).set h2.n (.cells [.int .i64 X.when_, .int .i64 X.cond, .int .i64 X.act] .solo h2.n)).n = h2.n + 1 := rfl
    generalize ((h2.alloc (.cells [.int .i64 0, .int .i64 0, .int .i64 0] .solo h2.n)).set h2.n (.cells [.int .i64 X.when_, .int .i64 X.cond, .int .i64 X.act] .solo h2.n)) = h3 at *
    have e0 := (pp.ob h.n l2).trans c2
    have lx : h2.n < h3.n := by omega
    have lp : h.n < h3.n := by omega
    have pre3 := pre2.trans pp
    simp (maxSteps := 1000000) -implicitDefEqProofs only [push_cast, seval, e1, rd_of e1, rd1_of e1, e0, rd_of e0, rd1_of e0, lx, lp, y1, y2]
    with_reducible refine CD.to (ruleFits_c L R _ _ X.when_ X.cond X.act h3 (w0.pre pre3) zn) ?_
    cases hK : ruleP (L.map Prod.fst) ⟨X.when_, X.cond, X.act⟩
    · simp (maxSteps := 1000000) -implicitDefEqProofs only [push_cast, seval]
      rw [hno hK]
      exact ⟨rfl, pre3.keep⟩
    · simp (maxSteps := 1000000) -implicitDefEqProofs only [push_cast, seval]
      rw [wrapSucc (by omega)]
      exact ⟨i + 1, by kernel_rfl, ⟨⟨by omega, hyes hK⟩, p2.trans pp⟩, by omega⟩
  have ei : i = R.length := by omega
  subst ei
  rw [program_rest (fun i hi => hj i hi hi) (fun i hi => hj2 i hi hi)]
  simp (maxSteps := 1000000) -implicitDefEqProofs only [push_cast, seval, c2, rd_of c2, rd1_of c2, l2]
  repeat' (first | with_reducible (first | exact Keep.refl _ _ | assumption | exact byte_lt _ _ | apply Keep.alloc | (refine Keep.set ?_ ?_; rotate_left; · omega) | apply Pre.alloc | apply Pre.set | exact Pre.refl _ | exact le_alloc _ | (refine Pre.keep ?_; assumption) | (refine Pre.n ?_; assumption)) | ((with_reducible (first | refine bcase_d (fun hb => ?_) (fun hb => ?_) | refine bcase_mk (fun hb => ?_) (fun hb => ?_))) <;> try simp (maxSteps := 1000000) -implicitDefEqProofs only [push_cast, seval, c2, rd_of c2, rd1_of c2, l2]) | with_reducible refine And.intro ?_ ?_ | omega | (simp only [alloc_n, set_n, kill_n]; omega) | (exfalso; omega))
  all_goals (congr 1; rw [Bool.eq_iff_iff]; simp; omega)
end Go.Proofs.YtdlpdfclljnmhaaGreat
namespace Go.Proofs.YtdlpdfclljnmhaaGreat
open Go Go.Sim Go.Proofs
set_option linter.unusedSimpArgs false
set_option linter.unusedVariables false
set_option maxRecDepth 100000
set_option maxHeartbeats 1000000
theorem kidP_s (op : Int) (k : Nat) (kop : Int) : kidP op k kop = !(((decide (op = 24) || (decide (op = 22) && decide (0 < k))) == isEx kop) || (decide (op = 22) && decide (kop = 22))) := by
  have e : isEx 22 = false := by decide
  unfold kidP
  by_cases h1 : op = 22
  · subst h1
    by_cases h2 : 0 < k
    · by_cases h3 : kop = 22
      · subst h3; simp [h2, e]
      · cases hx : isEx kop <;> simp [h2, h3, hx]
    · by_cases h3 : kop = 22
      · subst h3; simp [h2, e]
      · cases hx : isEx kop <;> simp [h2, h3, hx]
  · by_cases h2 : op = 24
    · subst h2
      cases hx : isEx kop <;> simp [hx]
    · cases hx : isEx kop <;> simp [h1, h2, hx]
theorem l06Node_c (L : List (Nd × Value)) (R : List Ru) (vN vR : Value) (i : Nat) (h : AH) (w : RdG h vN vR L R) (hz : SzG L R) (hi : i < L.length) :
    CD Tryz.prog 56 [.agg #[vN, vR], .int .i64 (i : Nat)] h (.bool (nodeP (L.map Prod.fst) i L[i].1)) h := by
  refine CD.withBig (fun big => ?_)
  refine CD.quiet ?_ (low_bool _ _)
  have zn := hz.n
  have y1 := w.nodes.one
  have y2 := w.rules.one
  have w0 := w
  obtain ⟨B, d, rfl, hN⟩ := w.nodes.rde encD_len
  have tz := hz.text _ (List.getElem_mem hi)
  have kz := hz.kids _ (List.getElem_mem hi)
  have kr := w0.kids _ (List.getElem_mem hi)
  have p0 : Pre h (h.alloc (.cells [.slice B L.length d, vR] .solo h.n)) := (Pre.refl h).alloc _
  have c0 : (h.alloc (.cells [.slice B L.length d, vR] .solo h.n)).ob h.n = _ := alloc_same _
  have n0 : (h.alloc (.cells [.slice B L.length d, vR] .solo h.n)).n = h.n + 1 := rfl
  refine hN.use big p0 hi (fun id off eA hlt hr => ?_)
  subst eA
  simp only [encD] at hr
  have r0 := (rd_3 hr).1
  have r1 := (rd_3 hr).2.1
  have r2 := (rd_3 hr).2.2
  generalize hXv : L[i].2 = kv at *
  generalize hXn : L[i].1 = X at *
  have y3 := kr.one
  have y4 := rdv_cells kr
  have hw1 : IntKind.i64.wrap ((i : Int) - 1) = (i : Int) - 1 := by rw [w64 (by omega) (by omega)]
  refine CC.ofN Tryz.func56 Tryz.ntmps56 Tryz.results56 rfl (by decide) (by kernel_rfl) ?_
  simp (maxSteps := 1000000) -implicitDefEqProofs only [push_cast, seval, y1, y2]
  generalize (h.alloc (.cells [.slice (some ⟨id, off, none⟩) L.length d, vR] .solo h.n)) = h0 at *
  have l0 : h.n < h0.n := by omega
  simp (maxSteps := 1000000) -implicitDefEqProofs only [push_cast, seval, c0, rd_of c0, rd1_of c0, l0, hr, r0, r1, r2, hlt, y3, y4]
  repeat (with_reducible refine And.intro ?_ ?_; · (first | omega | decide))
  have pp : Pre h0 ((h0.alloc (.cells [.int .i64 0, .string ⟨#[]⟩, .slice none 0 0] .solo h0.n)).set h0.n (.cells [.int .i64 X.op, .string X.text, kv] .solo h0.n)) := ((Pre.refl h0).alloc _).set (Nat.le_refl _) _
  have e1 : ((h0.alloc (.cells [.int .i64 0, .string ⟨#[]⟩, .slice none 0 0] .solo h0.n)).set h0.n (.cells [.int .i64 X.op, .string X.text, kv] .solo h0.n)).ob h0.n = _ := set_same _ _
  have m1 : ((h0.alloc (.cells [.int .i64 0, .string ⟨#[]⟩, .slice none 0 0] .solo h0.n)).set h0.n (.cells [.int .i64 X.op, .string X.text, kv] .solo h0.n)).n = h0.n + 1 := rfl
  generalize ((h0.alloc (.cells [.int .i64 0, .string ⟨#[]⟩, .slice none 0 0] .solo h0.n)).set h0.n (.cells [.int .i64 X.op, .string X.text, kv] .solo h0.n)) = h1 at *
  have c1 := (pp.ob h.n l0).trans c0
  have lx : h0.n < h1.n := by omega
  have l1 : h.n < h1.n := by omega
  have pre1 := p0.trans pp
  with_reducible refine CD.to (l06Many_c X.op h1) ?_
  simp (maxSteps := 1000000) -implicitDefEqProofs only [push_cast, seval, c1, rd_of c1, rd1_of c1, e1, rd_of e1, rd1_of e1, l1, lx, y3, y4]
  with_reducible refine CD.to (l01In_c _ _ _ _) ?_
  rw [nodeP]
  cases hW : inB X.op 1 25
  · simp (maxSteps := 1000000) -implicitDefEqProofs only [push_cast, seval]
    exact pre1.keep
  simp (maxSteps := 1000000) -implicitDefEqProofs only [push_cast, seval, c1, rd_of c1, rd1_of c1, e1, rd_of e1, rd1_of e1, l1, lx, y3, y4]
  with_reducible refine CD.to (l06Text_c X.op X.text kv h1 y3 y4 tz) ?_
  cases hT : textP X.op X.text
  · simp (maxSteps := 1000000) -implicitDefEqProofs only [push_cast, seval]
    exact pre1.keep
  obtain ⟨A, c, rfl, hR⟩ := kr.rde (fun _ => rfl)
  simp (maxSteps := 1000000) -implicitDefEqProofs only [push_cast, seval, c1, rd_of c1, rd1_of c1, e1, rd_of e1, rd1_of e1, l1, lx]
  with_reducible refine CD.to (l01In_c _ _ _ _) ?_
  cases hM : inB X.kids.length (manyP X.op).1 (manyP X.op).2
  · simp (maxSteps := 1000000) -implicitDefEqProofs only [push_cast, seval]
    exact pre1.keep
  simp (maxSteps := 1000000) -implicitDefEqProofs only [push_cast, seval, c1, rd_of c1, rd1_of c1, e1, rd_of e1, rd1_of e1, l1, lx]
  refine WC.loopA (by kernel_rfl) [8] [4, 9, 10, 40, 41, 42, 43, 44, 45, 46, 47, 48, 49, 50, 51, 52, 53, 54, 55, 56, 57, 58, 59, 60, 61, 62, 63, 64, 65, 66, 67, 68, 69, 70, 71, 72, 73, 74, 75, 76, 77, 78, 79, 80, 81, 82, 83, 84, 85, 86, 87, 88, 89, 90] (fun k : Nat => [.int .i64 k]) (fun k h' => (k ≤ X.kids.length ∧ ∀ j, j < k → (inB (X.kids.getD j 0) 0 ((i : Int) - 1) && kidP X.op j (nodeOp (L.map Prod.fst) (X.kids.getD j 0))) = true) ∧ Pre h1 h') (fun k => X.kids.length - k) 0 (by kernel_rfl) ⟨⟨Nat.zero_le _, fun k hk => by omega⟩, Pre.refl _⟩ ?_
  intro k g h2 hJ
  have hk := hJ.1.1
  have hj := hJ.1.2
  have p2 := hJ.2
  clear hJ
  have pre2 := pre1.trans p2
  have c2 := (p2.ob _ l1).trans c1
  have e2 := (p2.ob _ lx).trans e1
  have l2 : h.n < h2.n := Nat.lt_of_lt_of_le l1 p2.n
  have lx2 : h0.n < h2.n := Nat.lt_of_lt_of_le lx p2.n
  simp (maxSteps := 1000000) -implicitDefEqProofs only [push_cast, seval, c2, rd_of c2, rd1_of c2, e2, rd_of e2, rd1_of e2, l2, lx2]
  with_reducible refine bcase_d (fun hb => ?_) (fun hb => ?_)
  rotate_left
  · have ek : k = X.kids.length := by omega
    subst ek
    simp (maxSteps := 1000000) -implicitDefEqProofs only [push_cast, seval]
    rw [allN_true hj]
    exact ⟨rfl, pre2.keep⟩
  have hk' : k < X.kids.length := by omega
  have hg := getD_eq X.kids k 0 hk'
  with_reducible refine hR.use big pre2 hk' (fun id3 off3 eA hlt3 hr3 => ?_)
  subst eA
  rw [← hg] at hr3
  have hno : (inB (X.kids.getD k 0) 0 ((i : Int) - 1) && kidP X.op k (nodeOp (L.map Prod.fst) (X.kids.getD k 0))) = false → (allN X.kids.length fun j => inB (X.kids.getD j 0) 0 ((i : Int) - 1) && kidP X.op j (nodeOp (L.map Prod.fst) (X.kids.getD j 0))) = false := fun e => allN_false hk' e
  have hyes : (inB (X.kids.getD k 0) 0 ((i : Int) - 1) && kidP X.op k (nodeOp (L.map Prod.fst) (X.kids.getD k 0))) = true → ∀ j, j < k + 1 → (inB (X.kids.getD j 0) 0 ((i : Int) - 1) && kidP X.op j (nodeOp (L.map Prod.fst) (X.kids.getD j 0))) = true := fun e j hj2 => (Nat.lt_succ_iff_lt_or_eq.1 hj2).elim (hj j) (fun e2 => by subst e2; exact e)
  generalize hZ : X.kids.getD k 0 = Z at *
  simp only [encZ] at hr3
  have q0 := rd_1 hr3
  simp (maxSteps := 1000000) -implicitDefEqProofs only [push_cast, seval, c2, rd_of c2, rd1_of c2, e2, rd_of e2, rd1_of e2, l2, lx2, hr3, q0, hlt3]
  repeat (with_reducible refine And.intro ?_ ?_; · (first | omega | decide))
  simp (maxSteps := 1000000) -implicitDefEqProofs only [push_cast, seval, c2, rd_of c2, rd1_of c2, e2, rd_of e2, rd1_of e2, l2, lx2, hr3, q0, hlt3, hw1]
  with_reducible refine CD.to (l01In_c _ _ _ _) ?_
  cases hin : inB Z 0 ((i : Int) - 1)
  · simp (maxSteps := 1000000) -implicitDefEqProofs only [push_cast, seval]
    rw [hno (by rw [hin]; rfl)]
    exact ⟨rfl, pre2.keep⟩
  have hm := inB_nat hin
  with_reducible refine Exists.elim hm (fun m hm => ?_)
  have em := hm.1
  have hm' : m < L.length := by have := hm.2; omega
  clear hm
  subst em
  have hop := nodeOp_at L m m hm' rfl
  with_reducible refine hN.use big pre2 hm' (fun id4 off4 eB hlt4 hr4 => ?_)
  with_reducible injection eB with eB
  with_reducible injection eB with e3 e4
  subst e3 e4
  simp only [encD] at hr4
  have q4 := (rd_3 hr4).1
  rw [hop, hin, Bool.true_and, kidP_s] at hno hyes
  generalize L[m].1.op = O at *
  simp (maxSteps := 1000000) -implicitDefEqProofs only [push_cast, seval]
  refine WC.draw' (by kernel_rfl) (by kernel_rfl) (.q 0 (.q 1 (.q 2 (.q 3 (.q 4 (.q 5 (.q 6 (.q 7 (.q 8 (.q 9 (.q 10 (.done)))))))))))) (by kernel_rfl) ?_
  simp (maxSteps := 1000000) -implicitDefEqProofs only [push_cast, seval, c2, rd_of c2, rd1_of c2, e2, rd_of e2, rd1_of e2, l2, lx2, hr3, q0, hlt3, hr4, q4, hlt4]
  repeat (with_reducible refine And.intro ?_ ?_; · (first | omega | decide))
  repeat' (first | with_reducible (first | exact Keep.refl _ _ | assumption | exact byte_lt _ _ | apply Keep.alloc | (refine Keep.set ?_ ?_; rotate_left; · omega) | apply Pre.alloc | apply Pre.set | exact Pre.refl _ | exact le_alloc _ | (refine Pre.keep ?_; assumption) | (refine Pre.n ?_; assumption)) | ((with_reducible (first | refine CD.to (l06Ex_c _ _) ?_ | refine CQ.pure (fun _ => l06Ex_c _ _) ?_ | refine bcase_d (fun hb => ?_) (fun hb => ?_) | refine bcase_mk (fun hb => ?_) (fun hb => ?_))) <;> try simp (maxSteps := 1000000) -implicitDefEqProofs only [push_cast, seval, c2, rd_of c2, rd1_of c2, e2, rd_of e2, rd1_of e2, l2, lx2, hr3, q0, hlt3, hr4, q4, hlt4]) | with_reducible refine And.intro ?_ ?_ | omega | (simp only [alloc_n, set_n, kill_n]; omega) | (exfalso; omega))
  all_goals first
    | exact pre2.keep
    | (rw [hno (by simp_all)]; done)
    | (rw [wrapSucc (by omega)]
       exact ⟨k + 1, by kernel_rfl, ⟨⟨by omega, hyes (by grind)⟩, p2⟩, by omega⟩)
theorem ProgramOk_s (L : List (Nd × Value)) (R : List Ru) (vN vR : Value) (h : AH) (w : RdG h vN vR L R) (hz : SzG L R) :
    CD Tryz.prog 27 [.agg #[vN, vR]] h (.bool (programOk ⟨L.map Prod.fst, R⟩)) h := by
  refine CD.withBig (fun big => ?_)
  refine CD.quiet ?_ (low_bool _ _)
  have zn := hz.n
  have zr := hz.r
  have y1 := w.nodes.one
  have y2 := w.rules.one
  have w0 := w
  obtain ⟨B, d, rfl, hN⟩ := w.nodes.rde encD_len
  obtain ⟨C, c, rfl, hR⟩ := w.rules.rde (fun _ => rfl)
  have hw1 : IntKind.i64.wrap ((L.length : Int) - 1) = (L.length : Int) - 1 := by rw [w64 (by omega) (by omega)]
  have p0 : Pre h (h.alloc (.cells [.slice B L.length d, .slice C R.length c] .solo h.n)) := (Pre.refl h).alloc _
  have c0 : (h.alloc (.cells [.slice B L.length d, .slice C R.length c] .solo h.n)).ob h.n = _ := alloc_same _
  have n0 : (h.alloc (.cells [.slice B L.length d, .slice C R.length c] .solo h.n)).n = h.n + 1 := rfl
  by_cases hs : L.length ≤ 200 ∧ R.length ≤ 12
  rotate_left
  · have eF : programOk ⟨L.map Prod.fst, R⟩ = false := by
      rw [programOk_split]
      by_cases h1 : L.length ≤ 200
      · rw [decide_eq_false (show ¬ R.length ≤ 12 by omega)]; simp
      · rw [decide_eq_false h1]; simp
    rw [eF]
    refine CC.ofN Tryz.func27 Tryz.ntmps27 Tryz.results27 rfl (by decide) (by kernel_rfl) ?_
    simp (maxSteps := 1000000) -implicitDefEqProofs only [push_cast, seval]
    repeat' (first | with_reducible (first | exact Keep.refl _ _ | assumption | exact byte_lt _ _ | apply Keep.alloc | (refine Keep.set ?_ ?_; rotate_left; · omega) | apply Pre.alloc | apply Pre.set | exact Pre.refl _ | exact le_alloc _ | (refine Pre.keep ?_; assumption) | (refine Pre.n ?_; assumption)) | ((with_reducible (first | refine bcase_d (fun hb => ?_) (fun hb => ?_) | refine bcase_mk (fun hb => ?_) (fun hb => ?_))) <;> try simp (maxSteps := 1000000) -implicitDefEqProofs only [push_cast, seval]) | with_reducible refine And.intro ?_ ?_ | omega | (simp only [alloc_n, set_n, kill_n]; omega) | (exfalso; omega))
  have hs1 := hs.1
  have hs2 := hs.2
  refine CC.ofN Tryz.func27 Tryz.ntmps27 Tryz.results27 rfl (by decide) (by kernel_rfl) ?_
  simp (maxSteps := 1000000) -implicitDefEqProofs only [push_cast, seval]
  generalize (h.alloc (.cells [.slice B L.length d, .slice C R.length c] .solo h.n)) = h0 at *
  have l0 : h.n < h0.n := by omega
  with_reducible refine bcase_d (fun hb => ?_) (fun hb => ?_)
  · exfalso; omega
  simp (maxSteps := 1000000) -implicitDefEqProofs only [push_cast, seval, c0, rd_of c0, rd1_of c0, l0]
  with_reducible refine bcase_d (fun hb => ?_) (fun hb => ?_)
  · exfalso; omega
  simp (maxSteps := 1000000) -implicitDefEqProofs only [push_cast, seval]
  refine WC.loopA (by kernel_rfl) [3] [2, 16, 17, 18, 19, 20, 21, 22, 23, 24, 25, 26] (fun i : Nat => [.int .i64 i]) (fun i h' => (i ≤ L.length ∧ ∀ k (hk : k < L.length), k < i → nodeP (L.map Prod.fst) k L[k].1 = true) ∧ Pre h0 h') (fun i => L.length - i) 0 (by kernel_rfl) ⟨⟨Nat.zero_le _, fun k hk h0 => by omega⟩, Pre.refl _⟩ ?_
  intro i g h1 hJ
  have hi := hJ.1.1
  have hj := hJ.1.2
  have p1 := hJ.2
  clear hJ
  have pre1 := p0.trans p1
  have c1 : h1.ob h.n = _ := (p1.ob _ l0).trans c0
  have l1 : h.n < h1.n := Nat.lt_of_lt_of_le l0 p1.n
  simp (maxSteps := 1000000) -implicitDefEqProofs only [push_cast, seval, c1, rd_of c1, rd1_of c1, l1]
  with_reducible refine bcase_d (fun hb => ?_) (fun hb => ?_)
  · have hi' : i < L.length := by omega
    have hno := fun e => program_no_node (R := R) hi' e
    have hyes : nodeP (L.map Prod.fst) i L[i].1 = true → ∀ k (hk : k < L.length), k < i + 1 → nodeP (L.map Prod.fst) k L[k].1 = true := fun e k hk h2 => by
      by_cases e2 : k = i
      · subst e2; exact e
      · exact hj k hk (by omega)
    simp (maxSteps := 1000000) -implicitDefEqProofs only [push_cast, seval, c1, rd_of c1, rd1_of c1, l1]
    with_reducible refine CD.to (l06Node_c L R _ _ i h1 (w0.pre pre1) hz hi') ?_
    cases hK : nodeP (L.map Prod.fst) i L[i].1
    · simp (maxSteps := 1000000) -implicitDefEqProofs only [push_cast, seval]
      rw [hno hK]
      exact ⟨rfl, pre1.keep⟩
    · simp (maxSteps := 1000000) -implicitDefEqProofs only [push_cast, seval]
      rw [wrapSucc (by omega)]
      exact ⟨i + 1, by kernel_rfl, ⟨⟨by omega, hyes hK⟩, p1⟩, by omega⟩
  have ei : i = L.length := by omega
  subst ei
  simp (maxSteps := 1000000) -implicitDefEqProofs only [push_cast, seval, c1, rd_of c1, rd1_of c1, l1]
  refine WC.loopA (by kernel_rfl) [4] [2, 5, 27, 28, 29, 30, 31, 32, 33, 34, 35, 36, 37, 38, 39, 40, 41, 42, 43, 44, 45, 46, 47, 48, 49, 50, 51, 52, 53, 54, 55, 56, 57, 58, 59, 60, 61, 62, 63, 64, 65, 66, 67, 68, 69, 70, 71, 72, 73, 74, 75, 76, 77, 78, 79, 80, 81, 82, 83, 84, 85, 86, 87, 88, 89, 90, 91] (fun i : Nat => [.int .i64 i]) (fun i h' => (i ≤ R.length ∧ ∀ k (hk : k < R.length), k < i → ruleP (L.map Prod.fst) R[k] = true) ∧ Pre h1 h') (fun i => R.length - i) 0 (by kernel_rfl) ⟨⟨Nat.zero_le _, fun k hk h0 => by omega⟩, Pre.refl _⟩ ?_
  clear hb hi
  intro i g2 h2 hJ
  have hi := hJ.1.1
  have hj2 := hJ.1.2
  have p2 := hJ.2
  clear hJ
  have pre2 := pre1.trans p2
  have c2 : h2.ob h.n = _ := (p2.ob _ l1).trans c1
  have l2 : h.n < h2.n := Nat.lt_of_lt_of_le l1 p2.n
  simp (maxSteps := 1000000) -implicitDefEqProofs only [push_cast, seval, c2, rd_of c2, rd1_of c2, l2]
  with_reducible refine bcase_d (fun hb => ?_) (fun hb => ?_)
  rotate_left
  · have ei : i = R.length := by omega
    subst ei
    rw [program_rest (fun i hi => hj i hi hi) (fun i hi => hj2 i hi hi), decide_eq_true hs1, decide_eq_true hs2]
    simp (maxSteps := 1000000) -implicitDefEqProofs only [push_cast, seval]
    exact pre2.keep
  have hi' : i < R.length := by omega
  have hno := fun e => program_no_rule (L := L) hi' e
  have hyes : ruleP (L.map Prod.fst) R[i] = true → ∀ k (hk : k < R.length), k < i + 1 → ruleP (L.map Prod.fst) R[k] = true := fun e k hk h2 => by
    by_cases e2 : k = i
    · subst e2; exact e
    · exact hj2 k hk (by omega)
  with_reducible refine hR.use big pre2 hi' (fun id off eA hlt hr => ?_)
  subst eA
  simp only [encU] at hr
  have r0 := (rd_3 hr).1
  have r1 := (rd_3 hr).2.1
  have r2 := (rd_3 hr).2.2
  have eX : R[i] = ⟨R[i].when_, R[i].cond, R[i].act⟩ := rfl
  rw [eX] at hno hyes
  generalize R[i].when_ = wh at *
  generalize R[i].cond = cd at *
  generalize R[i].act = ac at *
  have hlen : (L.map Prod.fst).length = L.length := List.length_map _
  have eP : ruleP (L.map Prod.fst) ⟨wh, cd, ac⟩ = (inB wh 1 3 && inB ac 0 ((L.length : Int) - 1) && decide (nodeOp (L.map Prod.fst) ac = 24) && (decide (cd = -1) || (decide (wh = 2) && inB cd 0 ((L.length : Int) - 1) && isEx (nodeOp (L.map Prod.fst) cd)))) := by rw [ruleP, hlen]
  rw [eP] at hno hyes
  clear eP eX
  simp (maxSteps := 1000000) -implicitDefEqProofs only [push_cast, seval, c2, rd_of c2, rd1_of c2, l2, hr, r0, r1, r2, hlt]
  repeat (with_reducible refine And.intro ?_ ?_; · (first | omega | decide))
  have pp : Pre h2 ((h2.alloc (.cells [.int .i64 0, .int .i64 0, .int .i64 0] .solo h2.n)).set h2.n (.cells [.int .i64 wh, .int .i64 cd, .int .i64 ac] .solo h2.n)) := ((Pre.refl h2).alloc _).set (Nat.le_refl _) _
  have e1 : ((h2.alloc (.cells [.int .i64 0, .int .i64 0, .int .i64 0] .solo h2.n)).set h2.n (.cells [.int .i64 wh, .int .i64 cd, .int .i64 ac] .solo h2.n)).ob h2.n = _ := set_same _ _
  have m1 : ((h2.alloc (.cells [.int .i64 0, .int .i64 0, .int .i64 0] .solo h2.n)).set h2.n (.cells [.int .i64 wh, .int .i64 cd, .int .i64 ac] .solo h2.n)).n = h2.n + 1 := rfl
  generalize ((h2.alloc (.cells [.int .i64 0, .int .i64 0, .int .i64 0] .solo h2.n)).set h2.n (.cells [.int .i64 wh, .int .i64 cd, .int .i64 ac] .solo h2.n)) = h3 at *
  have e0 := (pp.ob h.n l2).trans c2
  have lx : h2.n < h3.n := by omega
  have lp : h.n < h3.n := by omega
  have pre3 := pre2.trans pp
  have p3 := p2.trans pp
  with_reducible refine CD.to (l01In_c _ _ _ _) ?_
  cases hW : inB wh 1 3
  · simp (maxSteps := 1000000) -implicitDefEqProofs only [push_cast, seval]
    rw [hno (by rw [hW]; rfl)]
    exact ⟨rfl, pre3.keep⟩
  simp (maxSteps := 1000000) -implicitDefEqProofs only [push_cast, seval, e1, rd_of e1, rd1_of e1, e0, rd_of e0, rd1_of e0, lx, lp, hw1]
  with_reducible refine CD.to (l01In_c _ _ _ _) ?_
  cases hA : inB ac 0 ((L.length : Int) - 1)
  · simp (maxSteps := 1000000) -implicitDefEqProofs only [push_cast, seval]
    rw [hno (by rw [hW, hA]; rfl)]
    exact ⟨rfl, pre3.keep⟩
  have hm := inB_nat hA
  with_reducible refine Exists.elim hm (fun m hm => ?_)
  have em := hm.1
  have hm' := hm.2
  clear hm
  subst em
  have hop := nodeOp_at L m m hm' rfl
  with_reducible refine hN.use big pre3 hm' (fun id4 off4 eB hlt4 hr4 => ?_)
  subst eB
  simp only [encD] at hr4
  have q4 := (rd_3 hr4).1
  rw [hop] at hno hyes
  generalize L[m].1.op = O at *
  simp (maxSteps := 1000000) -implicitDefEqProofs only [push_cast, seval, e1, rd_of e1, rd1_of e1, e0, rd_of e0, rd1_of e0, lx, lp, hr4, q4, hlt4]
  repeat (with_reducible refine And.intro ?_ ?_; · (first | omega | decide))
  simp (maxSteps := 1000000) -implicitDefEqProofs only [push_cast, seval, e1, rd_of e1, rd1_of e1, e0, rd_of e0, rd1_of e0, lx, lp, hr4, q4, hlt4]
  with_reducible refine bcase_d (fun hO => ?_) (fun hO => ?_)
  rotate_left
  · simp (maxSteps := 1000000) -implicitDefEqProofs only [push_cast, seval]
    rw [hno (by rw [hW, hA, decide_eq_false hO]; rfl)]
    exact ⟨rfl, pre3.keep⟩
  rw [hW, hA, decide_eq_true hO] at hno hyes
  simp (maxSteps := 1000000) -implicitDefEqProofs only [push_cast, seval, e1, rd_of e1, rd1_of e1, e0, rd_of e0, rd1_of e0, lx, lp, hr4, q4, hlt4]
  with_reducible refine bcase_d (fun hC => ?_) (fun hC => ?_)
  · simp (maxSteps := 1000000) -implicitDefEqProofs only [push_cast, seval, e1, rd_of e1, rd1_of e1, e0, rd_of e0, rd1_of e0, lx, lp]
    rw [wrapSucc (by omega)]
    exact ⟨i + 1, by kernel_rfl, ⟨⟨by omega, hyes (by rw [decide_eq_true hC]; rfl)⟩, p3⟩, by omega⟩
  rw [decide_eq_false hC] at hno hyes
  simp (maxSteps := 1000000) -implicitDefEqProofs only [push_cast, seval, e1, rd_of e1, rd1_of e1, e0, rd_of e0, rd1_of e0, lx, lp, hr4, q4, hlt4]
  with_reducible refine bcase_d (fun hW2 => ?_) (fun hW2 => ?_)
  rotate_left
  · simp (maxSteps := 1000000) -implicitDefEqProofs only [push_cast, seval]
    rw [hno (by rw [decide_eq_false hW2]; rfl)]
    exact ⟨rfl, pre3.keep⟩
  rw [decide_eq_true hW2] at hno hyes
  simp (maxSteps := 1000000) -implicitDefEqProofs only [push_cast, seval, e1, rd_of e1, rd1_of e1, e0, rd_of e0, rd1_of e0, lx, lp, hr4, q4, hlt4, hw1]
  with_reducible refine CD.to (l01In_c _ _ _ _) ?_
  cases hB : inB cd 0 ((L.length : Int) - 1)
  · simp (maxSteps := 1000000) -implicitDefEqProofs only [push_cast, seval]
    rw [hno (by rw [hB]; rfl)]
    exact ⟨rfl, pre3.keep⟩
  have hm2 := inB_nat hB
  with_reducible refine Exists.elim hm2 (fun m2 hm2 => ?_)
  have em2 := hm2.1
  have hm2' := hm2.2
  clear hm2
  subst em2
  have ho2 := nodeOp_at L m2 m2 hm2' rfl
  with_reducible refine hN.use big pre3 hm2' (fun id3 off3 eB hlt3 hr3 => ?_)
  with_reducible injection eB with eB
  with_reducible injection eB with e5 e6
  subst e5 e6
  simp only [encD] at hr3
  have q3 := (rd_3 hr3).1
  rw [ho2, hB] at hno hyes
  generalize L[m2].1.op = O2 at *
  simp (maxSteps := 1000000) -implicitDefEqProofs only [push_cast, seval, e1, rd_of e1, rd1_of e1, e0, rd_of e0, rd1_of e0, lx, lp, hr3, hlt3, q3]
  repeat (with_reducible refine And.intro ?_ ?_; · (first | omega | decide))
  simp (maxSteps := 1000000) -implicitDefEqProofs only [push_cast, seval, e1, rd_of e1, rd1_of e1, e0, rd_of e0, rd1_of e0, lx, lp, hr3, hlt3, q3]
  with_reducible refine CD.to (l06Ex_c _ _) ?_
  cases hE : isEx O2
  · simp (maxSteps := 1000000) -implicitDefEqProofs only [push_cast, seval]
    rw [hno (by rw [hE]; rfl)]
    exact ⟨rfl, pre3.keep⟩
  · simp (maxSteps := 1000000) -implicitDefEqProofs only [push_cast, seval]
    rw [wrapSucc (by omega)]
    exact ⟨i + 1, by kernel_rfl, ⟨⟨by omega, hyes (by rw [hE]; rfl)⟩, p3⟩, by omega⟩
end Go.Proofs.YtdlpdfclljnmhaaGreat
namespace Go.Proofs.YtdlpdfclljnmhaaGreat
open Go Go.Sim Go.Proofs
set_option linter.unusedSimpArgs false
set_option linter.unusedVariables false
set_option maxRecDepth 100000
set_option maxHeartbeats 1000000
/-- A new slice's cells, of which the first are filled. -/
def Filled {α : Type} (k : Nat) (enc : α → List Value) (l : List α) (cs : List Value) (i : Nat) : Prop := cs.length = l.length * k ∧ ∀ j (hj : j < l.length), j < i → (cs.drop (j * k)).take k = enc l[j]
theorem Filled.put {α : Type} {k : Nat} {enc : α → List Value} {l : List α} {cs : List Value} {i : Nat} (w : Filled k enc l cs i) (hi : i < l.length) (hk : (enc l[i]).length = k) : Filled k enc l (putL cs (i * k) (enc l[i])) (i + 1) := by
  refine ⟨by rw [putL_length, w.1], fun j hj hji => ?_⟩
  have hb : i * k + k ≤ cs.length := by rw [w.1, ← Nat.succ_mul]; exact Nat.mul_le_mul_right k hi
  by_cases e : j = i
  · subst e
    apply List.ext_getElem?
    intro m
    rw [List.getElem?_take]
    by_cases hm : m < k
    · rw [if_pos hm, List.getElem?_drop, putL_in _ _ _ m (by omega) (by omega), List.getElem?_eq_getElem]
    · rw [if_neg hm, List.getElem?_eq_none (by omega)]
  · have hji' : j < i := by omega
    rw [← w.2 j hj hji']
    have hq : j * k + k ≤ i * k := by rw [← Nat.succ_mul]; exact Nat.mul_le_mul_right k hji'
    apply List.ext_getElem?
    intro m
    rw [List.getElem?_take, List.getElem?_take]
    by_cases hm : m < k
    · rw [if_pos hm, if_pos hm, List.getElem?_drop, List.getElem?_drop, putL_out _ _ _ _ (.inl (by omega))]
    · rw [if_neg hm, if_neg hm]
theorem Filled.zero {α : Type} {k : Nat} {enc : α → List Value} {l : List α} (z : List Value) : Filled k enc l (zerosL (l.length * k) z) 0 := ⟨zerosL_length _ _, fun j _ h => absurd h (Nat.not_lt_zero j)⟩
theorem Filled.readAt {α : Type} {k : Nat} {enc : α → List Value} {l : List α} {cs : List Value} (w : Filled k enc l cs l.length) {h : AH} {i : Nat} {st : Sim.Stat} {ln : Nat} (e : h.ob i = .cells cs st ln) : RdE h (some ⟨i, 0, none⟩) k enc l := fun j hj => by
  refine ⟨i, 0, rfl, ?_⟩
  rw [rd_of e, rdO_cells, Nat.zero_add, w.2 j hj hj]
  have : j * k + k ≤ cs.length := by rw [w.1, ← Nat.succ_mul]; exact Nat.mul_le_mul_right k hj
  simp [this]
theorem Filled.read {α : Type} {k : Nat} {enc : α → List Value} {l : List α} {cs : List Value} (w : Filled k enc l cs l.length) (h : AH) : RdE (h.alloc (.cells cs .solo h.n)) (some ⟨h.n, 0, none⟩) k enc l := fun i hi => by
  refine ⟨h.n, 0, rfl, ?_⟩
  rw [rd_alloc_same, rdO_cells, Nat.zero_add, w.2 i hi hi]
  have : i * k + k ≤ cs.length := by rw [w.1, ← Nat.succ_mul]; exact Nat.mul_le_mul_right k hi
  simp [this]
theorem alloc_set {h : AH} (o o' : AOb) : (h.alloc o).set h.n o' = h.alloc o' := by
  unfold AH.set AH.alloc
  simp only
  congr 1
  funext j
  split <;> rfl
theorem take_next {α : Type} {l m : List α} {i : Nat} (e : l.take i = m.take i) (hi : i < l.length) (hj : i < m.length) (h : l[i] = m[i]) : l.take (i + 1) = m.take (i + 1) := by
  rw [List.take_add_one, List.take_add_one, e, List.getElem?_eq_getElem hi, List.getElem?_eq_getElem hj, h]
theorem take_full {α : Type} {l m : List α} (e : l.take l.length = m.take l.length) (h : l.length = m.length) : l = m := by
  rw [List.take_length, h, List.take_length] at e; exact e
theorem eqInstr_c (a b : Ins) (h : AH) : CD Tryz.prog 81 [.agg #[.int .i64 a.op, .int .i64 a.arg], .agg #[.int .i64 b.op, .int .i64 b.arg]] h (.bool (decide (a = b))) h := by
  refine CD.quiet ?_ (low_bool _ _)
  refine CC.ofN Tryz.func81 Tryz.ntmps81 Tryz.results81 rfl (by decide) (by kernel_rfl) ?_
  simp (maxSteps := 1000000) -implicitDefEqProofs only [push_cast, seval]
  repeat' (first | with_reducible (first | exact Keep.refl _ _ | assumption | exact byte_lt _ _ | apply Keep.alloc | (refine Keep.set ?_ ?_; rotate_left; · omega) | apply Pre.alloc | apply Pre.set | exact Pre.refl _ | exact le_alloc _ | (refine Pre.keep ?_; assumption) | (refine Pre.n ?_; assumption)) | ((with_reducible (first | refine bcase_d (fun hb => ?_) (fun hb => ?_) | refine bcase_mk (fun hb => ?_) (fun hb => ?_))) <;> try simp (maxSteps := 1000000) -implicitDefEqProofs only [push_cast, seval]) | with_reducible refine And.intro ?_ ?_ | omega | (simp only [alloc_n, set_n, kill_n]; omega) | (exfalso; omega))
  all_goals (obtain ⟨a1, a2⟩ := a; obtain ⟨b1, b2⟩ := b; simp_all [Ins.mk.injEq])
theorem eqInstrS_c (l m : List Ins) (A B : Option Addr) (ca cb : Nat) (h : AH) (hA : RdE h A 2 encN l) (hB : RdE h B 2 encN m) (hl : l.length < 274877906944) (hm : m.length < 274877906944) :
    CD Tryz.prog 52 [.slice A l.length ca, .slice B m.length cb] h (.bool (decide (l = m))) h := by
  refine CD.withBig (fun big => ?_)
  refine CD.quiet ?_ (low_bool _ _)
  refine CC.ofN Tryz.func52 Tryz.ntmps52 Tryz.results52 rfl (by decide) (by kernel_rfl) ?_
  simp (maxSteps := 1000000) -implicitDefEqProofs only [push_cast, seval]
  with_reducible refine bcase_d (fun hb => ?_) (fun hb => ?_)
  rotate_left
  · simp (maxSteps := 1000000) -implicitDefEqProofs only [push_cast, seval]
    repeat' (first | with_reducible (first | exact Keep.refl _ _ | assumption | exact byte_lt _ _ | apply Keep.alloc | (refine Keep.set ?_ ?_; rotate_left; · omega) | apply Pre.alloc | apply Pre.set | exact Pre.refl _ | exact le_alloc _ | (refine Pre.keep ?_; assumption) | (refine Pre.n ?_; assumption)) | ((with_reducible (first | refine bcase_d (fun hb => ?_) (fun hb => ?_) | refine bcase_mk (fun hb => ?_) (fun hb => ?_))) <;> try simp (maxSteps := 1000000) -implicitDefEqProofs only [push_cast, seval]) | with_reducible refine And.intro ?_ ?_ | omega | (simp only [alloc_n, set_n, kill_n]; omega) | (exfalso; omega))
    have : l ≠ m := fun e => hb (by rw [e])
    simp [this]
  have hlm : l.length = m.length := by omega
  simp (maxSteps := 1000000) -implicitDefEqProofs only [push_cast, seval]
  refine WC.loopA (by kernel_rfl) [5] [4, 11, 12, 13, 14, 15, 16, 17, 18, 19, 20, 21, 22, 23, 24, 25, 26] (fun a : Nat => [.int .i64 (a : Nat)]) (fun a h' => a ≤ l.length ∧ l.take a = m.take a ∧ Pre h h') (fun a => l.length - a) 0 (by kernel_rfl) ⟨Nat.zero_le _, by simp, Pre.refl _⟩ ?_
  intro a g h1 hJ
  have hi := hJ.1
  have he := hJ.2.1
  have hp := hJ.2.2
  clear hJ
  simp (maxSteps := 1000000) -implicitDefEqProofs only [push_cast, seval]
  with_reducible refine bcase_d (fun hb => ?_) (fun hb => ?_)
  · have hi' : a < l.length := by omega
    have hj' : a < m.length := by omega
    with_reducible refine hA.use big hp hi' (fun id off eA hlt hr => ?_)
    with_reducible refine hB.use big hp hj' (fun id2 off2 eB hlt2 hr2 => ?_)
    subst eA
    subst eB
    simp only [encN] at hr hr2
    simp (maxSteps := 1000000) -implicitDefEqProofs only [push_cast, seval, hr, hlt, hr2, hlt2]
    refine WC.draw' (by kernel_rfl) (by kernel_rfl) (.q 0 (.q 1 (.q 2 (.q 3 (.q 4 (.q 5 (.q 6 (.q 7 (.c 8 (.q 9 (.done))))))))))) (by kernel_rfl) ?_
    simp (maxSteps := 1000000) -implicitDefEqProofs only [push_cast, seval, hr, hlt, hr2, hlt2]
    repeat' (first | with_reducible (first | exact Keep.refl _ _ | assumption | exact byte_lt _ _ | apply Keep.alloc | (refine Keep.set ?_ ?_; rotate_left; · omega) | apply Pre.alloc | apply Pre.set | exact Pre.refl _ | exact le_alloc _ | (refine Pre.keep ?_; assumption) | (refine Pre.n ?_; assumption)) | ((with_reducible (first | refine CD.to (eqInstr_c _ _ _) ?_ | refine CQ.pure (fun _ => eqInstr_c _ _ _) ?_ | refine bcase_d (fun hb => ?_) (fun hb => ?_) | refine bcase_mk (fun hb => ?_) (fun hb => ?_))) <;> try simp (maxSteps := 1000000) -implicitDefEqProofs only [push_cast, seval, hr, hlt, hr2, hlt2]) | with_reducible refine And.intro ?_ ?_ | omega | (simp only [alloc_n, set_n, kill_n]; omega) | (exfalso; omega))
    · rw [wrapSucc (by omega)]
      refine ⟨a + 1, by kernel_rfl, ⟨by show a + 1 ≤ l.length; omega, take_next he hi' hj' ?_, hp⟩, by show l.length - (a + 1) < l.length - a; omega⟩
      simpa using hb
    · have : l ≠ m := fun e => by subst e; simp at hb
      simp [this]
  · have hn : a = l.length := by omega
    subst hn
    simp (maxSteps := 1000000) -implicitDefEqProofs only [push_cast, seval]
    repeat' (first | with_reducible (first | exact Keep.refl _ _ | assumption | exact byte_lt _ _ | apply Keep.alloc | (refine Keep.set ?_ ?_; rotate_left; · omega) | apply Pre.alloc | apply Pre.set | exact Pre.refl _ | exact le_alloc _ | (refine Pre.keep ?_; assumption) | (refine Pre.n ?_; assumption)) | ((with_reducible (first | refine bcase_d (fun hb => ?_) (fun hb => ?_) | refine bcase_mk (fun hb => ?_) (fun hb => ?_))) <;> try simp (maxSteps := 1000000) -implicitDefEqProofs only [push_cast, seval]) | with_reducible refine And.intro ?_ ?_ | omega | (simp only [alloc_n, set_n, kill_n]; omega) | (exfalso; omega))
    have := take_full he hlm
    simp [this]
theorem eqStringS_c (l m : List ByteArray) (A B : Option Addr) (ca cb : Nat) (h : AH) (hA : RdE h A 1 encTx l) (hB : RdE h B 1 encTx m) (hl : l.length < 274877906944) (hm : m.length < 274877906944) :
    CD Tryz.prog 16 [.slice A l.length ca, .slice B m.length cb] h (.bool (decide (l = m))) h := by
  refine CD.withBig (fun big => ?_)
  refine CD.quiet ?_ (low_bool _ _)
  refine CC.ofN Tryz.func16 Tryz.ntmps16 Tryz.results16 rfl (by decide) (by kernel_rfl) ?_
  simp (maxSteps := 1000000) -implicitDefEqProofs only [push_cast, seval]
  with_reducible refine bcase_d (fun hb => ?_) (fun hb => ?_)
  rotate_left
  · simp (maxSteps := 1000000) -implicitDefEqProofs only [push_cast, seval]
    repeat' (first | with_reducible (first | exact Keep.refl _ _ | assumption | exact byte_lt _ _ | apply Keep.alloc | (refine Keep.set ?_ ?_; rotate_left; · omega) | apply Pre.alloc | apply Pre.set | exact Pre.refl _ | exact le_alloc _ | (refine Pre.keep ?_; assumption) | (refine Pre.n ?_; assumption)) | ((with_reducible (first | refine bcase_d (fun hb => ?_) (fun hb => ?_) | refine bcase_mk (fun hb => ?_) (fun hb => ?_))) <;> try simp (maxSteps := 1000000) -implicitDefEqProofs only [push_cast, seval]) | with_reducible refine And.intro ?_ ?_ | omega | (simp only [alloc_n, set_n, kill_n]; omega) | (exfalso; omega))
    have : l ≠ m := fun e => hb (by rw [e])
    simp [this]
  have hlm : l.length = m.length := by omega
  simp (maxSteps := 1000000) -implicitDefEqProofs only [push_cast, seval]
  refine WC.loopA (by kernel_rfl) [5] [4, 11, 12, 13, 14, 15, 16, 17, 18, 19, 20, 21, 22, 23, 24, 25] (fun a : Nat => [.int .i64 (a : Nat)]) (fun a h' => a ≤ l.length ∧ l.take a = m.take a ∧ Pre h h') (fun a => l.length - a) 0 (by kernel_rfl) ⟨Nat.zero_le _, by simp, Pre.refl _⟩ ?_
  intro a g h1 hJ
  have hi := hJ.1
  have he := hJ.2.1
  have hp := hJ.2.2
  clear hJ
  simp (maxSteps := 1000000) -implicitDefEqProofs only [push_cast, seval]
  with_reducible refine bcase_d (fun hb => ?_) (fun hb => ?_)
  · have hi' : a < l.length := by omega
    have hj' : a < m.length := by omega
    with_reducible refine hA.use big hp hi' (fun id off eA hlt hr => ?_)
    with_reducible refine hB.use big hp hj' (fun id2 off2 eB hlt2 hr2 => ?_)
    subst eA
    subst eB
    simp only [encTx, Nat.mul_one] at hr hr2
    have r0 := rd_1 hr
    have r02 := rd_1 hr2
    simp (maxSteps := 1000000) -implicitDefEqProofs only [push_cast, seval, hr, r0, hlt, hr2, r02, hlt2, Nat.mul_one]
    refine WC.draw' (by kernel_rfl) (by kernel_rfl) (.q 0 (.q 1 (.q 2 (.q 3 (.q 4 (.q 5 (.q 6 (.q 7 (.q 8 (.done)))))))))) (by kernel_rfl) ?_
    simp (maxSteps := 1000000) -implicitDefEqProofs only [push_cast, seval, hr, r0, hlt, hr2, r02, hlt2, Nat.mul_one]
    repeat (with_reducible refine And.intro ?_ ?_; · (first | omega | decide))
    with_reducible refine bcase_d (fun hb2 => ?_) (fun hb2 => ?_)
    · simp (maxSteps := 1000000) -implicitDefEqProofs only [push_cast, seval]
      rw [wrapSucc (by omega)]
      exact ⟨a + 1, by kernel_rfl, ⟨by show a + 1 ≤ l.length; omega, take_next he hi' hj' hb2, hp⟩, by show l.length - (a + 1) < l.length - a; omega⟩
    · simp (maxSteps := 1000000) -implicitDefEqProofs only [push_cast, seval]
      have : l ≠ m := fun e => by subst e; exact hb2 rfl
      exact ⟨by simp [this], hp.keep⟩
  · have hn : a = l.length := by omega
    subst hn
    simp (maxSteps := 1000000) -implicitDefEqProofs only [push_cast, seval]
    repeat' (first | with_reducible (first | exact Keep.refl _ _ | assumption | exact byte_lt _ _ | apply Keep.alloc | (refine Keep.set ?_ ?_; rotate_left; · omega) | apply Pre.alloc | apply Pre.set | exact Pre.refl _ | exact le_alloc _ | (refine Pre.keep ?_; assumption) | (refine Pre.n ?_; assumption)) | ((with_reducible (first | refine bcase_d (fun hb => ?_) (fun hb => ?_) | refine bcase_mk (fun hb => ?_) (fun hb => ?_))) <;> try simp (maxSteps := 1000000) -implicitDefEqProofs only [push_cast, seval]) | with_reducible refine And.intro ?_ ?_ | omega | (simp only [alloc_n, set_n, kill_n]; omega) | (exfalso; omega))
    have := take_full he hlm
    simp [this]
end Go.Proofs.YtdlpdfclljnmhaaGreat
namespace Go.Proofs.YtdlpdfclljnmhaaGreat
open Go Go.Sim Go.Proofs
set_option linter.unusedSimpArgs false
set_option linter.unusedVariables false
set_option maxRecDepth 100000
set_option maxHeartbeats 1000000
theorem Filled.rdv {α : Type} {k : Nat} {enc : α → List Value} {l : List α} {cs : List Value} (w : Filled k enc l cs l.length) (hl : ∀ x, (enc x).length = k) {h : AH} {i c : Nat} {st : Sim.Stat} {ln : Nat} (e : h.ob i = .cells cs st ln) (hi : i < h.n) : RdV h (.slice (some ⟨i, 0, none⟩) l.length c) k enc l := by
  refine .inr ⟨i, 0, c, rfl, ?_, hi⟩
  have hc : cs = (l.map enc).flatten := by
    have hf := flat_len (enc := enc) l hl
    apply List.ext_getElem?
    intro j
    by_cases hk : k = 0
    · rw [List.getElem?_eq_none (by rw [w.1, hk]; omega), List.getElem?_eq_none (by rw [hf, hk]; omega)]
    by_cases hj : j < l.length * k
    · have hq : j / k < l.length := Nat.div_lt_of_lt_mul (by rw [Nat.mul_comm]; exact hj)
      have hm : j % k < k := Nat.mod_lt _ (by omega)
      have h1 := w.2 (j / k) hq hq
      have h2 := chunk_at (enc := enc) (k := k) (j / k) hq (fun x _ => hl x)
      have e1 := congrArg (·[j % k]?) h1
      have e2 := congrArg (·[j % k]?) h2
      simp only [List.getElem?_take, hm, if_true, List.getElem?_drop] at e1 e2
      have hd : j / k * k + j % k = j := by rw [Nat.mul_comm]; exact Nat.div_add_mod j k
      rw [hd] at e1 e2
      rw [e1, e2]
    · rw [List.getElem?_eq_none (by rw [w.1]; omega), List.getElem?_eq_none (by rw [hf]; omega)]
  rw [rd_of e, rdO_cells, if_pos (by rw [w.1]; omega), List.drop_zero, List.take_of_length_le (by rw [w.1]; omega), hc]
theorem eqCode_c (c : Cod) (vA vB vC vD : Value) (h : AH) (r : RdC h vA vB c) (r2 : RdC h vC vD c) (ht : c.texts.length < 274877906944) (hl : c.list.length < 274877906944) :
    CD Tryz.prog 22 [.agg #[vA, vB, .int .i64 c.bgn, .int .i64 c.line, .int .i64 c.fin], .agg #[vC, vD, .int .i64 c.bgn, .int .i64 c.line, .int .i64 c.fin]] h (.bool true) h := by
  refine CD.withBig (fun big => ?_)
  refine CD.quiet ?_ (low_bool _ _)
  obtain ⟨A, cA, rfl, hA⟩ := r.texts.rde (fun _ => rfl)
  obtain ⟨B, cB, rfl, hB⟩ := r.list.rde (fun _ => rfl)
  obtain ⟨C, cC, rfl, hC⟩ := r2.texts.rde (fun _ => rfl)
  obtain ⟨D, cD, rfl, hD⟩ := r2.list.rde (fun _ => rfl)
  have pb : Pre h ((h.alloc (.cells [.slice A c.texts.length cA, .slice B c.list.length cB, .int .i64 c.bgn, .int .i64 c.line, .int .i64 c.fin] .solo h.n)).alloc (.cells [.slice C c.texts.length cC, .slice D c.list.length cD, .int .i64 c.bgn, .int .i64 c.line, .int .i64 c.fin] .solo (h.n + 1))) := ((Pre.refl _).alloc _).alloc _
  have hV := eqStringS_c c.texts c.texts A C cA cC _ (hA.pre big pb) (hC.pre big pb) ht ht
  have hU := eqInstrS_c c.list c.list B D cB cD _ (hB.pre big pb) (hD.pre big pb) hl hl
  rw [decide_eq_true rfl] at hV hU
  refine CC.ofN Tryz.func22 Tryz.ntmps22 Tryz.results22 rfl (by decide) (by kernel_rfl) ?_
  simp (maxSteps := 1000000) -implicitDefEqProofs only [push_cast, seval]
  repeat' (first | with_reducible (first | exact Keep.refl _ _ | assumption | exact byte_lt _ _ | apply Keep.alloc | (refine Keep.set ?_ ?_; rotate_left; · omega) | apply Pre.alloc | apply Pre.set | exact Pre.refl _ | exact le_alloc _ | (refine Pre.keep ?_; assumption) | (refine Pre.n ?_; assumption)) | ((with_reducible (first | refine CD.to (hV) ?_ | refine CQ.pure (fun _ => hV) ?_ | refine CD.to (hU) ?_ | refine CQ.pure (fun _ => hU) ?_ | refine bcase_d (fun hb => ?_) (fun hb => ?_) | refine bcase_mk (fun hb => ?_) (fun hb => ?_))) <;> try simp (maxSteps := 1000000) -implicitDefEqProofs only [push_cast, seval]) | with_reducible refine And.intro ?_ ?_ | omega | (simp only [alloc_n, set_n, kill_n]; omega) | (exfalso; omega))
theorem SzC.small {c : Cod} (h : codeW c ≤ 1048576) : c.texts.length ≤ 1048576 ∧ c.list.length ≤ 1048576 := by unfold codeW at h; omega
end Go.Proofs.YtdlpdfclljnmhaaGreat
namespace Go.Proofs.YtdlpdfclljnmhaaGreat
open Go Go.Sim Go.Proofs
set_option linter.unusedSimpArgs false
set_option linter.unusedVariables false
set_option maxRecDepth 100000
set_option maxHeartbeats 1000000
theorem szIntS_c (n : Nat) (A : Option Addr) (ca : Nat) (l : Int) (h : AH) (hn : n ≤ maxLen) (hl : 0 ≤ l ∧ l ≤ 1048576) :
    CD Tryz.prog 82 [.slice A n ca, .int .i64 l] h (.int .i64 (if l - n < 0 then -1 else l - n)) h := by
  refine CD.quiet ?_ (low_int _ _ _)
  have hm := maxLen_eq
  have w1 : IntKind.i64.wrap (l - (n : Int)) = l - (n : Int) := by rw [w64 (by omega) (by omega)]
  refine CC.ofN Tryz.func82 Tryz.ntmps82 Tryz.results82 rfl (by decide) (by kernel_rfl) ?_
  simp (maxSteps := 1000000) -implicitDefEqProofs only [push_cast, seval, w1]
  repeat' (first | with_reducible (first | exact Keep.refl _ _ | assumption | exact byte_lt _ _ | apply Keep.alloc | (refine Keep.set ?_ ?_; rotate_left; · omega) | apply Pre.alloc | apply Pre.set | exact Pre.refl _ | exact le_alloc _ | (refine Pre.keep ?_; assumption) | (refine Pre.n ?_; assumption)) | ((with_reducible (first | refine bcase_d (fun hb => ?_) (fun hb => ?_) | refine bcase_mk (fun hb => ?_) (fun hb => ?_))) <;> try simp (maxSteps := 1000000) -implicitDefEqProofs only [push_cast, seval, w1]) | with_reducible refine And.intro ?_ ?_ | omega | (simp only [alloc_n, set_n, kill_n]; omega) | (exfalso; omega))
  all_goals grind
theorem szRuleS_c (n : Nat) (A : Option Addr) (ca : Nat) (l : Int) (h : AH) (hn : n ≤ maxLen) (hl : 0 ≤ l ∧ l ≤ 1048576) :
    CD Tryz.prog 26 [.slice A n ca, .int .i64 l] h (.int .i64 (if l - n < 0 then -1 else l - n)) h := by
  refine CD.quiet ?_ (low_int _ _ _)
  have hm := maxLen_eq
  have w1 : IntKind.i64.wrap (l - (n : Int)) = l - (n : Int) := by rw [w64 (by omega) (by omega)]
  refine CC.ofN Tryz.func26 Tryz.ntmps26 Tryz.results26 rfl (by decide) (by kernel_rfl) ?_
  simp (maxSteps := 1000000) -implicitDefEqProofs only [push_cast, seval, w1]
  repeat' (first | with_reducible (first | exact Keep.refl _ _ | assumption | exact byte_lt _ _ | apply Keep.alloc | (refine Keep.set ?_ ?_; rotate_left; · omega) | apply Pre.alloc | apply Pre.set | exact Pre.refl _ | exact le_alloc _ | (refine Pre.keep ?_; assumption) | (refine Pre.n ?_; assumption)) | ((with_reducible (first | refine bcase_d (fun hb => ?_) (fun hb => ?_) | refine bcase_mk (fun hb => ?_) (fun hb => ?_))) <;> try simp (maxSteps := 1000000) -implicitDefEqProofs only [push_cast, seval, w1]) | with_reducible refine And.intro ?_ ?_ | omega | (simp only [alloc_n, set_n, kill_n]; omega) | (exfalso; omega))
  all_goals grind
theorem szNode_c (op : Int) (s : ByteArray) (A : Option Addr) (n ca : Nat) (l : Int) (h : AH) (hs : s.size ≤ maxLen) (hn : n ≤ maxLen) (hl : 0 ≤ l ∧ l ≤ 1048576) :
    CD Tryz.prog 55 [.agg #[.int .i64 op, .string s, .slice A n ca], .int .i64 l] h (.int .i64 (if l - (s.size + n : Nat) < 0 then -1 else l - (s.size + n : Nat))) h := by
  refine CD.quiet ?_ (low_int _ _ _)
  have hm := maxLen_eq
  have w1 : IntKind.i64.wrap (l - (s.size : Int)) = l - (s.size : Int) := by rw [w64 (by omega) (by omega)]
  refine CC.ofN Tryz.func55 Tryz.ntmps55 Tryz.results55 rfl (by decide) (by kernel_rfl) ?_
  simp (maxSteps := 1000000) -implicitDefEqProofs only [push_cast, seval, w1]
  repeat' (first | with_reducible (first | exact Keep.refl _ _ | assumption | exact byte_lt _ _ | apply Keep.alloc | (refine Keep.set ?_ ?_; rotate_left; · omega) | apply Pre.alloc | apply Pre.set | exact Pre.refl _ | exact le_alloc _ | (refine Pre.keep ?_; assumption) | (refine Pre.n ?_; assumption)) | ((with_reducible (first | refine CD.to (szIntS_c n A ca _ _ ?_ ?_) ?_ | refine CQ.pure (fun _ => szIntS_c n A ca _ _ ?_ ?_) ?_ | refine bcase_d (fun hb => ?_) (fun hb => ?_) | refine bcase_mk (fun hb => ?_) (fun hb => ?_))) <;> try simp (maxSteps := 1000000) -implicitDefEqProofs only [push_cast, seval, w1]) | with_reducible refine And.intro ?_ ?_ | omega | (simp only [alloc_n, set_n, kill_n]; omega) | (exfalso; omega))
  all_goals first
    | omega
    | (congr 1; split <;> omega)
    | grind
theorem nameI2 (n : Int) {G : Prop} (k : ∀ N, n = N → G) : G := k n rfl
theorem lt_of_if2 {x : Int} {l w : Int} (h : (if l - w < 0 then -1 else l - w) = x) : (x < 0 → l - w < 0) ∧ (¬ x < 0 → x = l - w) := by split at h <;> omega
def nodW (L : List (Nd × Value)) (i : Nat) : Nat := ((L.take i).map fun x => x.1.text.size + x.1.kids.length).sum
theorem nodW_zero (L : List (Nd × Value)) : nodW L 0 = 0 := by simp [nodW]
theorem nodW_succ {L : List (Nd × Value)} {i : Nat} (h : i < L.length) : nodW L (i + 1) = nodW L i + (L[i].1.text.size + L[i].1.kids.length) := by
  simp only [nodW, List.take_add_one, List.getElem?_eq_getElem h, Option.toList_some, List.map_append, List.map_cons, List.map_nil, List.sum_append, List.sum_cons, List.sum_nil]; omega
theorem nodW_mono {L : List (Nd × Value)} : ∀ {i j : Nat}, i ≤ j → j ≤ L.length → nodW L i ≤ nodW L j
  | i, 0, h, _ => by have : i = 0 := by omega
                     subst this; exact Nat.le_refl _
  | i, j + 1, h, hj => by
    by_cases e : i = j + 1
    · subst e; exact Nat.le_refl _
    · have := nodW_mono (L := L) (i := i) (j := j) (by omega) (by omega)
      rw [nodW_succ (by omega)]; omega
theorem szNodeS_c (L : List (Nd × Value)) (A : Option Addr) (ca : Nat) (l : Int) (h : AH) (hR : RdE h A 3 encD L) (kids : ∀ x ∈ L, RdV h x.2 1 encZ x.1.kids) (hz : ∀ x ∈ L, x.1.text.size ≤ maxLen ∧ x.1.kids.length ≤ maxLen) (hn : L.length ≤ maxLen) (hl : 0 ≤ l ∧ l ≤ 1048576) :
    CD Tryz.prog 25 [.slice A L.length ca, .int .i64 l] h (.int .i64 (if l - (L.length + nodW L L.length : Nat) < 0 then -1 else l - (L.length + nodW L L.length : Nat))) h := by
  refine CD.withBig (fun big => ?_)
  refine CD.quiet ?_ (low_int _ _ _)
  have hm := maxLen_eq
  have w1 : IntKind.i64.wrap (l - (L.length : Int)) = l - (L.length : Int) := by rw [w64 (by omega) (by omega)]
  refine CC.ofN Tryz.func25 Tryz.ntmps25 Tryz.results25 rfl (by decide) (by kernel_rfl) ?_
  simp (maxSteps := 1000000) -implicitDefEqProofs only [push_cast, seval, w1]
  with_reducible refine bcase_d (fun hb => ?_) (fun hb => ?_)
  · simp (maxSteps := 1000000) -implicitDefEqProofs only [push_cast, seval]
    exact ⟨by rw [if_pos (by omega)], Keep.refl _ _⟩
  simp (maxSteps := 1000000) -implicitDefEqProofs only [push_cast, seval]
  refine WC.loopA (by kernel_rfl) [1, 5] [4, 12, 13, 14, 15, 16, 17, 18, 19, 20, 21, 22, 23, 24, 25] (fun a : Int × Nat => [.int .i64 a.1, .int .i64 (a.2 : Nat)]) (fun a h' => (a.1 = l - (L.length + nodW L a.2 : Nat) ∧ 0 ≤ a.1 ∧ a.2 ≤ L.length) ∧ Pre h h') (fun a => L.length - a.2) (l - L.length, 0) (by kernel_rfl) ⟨⟨by rw [nodW_zero]; simp, by omega, Nat.zero_le _⟩, Pre.refl _⟩ ?_
  intro a g h1 hJ
  have ha := hJ.1.1
  have h0 := hJ.1.2.1
  have hi := hJ.1.2.2
  have hp := hJ.2
  clear hJ
  simp (maxSteps := 1000000) -implicitDefEqProofs only [push_cast, seval]
  with_reducible refine bcase_d (fun hb => ?_) (fun hb => ?_)
  · have hi' : a.2 < L.length := by omega
    have kr := (kids L[a.2] (List.getElem_mem hi'))
    have hzi := hz _ (List.getElem_mem hi')
    have hs := nodW_succ hi'
    have hmo := nodW_mono (L := L) (i := a.2 + 1) (j := L.length) (by omega) (Nat.le_refl _)
    with_reducible refine hR.use big hp hi' (fun id off eA hlt hr => ?_)
    subst eA
    simp only [encD] at hr
    have r0 := (rd_3 hr).1
    have r1 := (rd_3 hr).2.1
    have r2 := (rd_3 hr).2.2
    generalize L[a.2] = X at *
    have kf := kr.rde (fun _ => rfl)
    with_reducible refine Exists.elim kf (fun K kf => ?_)
    with_reducible refine Exists.elim kf (fun cK kf => ?_)
    have eK := kf.1
    clear kf
    rw [eK] at hr r2
    simp (maxSteps := 1000000) -implicitDefEqProofs only [push_cast, seval, hr, r0, r1, r2, hlt]
    repeat (with_reducible refine And.intro ?_ ?_; · (first | omega | decide))
    with_reducible refine CD.to (szNode_c X.1.op X.1.text K X.1.kids.length cK a.1 _ hzi.1 hzi.2 (by omega)) ?_
    with_reducible refine nameI2 (if a.1 - (X.1.text.size + X.1.kids.length : Nat) < 0 then -1 else a.1 - (X.1.text.size + X.1.kids.length : Nat)) (fun l1 h2 => ?_)
    have g2 := lt_of_if2 h2
    rw [h2]
    simp (maxSteps := 1000000) -implicitDefEqProofs only [push_cast, seval]
    with_reducible refine bcase_d (fun hb2 => ?_) (fun hb2 => ?_)
    · simp (maxSteps := 1000000) -implicitDefEqProofs only [push_cast, seval]
      exact ⟨by rw [if_pos (by omega)], hp.keep⟩
    · simp (maxSteps := 1000000) -implicitDefEqProofs only [push_cast, seval]
      rw [wrapSucc (by omega)]
      exact ⟨(l1, a.2 + 1), by kernel_rfl, ⟨⟨by show l1 = l - (L.length + nodW L (a.2 + 1) : Nat); omega, by show 0 ≤ l1; omega, by show a.2 + 1 ≤ L.length; omega⟩, hp⟩, by show L.length - (a.2 + 1) < L.length - a.2; omega⟩
  · have hn : a.2 = L.length := by omega
    rw [hn] at ha
    simp (maxSteps := 1000000) -implicitDefEqProofs only [push_cast, seval]
    refine ⟨?_, hp.keep⟩
    rw [if_neg (by omega)]
    congr 1
def progW (L : List (Nd × Value)) (R : List Ru) : Nat := L.length + nodW L L.length + R.length
end Go.Proofs.YtdlpdfclljnmhaaGreat
/- Slices made by a call, of their own, and nobody's line but theirs. Conditions: none. -/
set_option linter.unusedVariables false
namespace Go.Sim
variable {h : AH}
def So (n0 : Nat) (h : AH) (v : Value) (n k : Nat) : Prop := ∃ id cs, v = .slice (some ⟨id, 0, none⟩) n k ∧ h.ob id = .cells cs .solo id ∧ cs.length = n * k ∧ n0 ≤ id ∧ id < h.n
theorem So.keep {n0 : Nat} {h' : AH} {v : Value} {n k : Nat} (w : So n0 h v n k) (hn : h.n ≤ h'.n) (e : ∀ i, atBlock v i → h'.ob i = h.ob i) : So n0 h' v n k := by
  obtain ⟨id, cs, rfl, a, b, c, d⟩ := w
  exact ⟨id, cs, rfl, (e id rfl).trans a, b, c, by omega⟩
theorem So.range {n0 : Nat} {v : Value} {n k : Nat} (w : So n0 h v n k) {i : Nat} (e : atBlock v i) : n0 ≤ i ∧ i < h.n := by
  obtain ⟨id, cs, rfl, a, b, c, d⟩ := w
  have e' : id = i := e
  omega
theorem So.pre {n0 : Nat} {h' : AH} {v : Value} {n k : Nat} (w : So n0 h v n k) (p : Pre h h') : So n0 h' v n k := w.keep p.n (fun i e => p.ob i (w.range e).2)
theorem So.mono {n0 n1 : Nat} {v : Value} {n k : Nat} (w : So n0 h v n k) (e : n1 ≤ n0) : So n1 h v n k := by
  obtain ⟨id, cs, rfl, a, b, c, d⟩ := w
  exact ⟨id, cs, rfl, a, b, by omega, d⟩
end Go.Sim
namespace Go.Proofs.YtdlpdfclljnmhaaGreat
open Go Go.Sim Go.Proofs
set_option linter.unusedSimpArgs false
set_option linter.unusedVariables false
set_option maxRecDepth 100000
set_option maxHeartbeats 1000000
theorem toIntS_c (vs : List Int) (A : Option Addr) (ca : Nat) (h : AH) (hR : RdE h A 1 encZ vs) (hn : vs.length < 274877906944) :
    CC Tryz.prog 85 [.slice A vs.length ca] h (fun v h' => ∃ cs, v = .slice (some ⟨h.n, 0, none⟩) vs.length 1 ∧ h' = h.alloc (.cells cs .solo h.n) ∧ Filled 1 encZ vs cs vs.length) := by
  refine CC.withBig (fun big => ?_)
  refine CC.ofN Tryz.func85 Tryz.ntmps85 Tryz.results85 rfl (by decide) (by kernel_rfl) ?_
  simp (maxSteps := 1000000) -implicitDefEqProofs only [push_cast, seval]
  repeat (with_reducible refine And.intro ?_ ?_; · (first | omega | decide))
  refine WC.loopA (by kernel_rfl) [4] [8, 9, 10, 11, 12, 13, 14, 15, 16, 17, 18, 19, 20] (fun a : Nat × List Value => [.int .i64 (a.1 : Nat)]) (fun a h' => h' = h.alloc (.cells a.2 .solo h.n) ∧ a.1 ≤ vs.length ∧ Filled 1 encZ vs a.2 a.1) (fun a => vs.length - a.1) (0, List.replicate (vs.length * 1) (.int .i64 0)) (by kernel_rfl) ⟨rfl, Nat.zero_le _, by simp, fun j _ h => absurd h (Nat.not_lt_zero j)⟩ ?_
  intro a g h1 hJ
  have hh := hJ.1
  have hi := hJ.2.1
  have hf := hJ.2.2
  clear hJ
  subst hh
  have pb : Pre h (h.alloc (.cells a.2 .solo h.n)) := (Pre.refl _).alloc _
  simp (maxSteps := 1000000) -implicitDefEqProofs only [push_cast, seval]
  with_reducible refine bcase_d (fun hb => ?_) (fun hb => ?_)
  · have hi' : a.1 < vs.length := by omega
    with_reducible refine hR.use big pb hi' (fun id off eA hlt hr => ?_)
    subst eA
    simp only [encZ, Nat.mul_one] at hr
    have r0 := rd_1 hr
    have hc := hf.1
    have hf' := hf.put hi' rfl
    simp only [encZ] at hf'
    have hbd : a.1 + 1 ≤ vs.length * 1 := by omega
    simp (maxSteps := 1000000) -implicitDefEqProofs only [push_cast, seval, hr, r0, hlt, Nat.mul_one]
    repeat' (first | with_reducible (first | exact Keep.refl _ _ | assumption | exact byte_lt _ _ | apply Keep.alloc | (refine Keep.set ?_ ?_; rotate_left; · omega) | apply Pre.alloc | apply Pre.set | exact Pre.refl _ | exact le_alloc _ | (refine Pre.keep ?_; assumption) | (refine Pre.n ?_; assumption)) | ((with_reducible (first | refine bcase_d (fun hb => ?_) (fun hb => ?_) | refine bcase_mk (fun hb => ?_) (fun hb => ?_))) <;> try simp (maxSteps := 1000000) -implicitDefEqProofs only [push_cast, seval, hr, r0, hlt, Nat.mul_one, hc, hbd]) | with_reducible refine And.intro ?_ ?_ | omega | (simp only [alloc_n, set_n, kill_n]; omega) | (exfalso; omega))
    rw [wrapSucc (by omega)]
    refine ⟨(a.1 + 1, putL a.2 (a.1 * 1) [.int .i64 vs[a.1]]), by kernel_rfl, ⟨?_, ?_, hf'⟩, ?_⟩
    · simp only [putL, alloc_set, Nat.mul_one]
    · show a.1 + 1 ≤ vs.length
      omega
    · show vs.length - (a.1 + 1) < vs.length - a.1
      omega
  · have hn : a.1 = vs.length := by omega
    rw [hn] at hf
    simp (maxSteps := 1000000) -implicitDefEqProofs only [push_cast, seval]
    repeat' (first | with_reducible (first | exact Keep.refl _ _ | assumption | exact byte_lt _ _ | apply Keep.alloc | (refine Keep.set ?_ ?_; rotate_left; · omega) | apply Pre.alloc | apply Pre.set | exact Pre.refl _ | exact le_alloc _ | (refine Pre.keep ?_; assumption) | (refine Pre.n ?_; assumption)) | ((with_reducible (first | refine bcase_d (fun hb => ?_) (fun hb => ?_) | refine bcase_mk (fun hb => ?_) (fun hb => ?_))) <;> try simp (maxSteps := 1000000) -implicitDefEqProofs only [push_cast, seval]) | with_reducible refine And.intro ?_ ?_ | omega | (simp only [alloc_n, set_n, kill_n]; omega) | (exfalso; omega))
    exact ⟨_, rfl, hf⟩
theorem toRule_c (x : Ru) (h : AH) : CD Tryz.prog 60 [.agg #[.int .i64 x.when_, .int .i64 x.cond, .int .i64 x.act]] h (.agg #[.int .i64 x.when_, .int .i64 x.cond, .int .i64 x.act]) h := by
  refine CD.quiet ?_ (low_agg (by simp [low_int]))
  refine CC.ofN Tryz.func60 Tryz.ntmps60 Tryz.results60 rfl (by decide) (by kernel_rfl) ?_
  simp (maxSteps := 1000000) -implicitDefEqProofs only [push_cast, seval]
  repeat' (first | with_reducible (first | exact Keep.refl _ _ | assumption | exact byte_lt _ _ | apply Keep.alloc | (refine Keep.set ?_ ?_; rotate_left; · omega) | apply Pre.alloc | apply Pre.set | exact Pre.refl _ | exact le_alloc _ | (refine Pre.keep ?_; assumption) | (refine Pre.n ?_; assumption)) | ((with_reducible (first | refine bcase_d (fun hb => ?_) (fun hb => ?_) | refine bcase_mk (fun hb => ?_) (fun hb => ?_))) <;> try simp (maxSteps := 1000000) -implicitDefEqProofs only [push_cast, seval]) | with_reducible refine And.intro ?_ ?_ | omega | (simp only [alloc_n, set_n, kill_n]; omega) | (exfalso; omega))
theorem toRuleS_c (vs : List Ru) (A : Option Addr) (ca : Nat) (h : AH) (hR : RdE h A 3 encU vs) (hn : vs.length < 274877906944) :
    CC Tryz.prog 32 [.slice A vs.length ca] h (fun v h' => ∃ cs, v = .slice (some ⟨h.n, 0, none⟩) vs.length 3 ∧ h' = h.alloc (.cells cs .solo h.n) ∧ Filled 3 encU vs cs vs.length) := by
  refine CC.withBig (fun big => ?_)
  refine CC.ofN Tryz.func32 Tryz.ntmps32 Tryz.results32 rfl (by decide) (by kernel_rfl) ?_
  simp (maxSteps := 1000000) -implicitDefEqProofs only [push_cast, seval]
  repeat (with_reducible refine And.intro ?_ ?_; · (first | omega | decide))
  refine WC.loopA (by kernel_rfl) [4] [8, 9, 10, 11, 12, 13, 14, 15, 16, 17, 18, 19, 20, 21] (fun a : Nat × List Value => [.int .i64 (a.1 : Nat)]) (fun a h' => h' = h.alloc (.cells a.2 .solo h.n) ∧ a.1 ≤ vs.length ∧ Filled 3 encU vs a.2 a.1) (fun a => vs.length - a.1) (0, zerosL (vs.length * 3) [.int .i64 0, .int .i64 0, .int .i64 0]) (by kernel_rfl) ⟨rfl, Nat.zero_le _, Filled.zero _⟩ ?_
  intro a g h1 hJ
  have hh := hJ.1
  have hi := hJ.2.1
  have hf := hJ.2.2
  clear hJ
  subst hh
  have pb : Pre h (h.alloc (.cells a.2 .solo h.n)) := (Pre.refl _).alloc _
  simp (maxSteps := 1000000) -implicitDefEqProofs only [push_cast, seval]
  with_reducible refine bcase_d (fun hb => ?_) (fun hb => ?_)
  · have hi' : a.1 < vs.length := by omega
    with_reducible refine hR.use big pb hi' (fun id off eA hlt hr => ?_)
    subst eA
    simp only [encU] at hr
    have hc := hf.1
    have hf' := hf.put hi' rfl
    simp only [encU] at hf'
    simp (maxSteps := 1000000) -implicitDefEqProofs only [push_cast, seval, hr, hlt]
    repeat' (first | with_reducible (first | exact Keep.refl _ _ | assumption | exact byte_lt _ _ | apply Keep.alloc | (refine Keep.set ?_ ?_; rotate_left; · omega) | apply Pre.alloc | apply Pre.set | exact Pre.refl _ | exact le_alloc _ | (refine Pre.keep ?_; assumption) | (refine Pre.n ?_; assumption)) | ((with_reducible (first | refine CD.to (toRule_c _ _) ?_ | refine CQ.pure (fun _ => toRule_c _ _) ?_ | refine bcase_d (fun hb => ?_) (fun hb => ?_) | refine bcase_mk (fun hb => ?_) (fun hb => ?_))) <;> try simp (maxSteps := 1000000) -implicitDefEqProofs only [push_cast, seval, hr, hlt]) | with_reducible refine And.intro ?_ ?_ | omega | (simp only [alloc_n, set_n, kill_n]; omega) | (exfalso; omega))
    rw [wrapSucc (by omega)]
    refine ⟨(a.1 + 1, putL a.2 (a.1 * 3) [.int .i64 vs[a.1].when_, .int .i64 vs[a.1].cond, .int .i64 vs[a.1].act]), by kernel_rfl, ⟨?_, ?_, hf'⟩, ?_⟩
    · simp only [putL, alloc_set]
    · show a.1 + 1 ≤ vs.length
      omega
    · show vs.length - (a.1 + 1) < vs.length - a.1
      omega
  · have hn : a.1 = vs.length := by omega
    rw [hn] at hf
    simp (maxSteps := 1000000) -implicitDefEqProofs only [push_cast, seval]
    repeat' (first | with_reducible (first | exact Keep.refl _ _ | assumption | exact byte_lt _ _ | apply Keep.alloc | (refine Keep.set ?_ ?_; rotate_left; · omega) | apply Pre.alloc | apply Pre.set | exact Pre.refl _ | exact le_alloc _ | (refine Pre.keep ?_; assumption) | (refine Pre.n ?_; assumption)) | ((with_reducible (first | refine bcase_d (fun hb => ?_) (fun hb => ?_) | refine bcase_mk (fun hb => ?_) (fun hb => ?_))) <;> try simp (maxSteps := 1000000) -implicitDefEqProofs only [push_cast, seval]) | with_reducible refine And.intro ?_ ?_ | omega | (simp only [alloc_n, set_n, kill_n]; omega) | (exfalso; omega))
    exact ⟨_, rfl, hf⟩
theorem toNode_c (op : Int) (s : ByteArray) (kv : Value) (kids : List Int) (h : AH) (r : RdV h kv 1 encZ kids) (hn : kids.length < 274877906944) :
    CC Tryz.prog 59 [.agg #[.int .i64 op, .string s, kv]] h (fun v h' => ∃ kw, v = .agg #[.int .i64 op, .string s, kw] ∧ RdV h' kw 1 encZ kids ∧ Pre h h' ∧ (∀ b, atBlock kw b → h.n ≤ b) ∧ So h.n h' kw kids.length 1) := by
  refine CC.withBig (fun big => ?_)
  obtain ⟨A, cA, rfl, hA⟩ := r.rde (fun _ => rfl)
  have p0 : Pre h (((h.alloc (.cells [.int .i64 op, .string s, .slice A kids.length cA] .solo h.n)).alloc (.cells [.int .i64 0, .string ⟨#[]⟩, .slice none 0 0] .solo (h.n + 1))).alloc (.cells [.int .i64 0, .string ⟨#[]⟩, .slice none 0 0] .solo (h.n + 2))) := (((Pre.refl h).alloc _).alloc _).alloc _
  refine CC.ofN Tryz.func59 Tryz.ntmps59 Tryz.results59 rfl (by decide) (by kernel_rfl) ?_
  simp (maxSteps := 1000000) -implicitDefEqProofs only [push_cast, seval]
  have p1 : Pre h ((((h.alloc (.cells [.int .i64 op, .string s, .slice A kids.length cA] .solo h.n)).alloc (.cells [.int .i64 0, .string ⟨#[]⟩, .slice none 0 0] .solo (h.n + 1))).alloc (.cells [.int .i64 0, .string ⟨#[]⟩, .slice none 0 0] .solo (h.n + 2))).set (h.n + 2) (.cells [.int .i64 op, .string s, .slice none 0 0] .solo (h.n + 2))) := p0.set (by omega) _
  have a1 : ((((h.alloc (.cells [.int .i64 op, .string s, .slice A kids.length cA] .solo h.n)).alloc (.cells [.int .i64 0, .string ⟨#[]⟩, .slice none 0 0] .solo (h.n + 1))).alloc (.cells [.int .i64 0, .string ⟨#[]⟩, .slice none 0 0] .solo (h.n + 2))).set (h.n + 2) (.cells [.int .i64 op, .string s, .slice none 0 0] .solo (h.n + 2))).ob h.n = .cells [.int .i64 op, .string s, .slice A kids.length cA] .solo h.n := (by (try simp (maxSteps := 1000000) -implicitDefEqProofs only [push_cast, seval, rdOb]); try rfl)
  have b1 : ((((h.alloc (.cells [.int .i64 op, .string s, .slice A kids.length cA] .solo h.n)).alloc (.cells [.int .i64 0, .string ⟨#[]⟩, .slice none 0 0] .solo (h.n + 1))).alloc (.cells [.int .i64 0, .string ⟨#[]⟩, .slice none 0 0] .solo (h.n + 2))).set (h.n + 2) (.cells [.int .i64 op, .string s, .slice none 0 0] .solo (h.n + 2))).ob (h.n + 1) = .cells [.int .i64 0, .string ⟨#[]⟩, .slice none 0 0] .solo (h.n + 1) := (by (try simp (maxSteps := 1000000) -implicitDefEqProofs only [push_cast, seval, rdOb]); try rfl)
  have c1 : ((((h.alloc (.cells [.int .i64 op, .string s, .slice A kids.length cA] .solo h.n)).alloc (.cells [.int .i64 0, .string ⟨#[]⟩, .slice none 0 0] .solo (h.n + 1))).alloc (.cells [.int .i64 0, .string ⟨#[]⟩, .slice none 0 0] .solo (h.n + 2))).set (h.n + 2) (.cells [.int .i64 op, .string s, .slice none 0 0] .solo (h.n + 2))).ob (h.n + 2) = .cells [.int .i64 op, .string s, .slice none 0 0] .solo (h.n + 2) := (by (try simp (maxSteps := 1000000) -implicitDefEqProofs only [push_cast, seval, rdOb]); try rfl)
  have n1 : ((((h.alloc (.cells [.int .i64 op, .string s, .slice A kids.length cA] .solo h.n)).alloc (.cells [.int .i64 0, .string ⟨#[]⟩, .slice none 0 0] .solo (h.n + 1))).alloc (.cells [.int .i64 0, .string ⟨#[]⟩, .slice none 0 0] .solo (h.n + 2))).set (h.n + 2) (.cells [.int .i64 op, .string s, .slice none 0 0] .solo (h.n + 2))).n = h.n + 3 := rfl
  try rw [set_set]
  generalize ((((h.alloc (.cells [.int .i64 op, .string s, .slice A kids.length cA] .solo h.n)).alloc (.cells [.int .i64 0, .string ⟨#[]⟩, .slice none 0 0] .solo (h.n + 1))).alloc (.cells [.int .i64 0, .string ⟨#[]⟩, .slice none 0 0] .solo (h.n + 2))).set (h.n + 2) (.cells [.int .i64 op, .string s, .slice none 0 0] .solo (h.n + 2))) = H1 at *
  clear p0
  with_reducible refine CC.mono (toIntS_c kids A cA _ (hA.pre big p1) hn) (fun v h1 hv => ?_)
  with_reducible refine Exists.elim hv (fun cs hw => ?_)
  have e1 := hw.1
  have e2 := hw.2.1
  have f1 := hw.2.2
  clear hv hw
  subst e1 e2
  have p2 : Pre H1 (H1.alloc (.cells cs .solo H1.n)) := (Pre.refl _).alloc _
  have d2 : (H1.alloc (.cells cs .solo H1.n)).ob H1.n = _ := alloc_same _
  have n2 : (H1.alloc (.cells cs .solo H1.n)).n = H1.n + 1 := rfl
  generalize (H1.alloc (.cells cs .solo H1.n)) = H2 at *
  have b2 := (p2.ob (h.n + 1) (by omega)).trans b1
  have c2 := (p2.ob (h.n + 2) (by omega)).trans c1
  have l1 : h.n + 1 < H2.n := by omega
  have l2 : h.n + 2 < H2.n := by omega
  simp (maxSteps := 1000000) -implicitDefEqProofs only [push_cast, seval, b2, rd_of b2, rd1_of b2, c2, rd_of c2, rd1_of c2, l1, l2]
  refine ⟨_, rfl, f1.rdv (fun _ => rfl) (st := .solo) (ln := H1.n) (by rw [set_ne _ (by omega), set_ne _ (by omega)]; exact d2) (by show H1.n < H2.n; omega), ((p1.trans p2).set (by omega) _).set (by omega) _, fun b e => by have e' : H1.n = b := e; omega, ⟨H1.n, cs, rfl, by rw [set_ne _ (by omega), set_ne _ (by omega)]; exact d2, f1.1, by omega, by show H1.n < H2.n; omega⟩⟩
end Go.Proofs.YtdlpdfclljnmhaaGreat
namespace Go.Proofs.YtdlpdfclljnmhaaGreat
open Go Go.Sim Go.Proofs
set_option linter.unusedSimpArgs false
set_option linter.unusedVariables false
set_option maxRecDepth 100000
set_option maxHeartbeats 1000000
theorem Filled.swap {k : Nat} {D : List (Nd × Value)} {cs : List Value} {i : Nat} (w : Filled k encD D cs i) (y : Nd × Value) : Filled k encD (D.set i y) cs i := by
  refine ⟨by rw [List.length_set]; exact w.1, fun j hj hji => ?_⟩
  rw [List.length_set] at hj
  rw [w.2 j hj hji, List.getElem_set_ne (by omega)]
structure SoN (n0 : Nat) (h : AH) (w : Value) (D : List (Nd × Value)) (id : Nat) (cs : List Value) : Prop where
  e : w = .slice (some ⟨id, 0, none⟩) D.length 3
  ob : h.ob id = .cells cs .solo id
  fill : Filled 3 encD D cs D.length
  lo : n0 ≤ id
  hi : id < h.n
  kids : ∀ x ∈ D, So (id + 1) h x.2 x.1.kids.length 1
theorem SoN.keep {n0 : Nat} {h h' : AH} {w : Value} {D : List (Nd × Value)} {id : Nat} {cs : List Value} (s : SoN n0 h w D id cs) (hn : h.n ≤ h'.n) (e : ∀ i, (atBlock w i ∨ ∃ x ∈ D, atBlock x.2 i) → h'.ob i = h.ob i) : SoN n0 h' w D id cs :=
  ⟨s.e, (e id (.inl (by rw [s.e]; exact rfl))).trans s.ob, s.fill, s.lo, Nat.lt_of_lt_of_le s.hi hn, fun x hx => (s.kids x hx).keep hn (fun i hi => e i (.inr ⟨x, hx, hi⟩))⟩
theorem SoN.range {n0 : Nat} {h : AH} {w : Value} {D : List (Nd × Value)} {id : Nat} {cs : List Value} (s : SoN n0 h w D id cs) {i : Nat} (e : atBlock w i ∨ ∃ x ∈ D, atBlock x.2 i) : n0 ≤ i ∧ i < h.n := by
  have a := s.lo
  have b := s.hi
  rcases e with e | ⟨x, hx, e⟩
  · rw [s.e] at e
    have e' : id = i := e
    omega
  · have := (s.kids x hx).range e
    omega
theorem SoN.mono {n0 n1 : Nat} {h : AH} {w : Value} {D : List (Nd × Value)} {id : Nat} {cs : List Value} (s : SoN n0 h w D id cs) (e : n1 ≤ n0) : SoN n1 h w D id cs := ⟨s.e, s.ob, s.fill, Nat.le_trans e s.lo, s.hi, s.kids⟩
theorem toNodeS_c (L : List (Nd × Value)) (A : Option Addr) (ca : Nat) (h : AH) (hR : RdE h A 3 encD L) (kids : ∀ x ∈ L, RdV h x.2 1 encZ x.1.kids) (hk : ∀ x ∈ L, x.1.kids.length < 274877906944) (hn : L.length < 274877906944) :
    CC Tryz.prog 31 [.slice A L.length ca] h (fun v h' => ∃ w D, v = w ∧ D.map Prod.fst = L.map Prod.fst ∧ RdV h' w 3 encD D ∧ (∀ x ∈ D, RdV h' x.2 1 encZ x.1.kids) ∧ Pre h h' ∧ (∀ b, (atBlock w b ∨ ∃ x ∈ D, atBlock x.2 b) → h.n ≤ b) ∧ ∃ id cs, SoN h.n h' w D id cs) := by
  refine CC.withBig (fun big => ?_)
  refine CC.ofN Tryz.func31 Tryz.ntmps31 Tryz.results31 rfl (by decide) (by kernel_rfl) ?_
  simp (maxSteps := 1000000) -implicitDefEqProofs only [push_cast, seval]
  repeat (with_reducible refine And.intro ?_ ?_; · (first | omega | decide))
  refine WC.loopA (by kernel_rfl) [4] [8, 9, 10, 11, 12, 13, 14, 15, 16, 17, 18, 19, 20, 21] (fun a : Nat × List (Nd × Value) × List Value => [.int .i64 (a.1 : Nat)]) (fun a h' => (a.1 ≤ L.length ∧ a.2.1.map Prod.fst = L.map Prod.fst ∧ Filled 3 encD a.2.1 a.2.2 a.1 ∧ (∀ j (hj : j < a.2.1.length), j < a.1 → RdV h' a.2.1[j].2 1 encZ a.2.1[j].1.kids ∧ (∀ b, atBlock a.2.1[j].2 b → h.n + 1 ≤ b) ∧ So (h.n + 1) h' a.2.1[j].2 a.2.1[j].1.kids.length 1)) ∧ h'.ob h.n = .cells a.2.2 .solo h.n ∧ h.n + 1 ≤ h'.n ∧ Pre h h') (fun a => L.length - a.1) (0, L, zerosL (L.length * 3) [.int .i64 0, .string ⟨#[]⟩, .slice none 0 0]) (by kernel_rfl) ⟨⟨Nat.zero_le _, rfl, Filled.zero _, fun j hj h0 => by omega⟩, alloc_same _, Nat.le_refl _, (Pre.refl h).alloc _⟩ ?_
  intro a g h1 hJ
  have hi := hJ.1.1
  have hmap := hJ.1.2.1
  have hf := hJ.1.2.2.1
  have hkd := hJ.1.2.2.2
  have ho := hJ.2.1
  have hn1 := hJ.2.2.1
  have hp := hJ.2.2.2
  clear hJ
  have hlen : a.2.1.length = L.length := by have := congrArg List.length hmap; simpa using this
  have lo : h.n < h1.n := by omega
  simp (maxSteps := 1000000) -implicitDefEqProofs only [push_cast, seval]
  with_reducible refine bcase_d (fun hb => ?_) (fun hb => ?_)
  · have hi' : a.1 < L.length := by omega
    have kr := kids L[a.1] (List.getElem_mem hi')
    have kl := hk L[a.1] (List.getElem_mem hi')
    have hX : (a.2.1.map Prod.fst)[a.1]'(by rw [List.length_map]; omega) = L[a.1].1 := by simp [hmap]
    with_reducible refine hR.use big hp hi' (fun id off eA hlt hr => ?_)
    subst eA
    simp only [encD] at hr
    have r0 := (rd_3 hr).1
    have r1 := (rd_3 hr).2.1
    have r2 := (rd_3 hr).2.2
    have hXm : ∀ kw, (a.2.1.set a.1 (L[a.1].1, kw)).map Prod.fst = L.map Prod.fst := fun kw => by
      rw [← hmap]
      apply List.ext_getElem
      · simp
      · intro j h1 h2
        simp only [List.length_map, List.length_set] at h1 h2
        rw [List.getElem_map, List.getElem_map]
        by_cases e : j = a.1
        · subst e
          rw [List.getElem_set_self, ← hX, List.getElem_map]
        · rw [List.getElem_set_ne (by omega)]
    generalize L[a.1] = X at *
    have y3 := kr.one
    have y4 := rdv_cells kr
    simp (maxSteps := 1000000) -implicitDefEqProofs only [push_cast, seval, hr, r0, r1, r2, hlt, y3, y4]
    repeat (with_reducible refine And.intro ?_ ?_; · (first | omega | decide))
    with_reducible refine CC.mono (toNode_c X.1.op X.1.text X.2 X.1.kids _ (kr.pre hp) kl) (fun v h2 hv => ?_)
    with_reducible refine Exists.elim hv (fun kw hw => ?_)
    have e1 := hw.1
    have rk := hw.2.1
    have p2 := hw.2.2.1
    have fr := hw.2.2.2.1
    have so := hw.2.2.2.2
    clear hv hw
    subst e1
    have o2 := (p2.ob h.n lo).trans ho
    have l2 : h.n < h2.n := Nat.lt_of_lt_of_le lo p2.n
    have y5 := rk.one
    have y6 := rdv_cells rk
    have hc := hf.1
    have hbd : a.1 * 3 + 3 ≤ a.2.2.length := by rw [hc, hlen]; omega
    simp (maxSteps := 1000000) -implicitDefEqProofs only [push_cast, seval, o2, rd_of o2, rd1_of o2, l2, y5, y6]
    refine And.intro (by omega) (And.intro (by omega) (And.intro hbd ?_))
    rw [wrapSucc (by omega)]
    have hf' := (hf.swap (X.1, kw)).put (by rw [List.length_set]; omega) rfl
    rw [List.getElem_set_self] at hf'
    refine ⟨(a.1 + 1, a.2.1.set a.1 (X.1, kw), putL a.2.2 (a.1 * 3) [.int .i64 X.1.op, .string X.1.text, kw]), by kernel_rfl, ⟨⟨by show a.1 + 1 ≤ L.length; omega, hXm kw, hf', fun j hj hj2 => ?_⟩, by (try rw [set_same]); simp only [putL], by show h.n + 1 ≤ h2.n; omega, (hp.trans p2).set (Nat.le_refl _) _⟩, by show L.length - (a.1 + 1) < L.length - a.1; omega⟩
    have hj' : j < a.2.1.length := by rw [List.length_set] at hj; exact hj
    have hj3 : j < a.1 + 1 := hj2
    by_cases e : j = a.1
    · subst e
      dsimp only
      rw [List.getElem_set_self]
      exact ⟨rk.keep (Nat.le_refl _) (fun b hb => set_ne _ (by have := fr b hb; omega)), fun b hb => by have := fr b hb; omega, (so.mono (by omega)).keep (Nat.le_refl _) (fun b hb => set_ne _ (by have := fr b hb; omega))⟩
    · dsimp only
      rw [List.getElem_set_ne (by omega)]
      have q := hkd j hj' (by omega)
      exact ⟨(q.1.pre p2).keep (Nat.le_refl _) (fun b hb => set_ne _ (by have := q.2.1 b hb; omega)), q.2.1, (q.2.2.pre p2).keep (Nat.le_refl _) (fun b hb => set_ne _ (by have := q.2.1 b hb; omega))⟩
  · have hn : a.1 = L.length := by omega
    rw [hn, ← hlen] at hf
    simp (maxSteps := 1000000) -implicitDefEqProofs only [push_cast, seval]
    refine ⟨_, a.2.1, rfl, hmap, ?_, fun x hx => ?_, hp, fun b hb => ?_, h.n, a.2.2, by rw [hlen], ho, hf, Nat.le_refl _, lo, fun x hx => ?_⟩
    · rw [← hlen]
      exact hf.rdv encD_len ho lo
    · obtain ⟨j, hj, rfl⟩ := List.getElem_of_mem hx
      exact (hkd j hj (by omega)).1
    · rcases hb with e | ⟨x, hx, e⟩
      · have e' : h.n = b := e
        omega
      · obtain ⟨j, hj, rfl⟩ := List.getElem_of_mem hx
        have := (hkd j hj (by omega)).2.1 b e
        omega
    · obtain ⟨j, hj, rfl⟩ := List.getElem_of_mem hx
      exact (hkd j hj (by omega)).2.2
end Go.Proofs.YtdlpdfclljnmhaaGreat
namespace Go.Proofs.YtdlpdfclljnmhaaGreat
open Go Go.Sim Go.Proofs
set_option linter.unusedSimpArgs false
set_option linter.unusedVariables false
set_option maxRecDepth 100000
set_option maxHeartbeats 1000000
theorem eqIntS_c (l m : List Int) (A B : Option Addr) (ca cb : Nat) (h : AH) (hA : RdE h A 1 encZ l) (hB : RdE h B 1 encZ m) (hl : l.length < 274877906944) (hm : m.length < 274877906944) :
    CD Tryz.prog 96 [.slice A l.length ca, .slice B m.length cb] h (.bool (decide (l = m))) h := by
  refine CD.withBig (fun big => ?_)
  refine CD.quiet ?_ (low_bool _ _)
  refine CC.ofN Tryz.func96 Tryz.ntmps96 Tryz.results96 rfl (by decide) (by kernel_rfl) ?_
  simp (maxSteps := 1000000) -implicitDefEqProofs only [push_cast, seval]
  with_reducible refine bcase_d (fun hb => ?_) (fun hb => ?_)
  rotate_left
  · simp (maxSteps := 1000000) -implicitDefEqProofs only [push_cast, seval]
    repeat' (first | with_reducible (first | exact Keep.refl _ _ | assumption | exact byte_lt _ _ | apply Keep.alloc | (refine Keep.set ?_ ?_; rotate_left; · omega) | apply Pre.alloc | apply Pre.set | exact Pre.refl _ | exact le_alloc _ | (refine Pre.keep ?_; assumption) | (refine Pre.n ?_; assumption)) | ((with_reducible (first | refine bcase_d (fun hb => ?_) (fun hb => ?_) | refine bcase_mk (fun hb => ?_) (fun hb => ?_))) <;> try simp (maxSteps := 1000000) -implicitDefEqProofs only [push_cast, seval]) | with_reducible refine And.intro ?_ ?_ | omega | (simp only [alloc_n, set_n, kill_n]; omega) | (exfalso; omega))
    have : l ≠ m := fun e => hb (by rw [e])
    simp [this]
  have hlm : l.length = m.length := by omega
  simp (maxSteps := 1000000) -implicitDefEqProofs only [push_cast, seval]
  refine WC.loopA (by kernel_rfl) [5] [4, 11, 12, 13, 14, 15, 16, 17, 18, 19, 20, 21, 22, 23, 24, 25] (fun a : Nat => [.int .i64 (a : Nat)]) (fun a h' => a ≤ l.length ∧ l.take a = m.take a ∧ Pre h h') (fun a => l.length - a) 0 (by kernel_rfl) ⟨Nat.zero_le _, by simp, Pre.refl _⟩ ?_
  intro a g h1 hJ
  have hi := hJ.1
  have he := hJ.2.1
  have hp := hJ.2.2
  clear hJ
  simp (maxSteps := 1000000) -implicitDefEqProofs only [push_cast, seval]
  with_reducible refine bcase_d (fun hb => ?_) (fun hb => ?_)
  · have hi' : a < l.length := by omega
    have hj' : a < m.length := by omega
    with_reducible refine hA.use big hp hi' (fun id off eA hlt hr => ?_)
    with_reducible refine hB.use big hp hj' (fun id2 off2 eB hlt2 hr2 => ?_)
    subst eA
    subst eB
    simp only [encZ, Nat.mul_one] at hr hr2
    have r0 := rd_1 hr
    have r02 := rd_1 hr2
    simp (maxSteps := 1000000) -implicitDefEqProofs only [push_cast, seval, hr, r0, hlt, hr2, r02, hlt2, Nat.mul_one]
    refine WC.draw' (by kernel_rfl) (by kernel_rfl) (.q 0 (.q 1 (.q 2 (.q 3 (.q 4 (.q 5 (.q 6 (.q 7 (.q 8 (.done)))))))))) (by kernel_rfl) ?_
    simp (maxSteps := 1000000) -implicitDefEqProofs only [push_cast, seval, hr, r0, hlt, hr2, r02, hlt2, Nat.mul_one]
    repeat (with_reducible refine And.intro ?_ ?_; · (first | omega | decide))
    with_reducible refine bcase_d (fun hb2 => ?_) (fun hb2 => ?_)
    · simp (maxSteps := 1000000) -implicitDefEqProofs only [push_cast, seval]
      rw [wrapSucc (by omega)]
      exact ⟨a + 1, by kernel_rfl, ⟨by show a + 1 ≤ l.length; omega, take_next he hi' hj' hb2, hp⟩, by show l.length - (a + 1) < l.length - a; omega⟩
    · simp (maxSteps := 1000000) -implicitDefEqProofs only [push_cast, seval]
      have : l ≠ m := fun e => by subst e; exact hb2 rfl
      exact ⟨by simp [this], hp.keep⟩
  · have hn : a = l.length := by omega
    subst hn
    simp (maxSteps := 1000000) -implicitDefEqProofs only [push_cast, seval]
    repeat' (first | with_reducible (first | exact Keep.refl _ _ | assumption | exact byte_lt _ _ | apply Keep.alloc | (refine Keep.set ?_ ?_; rotate_left; · omega) | apply Pre.alloc | apply Pre.set | exact Pre.refl _ | exact le_alloc _ | (refine Pre.keep ?_; assumption) | (refine Pre.n ?_; assumption)) | ((with_reducible (first | refine bcase_d (fun hb => ?_) (fun hb => ?_) | refine bcase_mk (fun hb => ?_) (fun hb => ?_))) <;> try simp (maxSteps := 1000000) -implicitDefEqProofs only [push_cast, seval]) | with_reducible refine And.intro ?_ ?_ | omega | (simp only [alloc_n, set_n, kill_n]; omega) | (exfalso; omega))
    have := take_full he hlm
    simp [this]

theorem eqRule_c (a b : Ru) (h : AH) : CD Tryz.prog 69 [.agg #[.int .i64 a.when_, .int .i64 a.cond, .int .i64 a.act], .agg #[.int .i64 b.when_, .int .i64 b.cond, .int .i64 b.act]] h (.bool (decide (a = b))) h := by
  refine CD.quiet ?_ (low_bool _ _)
  refine CC.ofN Tryz.func69 Tryz.ntmps69 Tryz.results69 rfl (by decide) (by kernel_rfl) ?_
  simp (maxSteps := 1000000) -implicitDefEqProofs only [push_cast, seval]
  repeat' (first | with_reducible (first | exact Keep.refl _ _ | assumption | exact byte_lt _ _ | apply Keep.alloc | (refine Keep.set ?_ ?_; rotate_left; · omega) | apply Pre.alloc | apply Pre.set | exact Pre.refl _ | exact le_alloc _ | (refine Pre.keep ?_; assumption) | (refine Pre.n ?_; assumption)) | ((with_reducible (first | refine bcase_d (fun hb => ?_) (fun hb => ?_) | refine bcase_mk (fun hb => ?_) (fun hb => ?_))) <;> try simp (maxSteps := 1000000) -implicitDefEqProofs only [push_cast, seval]) | with_reducible refine And.intro ?_ ?_ | omega | (simp only [alloc_n, set_n, kill_n]; omega) | (exfalso; omega))
  all_goals (obtain ⟨a1, a2, a3⟩ := a; obtain ⟨b1, b2, b3⟩ := b; simp_all [Ru.mk.injEq])
theorem eqRuleS_c (l m : List Ru) (A B : Option Addr) (ca cb : Nat) (h : AH) (hA : RdE h A 3 encU l) (hB : RdE h B 3 encU m) (hl : l.length < 274877906944) (hm : m.length < 274877906944) :
    CD Tryz.prog 38 [.slice A l.length ca, .slice B m.length cb] h (.bool (decide (l = m))) h := by
  refine CD.withBig (fun big => ?_)
  refine CD.quiet ?_ (low_bool _ _)
  refine CC.ofN Tryz.func38 Tryz.ntmps38 Tryz.results38 rfl (by decide) (by kernel_rfl) ?_
  simp (maxSteps := 1000000) -implicitDefEqProofs only [push_cast, seval]
  with_reducible refine bcase_d (fun hb => ?_) (fun hb => ?_)
  rotate_left
  · simp (maxSteps := 1000000) -implicitDefEqProofs only [push_cast, seval]
    repeat' (first | with_reducible (first | exact Keep.refl _ _ | assumption | exact byte_lt _ _ | apply Keep.alloc | (refine Keep.set ?_ ?_; rotate_left; · omega) | apply Pre.alloc | apply Pre.set | exact Pre.refl _ | exact le_alloc _ | (refine Pre.keep ?_; assumption) | (refine Pre.n ?_; assumption)) | ((with_reducible (first | refine bcase_d (fun hb => ?_) (fun hb => ?_) | refine bcase_mk (fun hb => ?_) (fun hb => ?_))) <;> try simp (maxSteps := 1000000) -implicitDefEqProofs only [push_cast, seval]) | with_reducible refine And.intro ?_ ?_ | omega | (simp only [alloc_n, set_n, kill_n]; omega) | (exfalso; omega))
    have : l ≠ m := fun e => hb (by rw [e])
    simp [this]
  have hlm : l.length = m.length := by omega
  simp (maxSteps := 1000000) -implicitDefEqProofs only [push_cast, seval]
  refine WC.loopA (by kernel_rfl) [5] [4, 11, 12, 13, 14, 15, 16, 17, 18, 19, 20, 21, 22, 23, 24, 25, 26] (fun a : Nat => [.int .i64 (a : Nat)]) (fun a h' => a ≤ l.length ∧ l.take a = m.take a ∧ Pre h h') (fun a => l.length - a) 0 (by kernel_rfl) ⟨Nat.zero_le _, by simp, Pre.refl _⟩ ?_
  intro a g h1 hJ
  have hi := hJ.1
  have he := hJ.2.1
  have hp := hJ.2.2
  clear hJ
  simp (maxSteps := 1000000) -implicitDefEqProofs only [push_cast, seval]
  with_reducible refine bcase_d (fun hb => ?_) (fun hb => ?_)
  · have hi' : a < l.length := by omega
    have hj' : a < m.length := by omega
    with_reducible refine hA.use big hp hi' (fun id off eA hlt hr => ?_)
    with_reducible refine hB.use big hp hj' (fun id2 off2 eB hlt2 hr2 => ?_)
    subst eA
    subst eB
    simp only [encU] at hr hr2
    simp (maxSteps := 1000000) -implicitDefEqProofs only [push_cast, seval, hr, hlt, hr2, hlt2]
    refine WC.draw' (by kernel_rfl) (by kernel_rfl) (.q 0 (.q 1 (.q 2 (.q 3 (.q 4 (.q 5 (.q 6 (.q 7 (.c 8 (.q 9 (.done))))))))))) (by kernel_rfl) ?_
    simp (maxSteps := 1000000) -implicitDefEqProofs only [push_cast, seval, hr, hlt, hr2, hlt2]
    repeat' (first | with_reducible (first | exact Keep.refl _ _ | assumption | exact byte_lt _ _ | apply Keep.alloc | (refine Keep.set ?_ ?_; rotate_left; · omega) | apply Pre.alloc | apply Pre.set | exact Pre.refl _ | exact le_alloc _ | (refine Pre.keep ?_; assumption) | (refine Pre.n ?_; assumption)) | ((with_reducible (first | refine CD.to (eqRule_c _ _ _) ?_ | refine CQ.pure (fun _ => eqRule_c _ _ _) ?_ | refine bcase_d (fun hb => ?_) (fun hb => ?_) | refine bcase_mk (fun hb => ?_) (fun hb => ?_))) <;> try simp (maxSteps := 1000000) -implicitDefEqProofs only [push_cast, seval, hr, hlt, hr2, hlt2]) | with_reducible refine And.intro ?_ ?_ | omega | (simp only [alloc_n, set_n, kill_n]; omega) | (exfalso; omega))
    · rw [wrapSucc (by omega)]
      refine ⟨a + 1, by kernel_rfl, ⟨by show a + 1 ≤ l.length; omega, take_next he hi' hj' ?_, hp⟩, by show l.length - (a + 1) < l.length - a; omega⟩
      simpa using hb
    · have : l ≠ m := fun e => by subst e; simp at hb
      simp [this]
  · have hn : a = l.length := by omega
    subst hn
    simp (maxSteps := 1000000) -implicitDefEqProofs only [push_cast, seval]
    repeat' (first | with_reducible (first | exact Keep.refl _ _ | assumption | exact byte_lt _ _ | apply Keep.alloc | (refine Keep.set ?_ ?_; rotate_left; · omega) | apply Pre.alloc | apply Pre.set | exact Pre.refl _ | exact le_alloc _ | (refine Pre.keep ?_; assumption) | (refine Pre.n ?_; assumption)) | ((with_reducible (first | refine bcase_d (fun hb => ?_) (fun hb => ?_) | refine bcase_mk (fun hb => ?_) (fun hb => ?_))) <;> try simp (maxSteps := 1000000) -implicitDefEqProofs only [push_cast, seval]) | with_reducible refine And.intro ?_ ?_ | omega | (simp only [alloc_n, set_n, kill_n]; omega) | (exfalso; omega))
    have := take_full he hlm
    simp [this]
theorem eqNode_c (op : Int) (s : ByteArray) (kids : List Int) (kv kw : Value) (h : AH) (r : RdV h kv 1 encZ kids) (q : RdV h kw 1 encZ kids) (hn : kids.length < 274877906944) :
    CD Tryz.prog 68 [.agg #[.int .i64 op, .string s, kv], .agg #[.int .i64 op, .string s, kw]] h (.bool true) h := by
  refine CD.withBig (fun big => ?_)
  refine CD.quiet ?_ (low_bool _ _)
  obtain ⟨A, cA, rfl, hA⟩ := r.rde (fun _ => rfl)
  obtain ⟨B, cB, rfl, hB⟩ := q.rde (fun _ => rfl)
  have pb : Pre h ((h.alloc (.cells [.int .i64 op, .string s, .slice A kids.length cA] .solo h.n)).alloc (.cells [.int .i64 op, .string s, .slice B kids.length cB] .solo (h.n + 1))) := ((Pre.refl _).alloc _).alloc _
  have k1 := eqIntS_c kids kids A B cA cB _ (hA.pre big pb) (hB.pre big pb) hn hn
  rw [decide_eq_true rfl] at k1
  refine CC.ofN Tryz.func68 Tryz.ntmps68 Tryz.results68 rfl (by decide) (by kernel_rfl) ?_
  simp (maxSteps := 1000000) -implicitDefEqProofs only [push_cast, seval]
  repeat' (first | with_reducible (first | exact Keep.refl _ _ | assumption | exact byte_lt _ _ | apply Keep.alloc | (refine Keep.set ?_ ?_; rotate_left; · omega) | apply Pre.alloc | apply Pre.set | exact Pre.refl _ | exact le_alloc _ | (refine Pre.keep ?_; assumption) | (refine Pre.n ?_; assumption)) | ((with_reducible (first | refine CD.to (k1) ?_ | refine CQ.pure (fun _ => k1) ?_ | refine bcase_d (fun hb => ?_) (fun hb => ?_) | refine bcase_mk (fun hb => ?_) (fun hb => ?_))) <;> try simp (maxSteps := 1000000) -implicitDefEqProofs only [push_cast, seval]) | with_reducible refine And.intro ?_ ?_ | omega | (simp only [alloc_n, set_n, kill_n]; omega) | (exfalso; omega))
theorem eqNodeS_c (L M : List (Nd × Value)) (A B : Option Addr) (ca cb : Nat) (h : AH) (hA : RdE h A 3 encD L) (hB : RdE h B 3 encD M) (kL : ∀ x ∈ L, RdV h x.2 1 encZ x.1.kids) (kM : ∀ x ∈ M, RdV h x.2 1 encZ x.1.kids) (e : L.map Prod.fst = M.map Prod.fst) (hk : ∀ x ∈ L, x.1.kids.length < 274877906944) (hl : L.length < 274877906944) :
    CD Tryz.prog 37 [.slice A L.length ca, .slice B M.length cb] h (.bool true) h := by
  refine CD.withBig (fun big => ?_)
  refine CD.quiet ?_ (low_bool _ _)
  have hlen : L.length = M.length := by have := congrArg List.length e; simpa using this
  refine CC.ofN Tryz.func37 Tryz.ntmps37 Tryz.results37 rfl (by decide) (by kernel_rfl) ?_
  simp (maxSteps := 1000000) -implicitDefEqProofs only [push_cast, seval]
  with_reducible refine bcase_d (fun hb => ?_) (fun hb => ?_)
  rotate_left
  · exfalso; omega
  simp (maxSteps := 1000000) -implicitDefEqProofs only [push_cast, seval]
  refine WC.loopA (by kernel_rfl) [5] [4, 11, 12, 13, 14, 15, 16, 17, 18, 19, 20, 21, 22, 23, 24, 25, 26] (fun a : Nat => [.int .i64 (a : Nat)]) (fun a h' => a ≤ L.length ∧ Pre h h') (fun a => L.length - a) 0 (by kernel_rfl) ⟨Nat.zero_le _, Pre.refl _⟩ ?_
  intro a g h1 hJ
  have hi := hJ.1
  have hp := hJ.2
  clear hJ
  simp (maxSteps := 1000000) -implicitDefEqProofs only [push_cast, seval]
  with_reducible refine bcase_d (fun hb => ?_) (fun hb => ?_)
  · have hi' : a < L.length := by omega
    have hj' : a < M.length := by omega
    have k1 := kL _ (List.getElem_mem hi')
    have k2 := kM _ (List.getElem_mem hj')
    have kz := hk _ (List.getElem_mem hi')
    have eX : M[a].1 = L[a].1 := by
      have : (M.map Prod.fst)[a]'(by rw [List.length_map]; exact hj') = (L.map Prod.fst)[a]'(by rw [List.length_map]; exact hi') := by simp only [e]
      simpa using this
    with_reducible refine hA.use big hp hi' (fun id off eA hlt hr => ?_)
    with_reducible refine hB.use big hp hj' (fun id2 off2 eB hlt2 hr2 => ?_)
    subst eA
    subst eB
    simp only [encD] at hr hr2
    rw [eX] at hr2 k2
    generalize M[a].2 = kw at *
    generalize L[a].2 = kv at *
    generalize L[a].1 = X at *
    have y1 := k1.one
    have y2 := rdv_cells k1
    have y3 := k2.one
    have y4 := rdv_cells k2
    simp (maxSteps := 1000000) -implicitDefEqProofs only [push_cast, seval, hr, hlt, hr2, hlt2, y1, y2, y3, y4]
    refine WC.draw' (by kernel_rfl) (by kernel_rfl) (.q 0 (.q 1 (.q 2 (.q 3 (.q 4 (.q 5 (.q 6 (.q 7 (.a 8 false (.q 9 (.done))))))))))) (by kernel_rfl) ?_
    simp (maxSteps := 1000000) -implicitDefEqProofs only [push_cast, seval, hr, hlt, hr2, hlt2, y1, y2, y3, y4]
    repeat (with_reducible refine And.intro ?_ ?_; · (first | omega | decide))
    with_reducible refine CD.to (eqNode_c X.op X.text X.kids kv kw h1 (k1.pre hp) (k2.pre hp) kz) ?_
    simp (maxSteps := 1000000) -implicitDefEqProofs only [push_cast, seval, hr, hlt, hr2, hlt2, y1, y2, y3, y4]
    rw [wrapSucc (by omega)]
    exact ⟨a + 1, by kernel_rfl, ⟨by omega, hp⟩, by omega⟩
  · simp (maxSteps := 1000000) -implicitDefEqProofs only [push_cast, seval]
    exact hp.keep
/-- A program of the call's own. -/
structure SoG (n0 : Nat) (h : AH) (wN wR : Value) (D : List (Nd × Value)) (R : List Ru) : Prop where
  nodes : ∃ id cs, SoN n0 h wN D id cs
  rules : So n0 h wR R.length 3
  apart : ∀ i, atBlock wR i → ¬ atBlock wN i ∧ ∀ x ∈ D, ¬ atBlock x.2 i
theorem toProgram_c (L : List (Nd × Value)) (R : List Ru) (vN vR : Value) (h : AH) (w : RdG h vN vR L R) (hz : SzG L R) :
    CC Tryz.prog 9 [.agg #[vN, vR]] h (fun v h' => ∃ wN wR D, v = .agg #[wN, wR] ∧ D.map Prod.fst = L.map Prod.fst ∧ RdG h' wN wR D R ∧ Pre h h' ∧ SoG h.n h' wN wR D R) := by
  refine CC.withBig (fun big => ?_)
  have zn := hz.n
  have zr := hz.r
  have w0 := w
  obtain ⟨B, d, rfl, hN⟩ := w.nodes.rde encD_len
  obtain ⟨C, c, rfl, hR⟩ := w.rules.rde (fun _ => rfl)
  have p0 : Pre h (((h.alloc (.cells [.slice B L.length d, .slice C R.length c] .solo h.n)).alloc (.cells [.slice none 0 0, .slice none 0 0] .solo (h.n + 1))).alloc (.cells [.slice none 0 0, .slice none 0 0] .solo (h.n + 2))) := (((Pre.refl h).alloc _).alloc _).alloc _
  have a0 : (((h.alloc (.cells [.slice B L.length d, .slice C R.length c] .solo h.n)).alloc (.cells [.slice none 0 0, .slice none 0 0] .solo (h.n + 1))).alloc (.cells [.slice none 0 0, .slice none 0 0] .solo (h.n + 2))).ob h.n = .cells [.slice B L.length d, .slice C R.length c] .solo h.n := (by (try simp (maxSteps := 1000000) -implicitDefEqProofs only [push_cast, seval, rdOb]); try rfl)
  have b0 : (((h.alloc (.cells [.slice B L.length d, .slice C R.length c] .solo h.n)).alloc (.cells [.slice none 0 0, .slice none 0 0] .solo (h.n + 1))).alloc (.cells [.slice none 0 0, .slice none 0 0] .solo (h.n + 2))).ob (h.n + 1) = .cells [.slice none 0 0, .slice none 0 0] .solo (h.n + 1) := (by (try simp (maxSteps := 1000000) -implicitDefEqProofs only [push_cast, seval, rdOb]); try rfl)
  have c0 : (((h.alloc (.cells [.slice B L.length d, .slice C R.length c] .solo h.n)).alloc (.cells [.slice none 0 0, .slice none 0 0] .solo (h.n + 1))).alloc (.cells [.slice none 0 0, .slice none 0 0] .solo (h.n + 2))).ob (h.n + 2) = .cells [.slice none 0 0, .slice none 0 0] .solo (h.n + 2) := (by (try simp (maxSteps := 1000000) -implicitDefEqProofs only [push_cast, seval, rdOb]); try rfl)
  have n0 : (((h.alloc (.cells [.slice B L.length d, .slice C R.length c] .solo h.n)).alloc (.cells [.slice none 0 0, .slice none 0 0] .solo (h.n + 1))).alloc (.cells [.slice none 0 0, .slice none 0 0] .solo (h.n + 2))).n = h.n + 3 := rfl
  refine CC.ofN Tryz.func9 Tryz.ntmps9 Tryz.results9 rfl (by decide) (by kernel_rfl) ?_
  simp (maxSteps := 1000000) -implicitDefEqProofs only [push_cast, seval]
  generalize (((h.alloc (.cells [.slice B L.length d, .slice C R.length c] .solo h.n)).alloc (.cells [.slice none 0 0, .slice none 0 0] .solo (h.n + 1))).alloc (.cells [.slice none 0 0, .slice none 0 0] .solo (h.n + 2))) = H0 at *
  with_reducible refine CC.mono (toNodeS_c L B d _ (hN.pre big p0) (fun x hx => (w0.kids x hx).pre p0) (fun x hx => by have := hz.kids x hx; omega) (by omega)) (fun v H1 hv => ?_)
  with_reducible refine Exists.elim hv (fun wN hw => ?_)
  with_reducible refine Exists.elim hw (fun D hw => ?_)
  have e1 := hw.1
  have eD := hw.2.1
  have rN := hw.2.2.1
  have rK := hw.2.2.2.1
  have p1 := hw.2.2.2.2.1
  have fr := hw.2.2.2.2.2.1
  have sn := hw.2.2.2.2.2.2
  clear hv hw
  subst e1
  have a1 := (p1.ob h.n (by omega)).trans a0
  have b1 := (p1.ob (h.n + 1) (by omega)).trans b0
  have c1 := (p1.ob (h.n + 2) (by omega)).trans c0
  have n1 := p1.n
  have z1 := rN.one
  have z2 := rdv_cells rN
  have l1 : h.n < H1.n := by omega
  have l2 : h.n + 2 < H1.n := by omega
  simp (maxSteps := 1000000) -implicitDefEqProofs only [push_cast, seval, a1, rd_of a1, rd1_of a1, c1, rd_of c1, rd1_of c1, l1, l2, z1, z2]
  have p2 : Pre h (H1.set (h.n + 2) (.cells [v, .slice none 0 0] .solo (h.n + 2))) := (p0.trans p1).set (by omega) _
  have b2 := (set_ne (h := H1) (o := .cells [v, .slice none 0 0] .solo (h.n + 2)) (show h.n + 1 ≠ h.n + 2 by omega)).trans b1
  have c2 : (H1.set (h.n + 2) (.cells [v, .slice none 0 0] .solo (h.n + 2))).ob (h.n + 2) = _ := set_same _ _
  have rN2 : RdV (H1.set (h.n + 2) (.cells [v, .slice none 0 0] .solo (h.n + 2))) v 3 encD D := rN.keep (Nat.le_refl _) (fun i e => set_ne _ (by have := fr i (.inl e); omega))
  have rK2 : ∀ x ∈ D, RdV (H1.set (h.n + 2) (.cells [v, .slice none 0 0] .solo (h.n + 2))) x.2 1 encZ x.1.kids := fun x hx => (rK x hx).keep (Nat.le_refl _) (fun i e => set_ne _ (by have := fr i (.inr ⟨x, hx, e⟩); omega))
  have n2 : (H1.set (h.n + 2) (.cells [v, .slice none 0 0] .solo (h.n + 2))).n = H1.n := rfl
  have q2 : ∀ i, h.n + 3 ≤ i → (H1.set (h.n + 2) (.cells [v, .slice none 0 0] .solo (h.n + 2))).ob i = H1.ob i := fun i hi => set_ne _ (by omega)
  clear rN rK
  generalize (H1.set (h.n + 2) (.cells [v, .slice none 0 0] .solo (h.n + 2))) = H2 at *
  with_reducible refine CC.mono (toRuleS_c R C c _ (hR.pre big p2) (by omega)) (fun v2 h1 hv => ?_)
  with_reducible refine Exists.elim hv (fun cs hw => ?_)
  have e1 := hw.1
  have e2 := hw.2.1
  have f1 := hw.2.2
  clear hv hw
  subst e1 e2
  have p3 : Pre H2 (H2.alloc (.cells cs .solo H2.n)) := (Pre.refl _).alloc _
  have d3 : (H2.alloc (.cells cs .solo H2.n)).ob H2.n = _ := alloc_same _
  have n3 : (H2.alloc (.cells cs .solo H2.n)).n = H2.n + 1 := rfl
  generalize (H2.alloc (.cells cs .solo H2.n)) = H3 at *
  have b3 := (p3.ob (h.n + 1) (by omega)).trans b2
  have c3 := (p3.ob (h.n + 2) (by omega)).trans c2
  have l2 : h.n + 2 < H3.n := by omega
  have l3 : h.n + 1 < H3.n := by omega
  simp (maxSteps := 1000000) -implicitDefEqProofs only [push_cast, seval, b3, rd_of b3, rd1_of b3, c3, rd_of c3, rd1_of c3, l2, l3, z1, z2]
  have pre := p2.trans p3
  refine ⟨_, _, D, rfl, eD, ⟨(rN2.pre p3).keep (Nat.le_refl _) (fun i e => by have := fr i (.inl e); rw [set_ne _ (by omega), set_ne _ (by omega)]), fun x hx => ((rK2 x hx).pre p3).keep (Nat.le_refl _) (fun i e => by have := fr i (.inr ⟨x, hx, e⟩); rw [set_ne _ (by omega), set_ne _ (by omega)]), f1.rdv (fun _ => rfl) (st := .solo) (ln := H2.n) (by rw [set_ne _ (by omega), set_ne _ (by omega)]; exact d3) (by show H2.n < H3.n; omega)⟩, (pre.set (by omega) _).set (by omega) _, ?_⟩
  obtain ⟨id, cs2, sn⟩ := sn
  have rg : ∀ i, (atBlock v i ∨ ∃ x ∈ D, atBlock x.2 i) → h.n + 3 ≤ i ∧ i < H1.n := fun i e => by have := sn.range e; omega
  refine ⟨⟨id, cs2, (sn.mono (n1 := h.n) (by omega)).keep (by show H1.n ≤ H3.n; omega) (fun i e => ?_)⟩, ⟨H2.n, cs, rfl, by rw [set_ne _ (by omega), set_ne _ (by omega)]; exact d3, f1.1, by omega, by show H2.n < H3.n; omega⟩, fun i e => ?_⟩
  · have := rg i e
    rw [set_ne _ (by omega), set_ne _ (by omega), p3.ob i (by omega), q2 i (by omega)]
  · have e' : H2.n = i := e
    exact ⟨fun e2 => by have := rg i (.inl e2); omega, fun x hx e2 => by have := rg i (.inr ⟨x, hx, e2⟩); omega⟩
theorem eqProgram_c (L M : List (Nd × Value)) (R : List Ru) (vN vR wN wR : Value) (h : AH) (w : RdG h vN vR L R) (w' : RdG h wN wR M R) (e : L.map Prod.fst = M.map Prod.fst) (hz : SzG L R) :
    CD Tryz.prog 11 [.agg #[vN, vR], .agg #[wN, wR]] h (.bool true) h := by
  refine CD.withBig (fun big => ?_)
  refine CD.quiet ?_ (low_bool _ _)
  have zn := hz.n
  have zr := hz.r
  have w0 := w
  have w0' := w'
  obtain ⟨B, d, rfl, hN⟩ := w.nodes.rde encD_len
  obtain ⟨C, c, rfl, hR⟩ := w.rules.rde (fun _ => rfl)
  obtain ⟨B', d', rfl, hN'⟩ := w'.nodes.rde encD_len
  obtain ⟨C', c', rfl, hR'⟩ := w'.rules.rde (fun _ => rfl)
  have pb : Pre h ((h.alloc (.cells [.slice B L.length d, .slice C R.length c] .solo h.n)).alloc (.cells [.slice B' M.length d', .slice C' R.length c'] .solo (h.n + 1))) := ((Pre.refl _).alloc _).alloc _
  have k1 := eqNodeS_c L M B B' d d' _ (hN.pre big pb) (hN'.pre big pb) (fun x hx => (w0.kids x hx).pre pb) (fun x hx => (w0'.kids x hx).pre pb) e (fun x hx => by have := hz.kids x hx; omega) (by omega)
  have k2 := eqRuleS_c R R C C' c c' _ (hR.pre big pb) (hR'.pre big pb) (by omega) (by omega)
  rw [decide_eq_true rfl] at k2
  refine CC.ofN Tryz.func11 Tryz.ntmps11 Tryz.results11 rfl (by decide) (by kernel_rfl) ?_
  simp (maxSteps := 1000000) -implicitDefEqProofs only [push_cast, seval]
  repeat' (first | with_reducible (first | exact Keep.refl _ _ | assumption | exact byte_lt _ _ | apply Keep.alloc | (refine Keep.set ?_ ?_; rotate_left; · omega) | apply Pre.alloc | apply Pre.set | exact Pre.refl _ | exact le_alloc _ | (refine Pre.keep ?_; assumption) | (refine Pre.n ?_; assumption)) | ((with_reducible (first | refine CD.to (k1) ?_ | refine CQ.pure (fun _ => k1) ?_ | refine CD.to (k2) ?_ | refine CQ.pure (fun _ => k2) ?_ | refine bcase_d (fun hb => ?_) (fun hb => ?_) | refine bcase_mk (fun hb => ?_) (fun hb => ?_))) <;> try simp (maxSteps := 1000000) -implicitDefEqProofs only [push_cast, seval]) | with_reducible refine And.intro ?_ ?_ | omega | (simp only [alloc_n, set_n, kill_n]; omega) | (exfalso; omega))
theorem szProgram_c (L : List (Nd × Value)) (R : List Ru) (vN vR : Value) (l : Int) (h : AH) (w : RdG h vN vR L R) (hz : ∀ x ∈ L, x.1.text.size ≤ maxLen ∧ x.1.kids.length ≤ maxLen) (hn : L.length ≤ maxLen) (hr : R.length ≤ maxLen) (hl : 0 ≤ l ∧ l ≤ 1048576) :
    CD Tryz.prog 7 [.agg #[vN, vR], .int .i64 l] h (.int .i64 (if l - progW L R < 0 then -1 else l - progW L R)) h := by
  refine CD.withBig (fun big => ?_)
  refine CD.quiet ?_ (low_int _ _ _)
  have w0 := w
  obtain ⟨B, d, rfl, hN⟩ := w.nodes.rde encD_len
  obtain ⟨C, c, rfl, hR⟩ := w.rules.rde (fun _ => rfl)
  have pA : Pre h (h.alloc (.cells [.slice B L.length d, .slice C R.length c] .solo h.n)) := (Pre.refl h).alloc _
  have c0 : (h.alloc (.cells [.slice B L.length d, .slice C R.length c] .solo h.n)).ob h.n = _ := alloc_same _
  have n0 : (h.alloc (.cells [.slice B L.length d, .slice C R.length c] .solo h.n)).n = h.n + 1 := rfl
  have hw : (progW L R : Int) = (L.length + nodW L L.length : Nat) + R.length := by rw [progW]; push_cast; rfl
  refine CC.ofN Tryz.func7 Tryz.ntmps7 Tryz.results7 rfl (by decide) (by kernel_rfl) ?_
  simp (maxSteps := 1000000) -implicitDefEqProofs only [push_cast, seval]
  generalize (h.alloc (.cells [.slice B L.length d, .slice C R.length c] .solo h.n)) = h0 at *
  have l0 : h.n < h0.n := by omega
  with_reducible refine CD.to (szNodeS_c L B d l h0 (hN.pre big pA) (fun x hx => (w0.kids x hx).pre pA) hz hn hl) ?_
  with_reducible refine nameI2 (if l - (L.length + nodW L L.length : Nat) < 0 then -1 else l - (L.length + nodW L L.length : Nat)) (fun l1 h1 => ?_)
  have g1 := lt_of_if2 h1
  rw [h1]
  simp (maxSteps := 1000000) -implicitDefEqProofs only [push_cast, seval]
  with_reducible refine bcase_d (fun hb1 => ?_) (fun hb1 => ?_)
  · simp (maxSteps := 1000000) -implicitDefEqProofs only [push_cast, seval]
    refine ⟨?_, pA.keep⟩
    rw [if_pos (by omega)]
  simp (maxSteps := 1000000) -implicitDefEqProofs only [push_cast, seval, c0, rd_of c0, rd1_of c0, l0]
  with_reducible refine CD.to (szRuleS_c R.length C c l1 h0 hr (by omega)) ?_
  with_reducible refine nameI2 (if l1 - (R.length : Nat) < 0 then -1 else l1 - (R.length : Nat)) (fun l2 h2 => ?_)
  have g2 := lt_of_if2 h2
  rw [h2]
  simp (maxSteps := 1000000) -implicitDefEqProofs only [push_cast, seval]
  with_reducible refine bcase_d (fun hb2 => ?_) (fun hb2 => ?_)
  · simp (maxSteps := 1000000) -implicitDefEqProofs only [push_cast, seval]
    refine ⟨?_, pA.keep⟩
    rw [if_pos (by omega)]
  · simp (maxSteps := 1000000) -implicitDefEqProofs only [push_cast, seval]
    refine ⟨?_, pA.keep⟩
    rw [if_neg (by omega)]
    congr 1
    omega
end Go.Proofs.YtdlpdfclljnmhaaGreat
namespace Go.Proofs.YtdlpdfclljnmhaaGreat
open Go Go.Sim Go.Proofs
set_option linter.unusedSimpArgs false
set_option linter.unusedVariables false
set_option maxRecDepth 100000
set_option maxHeartbeats 1000000
theorem SzG.of {L D : List (Nd × Value)} {R : List Ru} (z : SzG L R) (e : D.map Prod.fst = L.map Prod.fst) : SzG D R := by
  have hlen : D.length = L.length := by have := congrArg List.length e; simpa using this
  have key : ∀ x ∈ D, ∃ y ∈ L, y.1 = x.1 := fun x hx => by
    have : x.1 ∈ L.map Prod.fst := by rw [← e]; exact List.mem_map.2 ⟨x, hx, rfl⟩
    exact List.mem_map.1 this
  refine ⟨by rw [hlen]; exact z.n, z.r, fun x hx => ?_, fun x hx => ?_⟩
  · obtain ⟨y, hy, e2⟩ := key x hx
    rw [← e2]; exact z.text y hy
  · obtain ⟨y, hy, e2⟩ := key x hx
    rw [← e2]; exact z.kids y hy
theorem nodW_mem {L : List (Nd × Value)} {x : Nd × Value} (h : x ∈ L) : x.1.text.size + x.1.kids.length ≤ nodW L L.length := by
  obtain ⟨i, hi, rfl⟩ := List.getElem_of_mem h
  have := nodW_succ hi
  have := nodW_mono (L := L) (i := i + 1) (j := L.length) (by omega) (Nat.le_refl _)
  omega
theorem SzG.ofW {L : List (Nd × Value)} {R : List Ru} (h : progW L R ≤ 1048576) : SzG L R := by
  unfold progW at h
  exact ⟨by omega, by omega, fun x hx => by have := nodW_mem hx; omega, fun x hx => by have := nodW_mem hx; omega⟩
end Go.Proofs.YtdlpdfclljnmhaaGreat
/- Contracts of the library that write a slice in place: what they say of the abstract heap. Conditions: those that each theorem names. -/
set_option linter.unusedVariables false
set_option linter.unusedSimpArgs false
namespace Go.Sim
open Go.RowKit Go.Sort
variable {P : Program} {FB : Nat → Prop} {w0 : World} {μ : Nat → Option Loc} {h : AH} {w w' : World}
def setA (arr : Array Value) : Nat → List Value → Array Value
  | _, [] => arr
  | o, v :: r => setA (arr.setIfInBounds o v) (o + 1) r
theorem setA_get (k : Nat) : ∀ (vs : List Value) (arr : Array Value) (o : Nat), o + vs.length ≤ arr.size → (setA arr o vs)[k]? = if o ≤ k ∧ k < o + vs.length then vs[k - o]? else arr[k]?
  | [], arr, o, _ => by
    rw [setA, if_neg (by simp)]
  | v :: r, arr, o, hb => by
    simp only [List.length_cons] at hb
    rw [setA, setA_get k r _ _ (by rw [Array.size_setIfInBounds]; omega)]
    by_cases e : k = o
    · subst e
      rw [if_neg (by omega), if_pos (by simp), Nat.sub_self, Array.getElem?_setIfInBounds_self_of_lt (by omega)]
      rfl
    · by_cases h1 : o + 1 ≤ k ∧ k < o + 1 + r.length
      · rw [if_pos h1, if_pos (by simp only [List.length_cons]; omega), show k - o = (k - (o + 1)) + 1 by omega, List.getElem?_cons_succ]
      · rw [if_neg h1, if_neg (by simp only [List.length_cons]; omega), Array.getElem?_setIfInBounds_ne (Ne.symm e)]
theorem heap_setA (b : Nat) : ∀ (vs : List Value) (o : Nat) (w : World) (arr : Array Value) (e : TypeId) (fz : Nat × Nat), w.heap[b]? = some (.cells arr e fz) → (w.setCells b o vs).heap[b]? = some (.cells (setA arr o vs) e fz)
  | [], _, _, _, _, _, hb => hb
  | v :: r, o, w, arr, e, fz, hb => by
    rw [World.setCells, setA]
    refine heap_setA b r (o + 1) _ _ e fz ?_
    simp [World.setCell, Array.getElem?_modify, hb]
theorem putRow_heap {α : Type} [Inhabited α] (enc : α → Value) (w : World) (blk off : Nat) (ys : Array α) {arr : Array Value} {e : TypeId} {fz : Nat × Nat} (hb : w.heap[blk]? = some (.cells arr e fz)) (hsz : off + ys.size ≤ arr.size) :
    (putRow enc w blk off ys).heap = (w.setCells blk off (ys.toList.map enc)).heap := by
  have hlen : (ys.toList.map enc).length = ys.size := by simp
  apply Array.ext_getElem?
  intro k
  by_cases hk : k = blk
  · subst hk
    rw [heap_setA k _ _ _ _ _ _ hb]
    have : (putRow enc w k off ys).heap[k]? = some (.cells (putCells enc off ys arr) e fz) := by
      unfold putRow mapBlock
      simp [Array.getElem?_modify, hb, onCells]
    rw [this]
    congr 2
    apply Array.ext_getElem?
    intro j
    rw [setA_get j _ _ _ (by rw [hlen]; exact hsz), hlen]
    unfold putCells
    rw [Array.getElem?_mapIdx]
    by_cases hj : off ≤ j ∧ j < off + ys.size
    · rw [if_pos hj]
      have h1 : j < arr.size := by omega
      have h2 : j - off < ys.size := by omega
      rw [Array.getElem?_eq_getElem h1]
      simp only [Option.map_some, hj, and_self, if_true]
      rw [List.getElem?_map, Array.getElem?_toList, Array.getElem?_eq_getElem h2]
      simp [getElem!_pos, h2]
    · rw [if_neg hj]
      cases arr[j]? with
      | none => rfl
      | some v => simp [hj]
  · rw [heap_setCells_ne _ _ hk]
    unfold putRow mapBlock
    simp [Array.getElem?_modify, Ne.symm hk]
theorem Sim.grown (s : Sim P FB w0 μ h w) (os : Array Obj) : Sim P FB w0 μ h (grow w os) :=
  s.below ⟨rfl, rfl, rfl, by show w.heap.size ≤ (w.heap ++ os).size; rw [Array.size_append]; omega, fun k hk => by
    show (w.heap ++ os)[k]? = _
    rw [Array.getElem?_append_left hk]⟩
theorem VR.plain_eq {x y : Value} (v : VR μ x y) (hp : isPlain x = true) : y = x := by
  cases v <;> first
    | rfl
    | (simp [isPlain] at hp; done)
    | (rename_i a a' hs e; simp [isPlain] at hp; subst hp; exact congrArg Value.tuple (Array.eq_empty_of_size_eq_zero hs.symm))
theorem putL_all (cs vs : List Value) (h : vs.length = cs.length) : putL cs 0 vs = vs := by
  apply List.ext_getElem?
  intro m
  by_cases hm : m < vs.length
  · rw [putL_in' (by omega) (by omega) (by omega), Nat.sub_zero]
  · rw [List.getElem?_eq_none (by rw [putL_length]; omega), List.getElem?_eq_none (by omega)]
/-- A contract of the library over one slice of the caller's own, which it writes. -/
theorem CC.row {α : Type} [Inhabited α] {f : FuncId} (hb : callB P f = true) (enc : α → Value) (hp : ∀ a, isPlain (enc a) = true) (h1 : ∀ a, one (enc a) = true) (xs ys : List α) (hlen : ys.length = xs.length) (hn : 0 < xs.length) (V : Value) (rv : Nat → Nat → Nat → Value) (id off : Nat)
    (hV : ∀ μ l cap, μ id = some l → xs.length ≤ cap → off + cap * 1 ≤ l.room → VR μ (V) (rv l.b (l.o + off) cap))
    (c : ∀ (blk off cap : Nat) (w : World), Holds enc w blk off xs.toArray → blk < w.heap.size → xs.length ≤ cap → Calls P f #[.slice (some ⟨blk, off, none⟩) xs.length cap] w fun e w' => e = .returned (rv blk off cap) ∧ ∃ n os, w' = grow (putRow enc (Sort.ahead w n) blk off ys.toArray) os)
    (o : Own h id off xs.length 1 (xs.map enc)) : CC P f [.slice (some ⟨id, off, none⟩) xs.length 1] h (fun v h' => v = V ∧ Own h' id off xs.length 1 (ys.map enc) ∧ Wr h h' id) := by
  refine CE.call hb ?_
  intro FB w0 μ w cargs R' s la hk
  obtain ⟨all, st, ln, e, hs, hl, hd⟩ := o.ob
  have hvl : (ys.map enc).length = xs.length := by rw [List.length_map, hlen]
  have hst : st ≠ .ro := by rcases hs with rfl | rfl <;> simp
  have hw := o.wr (lo := 0) (vs := ys.map enc) (by rw [hvl]; omega) (K := fun h' => Own h' id off xs.length 1 (putL (xs.map enc) 0 (ys.map enc)) ∧ Wr h h' id) (fun h' a b => ⟨a, b⟩)
  rw [Nat.add_zero, ← wr_eq] at hw
  cases hr : wr h id off (ys.map enc) with
  | none => rw [hr] at hw; exact hw.elim
  | some h' =>
  rw [hr] at hw
  obtain ⟨hown, hwr⟩ := (show _ ∧ _ from hw)
  rw [show putL (xs.map enc) 0 (ys.map enc) = ys.map enc from putL_all _ _ (by simp [hlen])] at hown
  obtain ⟨cv, rfl⟩ : ∃ cv, cargs = #[cv] := by
    have h1 : cargs.toList.length = 1 := la.1.symm
    have h2 : cargs.size = 1 := by simpa using h1
    exact ⟨cargs[0], by apply Array.ext; · simp [h2]
                        · intro i a b; have : i = 0 := by omega
                          subst this; rfl⟩
  have hcv : VR μ (.slice (some ⟨id, off, none⟩) xs.length 1) cv := la.2 0 (by simp) (by simp)
  generalize hN : xs.length = N at hcv hn hvl
  cases hcv with
  | plain v hh => simp [isPlain] at hh
  | slz i off k l hm ho A' => omega
  | sl i off' n k cap l hm hn2 hroom =>
    subst hN
    obtain ⟨hfb, hblk, hro⟩ := s.blk id l all st ln hm e hst
    have hholds : Holds enc w l.b (l.o + off) xs.toArray := fun j hj => by
      have hj' : j < xs.length := by simpa using hj
      obtain ⟨c1, hc1, hv1⟩ := s.cell id l all st ln hm e (off + j) (by omega)
      have hx : all[off + j]'(by omega) = enc xs[j] := by
        have := congrArg (·[j]?) hd
        simp only [List.getElem?_drop, List.getElem?_map] at this
        rw [List.getElem?_eq_getElem (by omega), List.getElem?_eq_getElem hj'] at this
        exact Option.some.inj this
      rw [hx] at hv1
      have hc2 : c1 = enc xs[j] := by
        have := hp xs[j]
        generalize enc xs[j] = x at hv1 this
        exact VR.plain_eq hv1 this
      refine ⟨?_, ?_⟩
      · rw [Nat.add_assoc, hc1, hc2]
        simp [hj']
      · rw [Nat.add_assoc]; exact hblk.frozen (by omega)
    refine (c l.b (l.o + off) cap w hholds (s.lt hm e hst) hn2).mono fun e' w' ⟨h2, n, os, h3⟩ => ?_
    subst h2 h3
    have s1 : Sim P FB w0 μ h (Sort.ahead w n) := s.drawn (w.drawn + n)
    have hpost := (s1.write hm hr (cvs := ys.map enc) ⟨rfl, fun j a b => .plain _ (by rw [List.getElem_map]; exact hp _)⟩ (fun v hv => by obtain ⟨a, _, rfl⟩ := List.mem_map.1 hv; exact h1 a)).1
    obtain ⟨arr, ee, fz, b1, b2, b3⟩ := hblk
    have hheap := putRow_heap enc (Sort.ahead w n) l.b (l.o + off) ys.toArray (arr := arr) (e := ee) (fz := fz) b1 (by rw [b2]; simp only [List.size_toArray]; omega)
    rw [List.toList_toArray] at hheap
    have z := size_setCells l.b (ys.map enc) (l.o + off) (Sort.ahead w n)
    have sP : Sim P FB w0 μ h' (putRow enc (Sort.ahead w n) l.b (l.o + off) ys.toArray) := hpost.sim.same hheap (by rw [z.2.1]; rfl) (by rw [z.2.2.1]; rfl) (by rw [z.2.2.2]; rfl)
    exact hk V h' μ _ _ ⟨rfl, hown, hwr⟩ ⟨sP.grown os, hpost.ext, hpost.unt⟩ (hV μ l cap hm hn2 hroom)
theorem grow_nil (w : World) : grow w #[] = w := by unfold grow; rw [Array.append_empty]
end Go.Sim
/- Slices of the call's own, whose lines are the call's own: writing them leaves elder objects alone. Conditions: none. -/
set_option linter.unusedVariables false
set_option linter.unusedSimpArgs false
namespace Go.Sim
variable {P : Program} {h h0 : AH}
/-- Lines do not lie above their objects. -/
def Lin (h : AH) : Prop := ∀ i n, (h.ob i).own = some n → n ≤ i
theorem CC.withLin {f : FuncId} {args : List Value} {R : Value → AH → Prop} (hc : Lin h → CC P f args h R) : CC P f args h R := fun FB w0 μ w cargs o a K Q s => hc s.lin FB w0 μ w cargs o a K Q s
/-- The value's line is of the call's own. -/
def Lo (n0 : Nat) (h : AH) (v : Value) : Prop := ∀ i, atBlock v i → ∀ l, Line h i l → n0 ≤ l
theorem Lo.keep {n0 : Nat} {h' : AH} {v : Value} (w : Lo n0 h v) (e : ∀ i, atBlock v i → h'.ob i = h.ob i) : Lo n0 h' v := fun i hi l hl => w i hi l (by
  obtain ⟨a, s, e1, hs⟩ := hl.ob
  exact ⟨a, s, (e i hi).symm.trans e1, hs⟩)
structure GrL (n0 : Nat) (h : AH) (v : Value) (k : Nat) (cs : List Value) : Prop where
  gr : Gr n0 h v k cs
  lo : Lo n0 h v
theorem GrL.keep {n0 : Nat} {h' : AH} {v : Value} {k : Nat} {cs : List Value} (w : GrL n0 h v k cs) (hn : h.n ≤ h'.n) (e : ∀ i, atBlock v i → h'.ob i = h.ob i) : GrL n0 h' v k cs := ⟨w.gr.keep hn e, w.lo.keep e⟩
theorem Gr.lt {n0 : Nat} {v : Value} {k : Nat} {cs : List Value} (w : Gr n0 h v k cs) {i : Nat} (e : atBlock v i) : n0 ≤ i ∧ i < h.n := by
  rcases w with ⟨c, rfl, rfl⟩ | ⟨id, off, n, rfl, b, o⟩
  · exact e.elim
  · have e' : id = i := e
    have := o.lt
    omega
theorem GrL.pre {n0 : Nat} {h' : AH} {v : Value} {k : Nat} {cs : List Value} (w : GrL n0 h v k cs) (p : Pre h h') : GrL n0 h' v k cs := w.keep p.n (fun i e => p.ob i (w.gr.lt e).2)
theorem GrL.nil (n0 : Nat) (h : AH) (c k : Nat) : GrL n0 h (.slice none 0 c) k [] := ⟨Gr.nil _ _ _ _, fun _ e => e.elim⟩
theorem GrL.new {n0 : Nat} (hn : n0 ≤ h.n) (cs : List Value) (n k : Nat) (e : cs.length = n * k) : GrL n0 (h.alloc (.cells cs .solo h.n)) (.slice (some ⟨h.n, 0, none⟩) n k) k cs := ⟨Gr.new hn cs n k e, fun i hi l hl => by
  have e' : h.n = i := hi
  subst e'
  obtain ⟨a, s, e1, hs⟩ := hl.ob
  rw [alloc_same] at e1
  injection e1 with _ _ e1
  omega⟩
/-- An append of new elements to a slice of the call's own; its line stays. -/
theorem app_ownL {t u e : TypeId} {s b : Nat} {z : List Value} {ag : Bool} {id off n : Nat} {cs new : List Value} {m : Nat} {x : Value} {K : Value → AH → Prop}
    (hs : si P t = some (e, ⟨s, b, z, ag⟩)) (hpos : 0 < s) (hby : b ≤ 256) (hu : notInt (P.underlying u)) (w : Own h id off n s cs) (hx : asrc h s x = some (m, new)) (hm : new.length = m * s) (hb : n + m < 274877906944)
    (hk : ∀ h', Own h' h.n 0 (n + m) s (cs ++ new) → (∀ l, Line h' h.n l → Line h id l) → h'.n = h.n + 1 → (∀ i, i < h.n → i ≠ id → h'.ob i = h.ob i) → K (.slice (some ⟨h.n, 0, none⟩) (n + m) s) h') :
    aappend P h t u (.slice (some ⟨id, off, none⟩) n s) x K := by
  obtain ⟨all, st, ln, ho, hst, hl, rfl⟩ := w.ob
  have hne : h.n ≠ id := fun e => by have := w.lt; omega
  refine aapp_to ?_
  unfold aapp
  rw [hs]
  simp only [hx]
  refine ⟨hpos, hby, hu.1, hu.2, ?_⟩
  have hap : apd h id off n s new = some ((h.set id (.cells all .old ln)).alloc (.cells (all.drop off ++ new) .tip ln)) := by
    unfold apd
    rw [ho]
    rcases hst with rfl | rfl <;> simp [hl]
  simp only [hap]
  refine ⟨trivial, hb, ?_⟩
  have e0 : ((h.set id (.cells all .old ln)).alloc (.cells (all.drop off ++ new) .tip ln)).ob h.n = .cells (all.drop off ++ new) .tip ln := alloc_same (h := h.set id (.cells all .old ln)) _
  refine hk ((h.set id (.cells all .old ln)).alloc (.cells (all.drop off ++ new) .tip ln)) ⟨Nat.lt_succ_self h.n, by rw [List.length_append, hm, w.len, Nat.add_mul], all.drop off ++ new, .tip, ln, e0, .inr rfl, ?_, rfl⟩ (fun l hl => ?_) rfl (fun i hi hne' => ?_)
  · rw [List.length_append, hm, w.len, Nat.add_mul]; omega
  · obtain ⟨a, s', e1, _⟩ := hl.ob
    rw [e0] at e1
    injection e1 with _ _ e1
    subst e1
    exact ⟨all, st, ho, hst⟩
  · rw [alloc_lt _ (show i < (h.set id (.cells all .old ln)).n from hi), set_ne _ hne']
theorem GrL.app1 {t u e : TypeId} {s b : Nat} {z : List Value} {ag : Bool} {v : Value} {cs new : List Value} {m c : Nat} {K : Value → AH → Prop}
    (hs : si P t = some (e, ⟨s, b, z, ag⟩)) (hpos : 0 < s) (hby : b ≤ 256) (hu : notInt (P.underlying u)) (w : GrL h0.n h v s cs) (p : Pre h0 h) (hm : new.length = m * s) (hb : cs.length / s + m < 274877906944) (h1 : 0 < m)
    (hk : ∀ h', GrL h0.n h' (.slice (some ⟨h.n + 1, 0, none⟩) (cs.length / s + m) s) s (cs ++ new) → Pre h0 h' → h'.n = h.n + 2 → (∀ i, i < h.n → ¬ atBlock v i → h'.ob i = h.ob i) → K (.slice (some ⟨h.n + 1, 0, none⟩) (cs.length / s + m) s) h') :
    aappend P (h.alloc (.cells new .solo h.n)) t u v (.slice (some ⟨h.n, 0, none⟩) m c) K := by
  have hx := asrc_new (h := h) new s m c hm
  have w1 : GrL h0.n (h.alloc (.cells new .solo h.n)) v s cs := w.pre ((Pre.refl h).alloc _)
  have p1 : Pre h0 (h.alloc (.cells new .solo h.n)) := p.alloc _
  have hn := p.n
  obtain ⟨g, lo⟩ := w1
  rcases g with ⟨c', rfl, rfl⟩ | ⟨id, off, n, rfl, b', o⟩
  · simp only [List.length_nil, Nat.zero_div, Nat.zero_add, List.nil_append] at hk hb
    refine aapp_to ?_
    unfold aapp
    simp only [hs, hx]
    refine ⟨hpos, hby, hu.1, hu.2, hb, .inl ⟨h1, hk _ (GrL.new (h := h.alloc _) (by show h0.n ≤ h.n + 1; omega) new m s hm) (p1.alloc _) rfl (fun i hi _ => (alloc_lt _ (show i < (h.alloc (.cells new .solo h.n)).n from Nat.lt_succ_of_lt hi)).trans (alloc_lt _ hi))⟩⟩
  · have hl : cs.length / s = n := by rw [o.len]; exact Nat.mul_div_cancel n hpos
    rw [hl] at hb hk
    refine app_ownL hs hpos hby hu o hx hm hb (fun h' o' ln hn' he => hk h' ⟨.inr ⟨_, _, _, rfl, by omega, o'⟩, fun i hi l hl => ?_⟩ ⟨by rw [hn']; show h0.n ≤ h.n + 1 + 1; omega, fun i hi => ?_⟩ hn' (fun i hi hv => ?_))
    · have e' : h.n + 1 = i := hi
      subst e'
      exact lo id rfl l (ln l hl)
    · exact (he i (show i < h.n + 1 by omega) (by omega)).trans (p1.ob i hi)
    · exact (he i (show i < h.n + 1 by omega) (fun e => hv e.symm)).trans (alloc_lt _ hi)
/-- An append of whatever is read. -/
theorem GrL.app {n0 : Nat} {t u e : TypeId} {s b : Nat} {z : List Value} {ag : Bool} {v x : Value} {cs new : List Value} {m : Nat} {K : Value → AH → Prop}
    (hs : si P t = some (e, ⟨s, b, z, ag⟩)) (hpos : 0 < s) (hby : b ≤ 256) (hu : notInt (P.underlying u)) (w : GrL n0 h v s cs) (hn : n0 ≤ h.n) (hx : asrc h s x = some (m, new)) (hm : new.length = m * s) (hb : cs.length / s + m < 274877906944)
    (hk : ∀ v' h', GrL n0 h' v' s (cs ++ new) → h.n ≤ h'.n → (∀ i, i < h.n → ¬ atBlock v i → h'.ob i = h.ob i) → (∀ i, atBlock v' i → h.n ≤ i) → K v' h') :
    aappend P h t u v x K := by
  obtain ⟨g, lo⟩ := w
  rcases g with ⟨c', rfl, rfl⟩ | ⟨id, off, n, rfl, b', o⟩
  · refine aapp_to ?_
    unfold aapp
    simp only [hs, hx]
    simp only [List.length_nil, Nat.zero_div, Nat.zero_add] at hb
    refine ⟨hpos, hby, hu.1, hu.2, hb, ?_⟩
    by_cases h0 : m = 0
    · have : new = [] := List.eq_nil_of_length_eq_zero (by rw [hm, h0]; omega)
      subst this
      exact .inr ⟨h0, hk _ _ (GrL.nil _ _ _ _) (Nat.le_refl _) (fun _ _ _ => rfl) (fun _ e => e.elim)⟩
    · exact .inl ⟨by omega, hk _ _ (GrL.new hn new m s hm) (Nat.le_succ _) (fun i hi _ => alloc_lt _ hi) (fun i e => by have e' : h.n = i := e; omega)⟩
  · have hl : cs.length / s = n := by rw [o.len]; exact Nat.mul_div_cancel n hpos
    rw [hl] at hb
    refine app_ownL hs hpos hby hu o hx hm hb (fun h' o' ln hn' he => hk _ h' ⟨.inr ⟨_, _, _, rfl, hn, o'⟩, fun i hi l hl => ?_⟩ (by omega) (fun i hi hv => he i hi (fun e => hv e.symm)) (fun i e => by have e' : h.n = i := e; omega))
    have e' : h.n = i := hi
    subst e'
    exact lo id rfl l (ln l hl)
/-- A write of it leaves elder objects alone. -/
theorem GrL.wr {n0 : Nat} {h' : AH} {id off k m c : Nat} {cs : List Value} (w : GrL n0 h (.slice (some ⟨id, off, none⟩) m c) k cs) (f : Lin h) (x : Wr h h' id) : ∀ i, i < n0 → h'.ob i = h.ob i := fun i hi => by
  have hb := (w.gr.lt (i := id) rfl).1
  refine x.ob i (by omega) (fun l hl e => ?_)
  have := f i l e
  have := w.lo id rfl l hl
  omega
theorem Lo.wr {n0 : Nat} {h' : AH} {id off m c : Nat} (w : Lo n0 h (.slice (some ⟨id, off, none⟩) m c)) (x : Wr h h' id) : ∀ off' m' c', Lo n0 h' (.slice (some ⟨id, off', none⟩) m' c') := fun off' m' c' i hi l hl => by
  have e' : id = i := hi
  subst e'
  exact w id rfl l ((x.line l).2 hl)
/-- The head of a slice of the call's own. -/
structure OwnP (n0 : Nat) (h : AH) (v : Value) (m : Nat) : Prop where
  at_ : (∃ c, v = .slice none 0 c ∧ m = 0) ∨ ∃ id off n all, v = .slice (some ⟨id, off, none⟩) m 1 ∧ n0 ≤ id ∧ m ≤ n ∧ Own h id off n 1 all
  lo : Lo n0 h v
theorem OwnP.keep {n0 m : Nat} {h' : AH} {v : Value} (w : OwnP n0 h v m) (hn : h.n ≤ h'.n) (e : ∀ i, atBlock v i → h'.ob i = h.ob i) : OwnP n0 h' v m := by
  refine ⟨?_, w.lo.keep e⟩
  rcases w.at_ with w | ⟨id, off, n, all, rfl, b, c, o⟩
  · exact .inl w
  · exact .inr ⟨id, off, n, all, rfl, b, c, o.same (e id rfl) hn⟩
theorem OwnP.range {n0 m : Nat} {v : Value} (w : OwnP n0 h v m) {i : Nat} (e : atBlock v i) : n0 ≤ i ∧ i < h.n := by
  rcases w.at_ with ⟨c, rfl, _⟩ | ⟨id, off, n, all, rfl, b, c, o⟩
  · exact e.elim
  · have e' : id = i := e
    have := o.lt
    omega
theorem OwnP.pre {n0 m : Nat} {h' : AH} {v : Value} (w : OwnP n0 h v m) (p : Pre h h') : OwnP n0 h' v m := w.keep p.n (fun i e => p.ob i (w.range e).2)
theorem GrL.ownP {n0 m : Nat} {v : Value} {cs : List Value} (w : GrL n0 h v 1 cs) (e : cs.length = m) : OwnP n0 h v m := by
  refine ⟨?_, w.lo⟩
  rcases w.gr with ⟨c, rfl, rfl⟩ | ⟨id, off, n, rfl, b, o⟩
  · exact .inl ⟨c, rfl, e.symm⟩
  · have := o.len
    exact .inr ⟨id, off, n, cs, by rw [show m = n by omega], b, by omega, o⟩
end Go.Sim
/- One element of a slice that is read whole; what holds of every heap that stands for a world, behind a call; fields written in place. Conditions: those that each theorem names. -/
set_option linter.unusedVariables false
set_option linter.unusedSimpArgs false
namespace Go.Sim
variable {P : Program} {h : AH}
theorem RdV.el {α : Type} {h : AH} {v : Value} {k : Nat} {enc : α → List Value} {l : List α} (r : RdV h v k enc l) (hl : ∀ x, (enc x).length = k) {i : Nat} (hi : i < l.length) : ∃ id off c, v = .slice (some ⟨id, off, none⟩) l.length c ∧ id < h.n ∧ rd h id (off + i * k) k = some (enc l[i]) := by
  rcases r with ⟨c, rfl, rfl⟩ | ⟨id, off, c, rfl, q, hlt⟩
  · cases hi
  · exact ⟨id, off, c, rfl, hlt, chunk_of (n := 0) (fun x _ => hl x) q hi⟩
/-- What holds of every heap that stands for a world. -/
structure Wf (h : AH) : Prop where
  lin : Lin h
  fit : Fit h
  big : Big h
theorem CC.wf {f : FuncId} {args : List Value} {R : Value → AH → Prop} (hc : CC P f args h R) : CC P f args h (fun v h' => R v h' ∧ Wf h') :=
  fun FB w0 μ w cargs o a K Q s ha hk => hc FB w0 μ w cargs o a K Q s ha (fun v h' μ' cv w' r p hv => hk v h' μ' cv w' ⟨r, p.sim.lin, ⟨p.sim.tipu, p.sim.solo⟩, p.sim.big⟩ p hv)
theorem CC.withWf {f : FuncId} {args : List Value} {R : Value → AH → Prop} (hc : Wf h → CC P f args h R) : CC P f args h R := fun FB w0 μ w cargs o a K Q s => hc ⟨s.lin, ⟨s.tipu, s.solo⟩, s.big⟩ FB w0 μ w cargs o a K Q s
theorem Lin.alloc (l : Lin h) (cs : List Value) : Lin (h.alloc (.cells cs .solo h.n)) := fun i n e => by
  by_cases c : i = h.n
  · subst c
    rw [alloc_same] at e
    simp [AOb.own] at e
    omega
  · have : (h.alloc (.cells cs .solo h.n)).ob i = h.ob i := by simp [AH.alloc, c]
    rw [this] at e; exact l i n e
theorem Fit.alloc (f : Fit h) (l : Lin h) (b : Big h) (cs : List Value) : Fit (h.alloc (.cells cs .solo h.n)) := by
  have old : ∀ i, i ≠ h.n → (h.alloc (.cells cs .solo h.n)).ob i = h.ob i := fun i c => by simp [AH.alloc, c]
  refine ⟨fun i j ci cj n ei ej => ?_, fun i ci n ei => ?_⟩
  · by_cases c : i = h.n
    · subst c; rw [alloc_same] at ei; cases ei
    · by_cases c2 : j = h.n
      · subst c2; rw [alloc_same] at ej; cases ej
      · rw [old i c] at ei; rw [old j c2] at ej; exact f.tipu i j ci cj n ei ej
  · by_cases c : i = h.n
    · subst c
      rw [alloc_same] at ei
      injection ei with _ _ e3
      refine ⟨e3.symm, fun j ej => ?_⟩
      by_cases c2 : j = h.n
      · exact c2
      · rw [old j c2] at ej
        have := l j _ ej
        have hn := b j this
        rw [hn] at ej
        cases ej
    · rw [old i c] at ei
      have := f.solo i ci n ei
      refine ⟨this.1, fun j ej => ?_⟩
      by_cases c2 : j = h.n
      · subst c2
        rw [alloc_same] at ej
        simp [AOb.own] at ej
        omega
      · rw [old j c2] at ej; exact this.2 j ej
theorem Wf.alloc (w : Wf h) (cs : List Value) : Wf (h.alloc (.cells cs .solo h.n)) := ⟨w.lin.alloc cs, w.fit.alloc w.lin w.big cs, w.big.alloc _⟩
/-! ### elements of so many cells each: one is written -/
theorem putL_app_left : ∀ (vs a b : List Value) (o : Nat), o + vs.length ≤ a.length → putL (a ++ b) o vs = putL a o vs ++ b
  | [], _, _, _, _ => rfl
  | v :: r, a, b, o, h => by
    simp only [List.length_cons] at h
    rw [putL, putL, List.set_append_left _ _ (by omega), putL_app_left r _ b (o + 1) (by rw [List.length_set]; omega)]
theorem putL_app_right : ∀ (vs a b : List Value) (o : Nat), putL (a ++ b) (a.length + o) vs = a ++ putL b o vs
  | [], _, _, _ => rfl
  | v :: r, a, b, o => by
    rw [putL, putL, List.set_append_right _ _ (by omega), Nat.add_sub_cancel_left, Nat.add_assoc]
    exact putL_app_right r a (b.set o v) (o + 1)
theorem putL_flat {α : Type} {enc : α → List Value} {c : Nat} (hl : ∀ x, (enc x).length = c) : ∀ (l : List α) (k : Nat) (hk : k < l.length) (j : Nat) (vs : List Value) (y : α), j + vs.length ≤ c → putL (enc l[k]) j vs = enc y →
    putL (l.map enc).flatten (k * c + j) vs = ((l.set k y).map enc).flatten
  | x :: r, 0, _, j, vs, y, hj, e => by
    simp only [List.getElem_cons_zero] at e
    rw [Nat.zero_mul, Nat.zero_add, List.map_cons, List.flatten_cons, putL_app_left _ _ _ _ (by rw [hl]; exact hj), e]
    rfl
  | x :: r, k + 1, hk, j, vs, y, hj, e => by
    simp only [List.getElem_cons_succ] at e
    have ih := putL_flat hl r k (by simpa using hk) j vs y hj e
    rw [List.map_cons, List.flatten_cons, show (k + 1) * c + j = (enc x).length + (k * c + j) by rw [hl, Nat.add_mul]; omega, putL_app_right, ih]
    rfl
theorem GrL.open {n0 : Nat} {v : Value} {k m : Nat} {cs : List Value} (w : GrL n0 h v k cs) (hm : cs.length = m * k) (h0 : 0 < m) (hk : 0 < k) : ∃ id off, v = .slice (some ⟨id, off, none⟩) m k ∧ Own h id off m k cs ∧ n0 ≤ id ∧ id < h.n := by
  have hmk : 0 < m * k := Nat.mul_pos h0 hk
  rcases w.gr with ⟨c, rfl, rfl⟩ | ⟨id, off, n, rfl, b, o⟩
  · simp at hm; omega
  · have hn : n = m := by
      have := o.len
      rw [hm] at this
      exact (Nat.eq_of_mul_eq_mul_right hk this).symm
    subst hn
    exact ⟨id, off, rfl, o, b, o.lt⟩
theorem line_solo {i ln : Nat} {cs : List Value} (e : h.ob i = .cells cs .solo ln) : Line h i ln := ⟨_, _, e, .inl rfl⟩
/-- What another object is, when one's own slice was written. -/
theorem Wr.solo {h' : AH} {id : Nat} (x : Wr h h' id) (f : Fit h) {j ln : Nat} {cs : List Value} (e : h.ob j = .cells cs .solo ln) (hj : j ≠ id) : h'.ob j = h.ob j :=
  x.ob j hj (fun l hl => f.ne hl (line_solo e) (Ne.symm hj))
theorem Gr.open {n0 : Nat} {v : Value} {k m : Nat} {cs : List Value} (w : Gr n0 h v k cs) (hm : cs.length = m * k) (h0 : 0 < m) (hk : 0 < k) : ∃ id off, v = .slice (some ⟨id, off, none⟩) m k ∧ Own h id off m k cs ∧ n0 ≤ id ∧ id < h.n := by
  have hmk : 0 < m * k := Nat.mul_pos h0 hk
  rcases w with ⟨c, rfl, rfl⟩ | ⟨id, off, n, rfl, b, o⟩
  · simp at hm; omega
  · have hn : n = m := by
      have := o.len
      rw [hm] at this
      exact (Nat.eq_of_mul_eq_mul_right hk this).symm
    subst hn
    exact ⟨id, off, rfl, o, b, o.lt⟩
theorem wt_undef (i : Nat) (S : List (Nat × Nat)) : wt i undef S = S := rfl
end Go.Sim
/- Programs: what the rules of lines reach. Conditions: none. -/
set_option linter.unusedSimpArgs false
set_option linter.unusedVariables false
namespace Go.Sim
def encT (b : Bool) : List Value := [.bool b]
def bT (n : Nat) (F : Nat → Bool) : List Value := (List.range n).map fun j => .bool (F j)
def bL (n : Nat) (F : Nat → Bool) : List Bool := (List.range n).map F
theorem bT_bL (n : Nat) (F : Nat → Bool) : ((bL n F).map encT).flatten = bT n F := by
  unfold bL bT
  rw [List.map_map]
  induction n with
  | zero => rfl
  | succ n ih => rw [List.range_succ, List.map_append, List.flatten_append, ih, List.map_append]; rfl
theorem bT_len (n : Nat) (F : Nat → Bool) : (bT n F).length = n := by simp [bT]
theorem bL_len (n : Nat) (F : Nat → Bool) : (bL n F).length = n := by simp [bL]
theorem bL_get {n : Nat} {F : Nat → Bool} {i : Nat} (h : i < (bL n F).length) : (bL n F)[i] = F i := by simp [bL]
theorem bT_get {n : Nat} (F : Nat → Bool) {i : Nat} (h : i < n) : (bT n F)[i]? = some (.bool (F i)) := by simp [bT, h]
def updB (F : Nat → Bool) (j : Nat) (b : Bool) : Nat → Bool := fun k => if k = j then b else F k
theorem bT_set {n : Nat} (F : Nat → Bool) (j : Nat) (b : Bool) : (bT n F).set j (.bool b) = bT n (updB F j b) := by
  apply List.ext_getElem?
  intro k
  rw [List.getElem?_set]
  by_cases hk : k < n
  · rw [bT_get _ hk, bT_get _ hk, bT_len]
    by_cases e : j = k
    · subst e; rw [if_pos rfl, if_pos hk]; simp [updB]
    · rw [if_neg e]; simp [updB, Ne.symm e]
  · rw [List.getElem?_eq_none (by rw [bT_len]; omega), List.getElem?_eq_none (by rw [bT_len]; omega)]
    split
    · rw [bT_len, if_neg (by omega)]
    · rfl
theorem bT_zero (n : Nat) : bT n (fun _ => false) = List.replicate (n * 1) (.bool false) := by
  apply List.ext_getElem?
  intro k
  by_cases hk : k < n
  · rw [bT_get _ hk, List.getElem?_replicate, if_pos (by omega)]
  · rw [List.getElem?_eq_none (by rw [bT_len]; omega), List.getElem?_eq_none (by simp; omega)]
/-- Rules of lines mark their statement, and their condition. -/
def ruF (F : Nat → Bool) (r : Ru) : Nat → Bool := if r.when_ = 2 then (if 0 ≤ r.cond then updB (updB F r.act.toNat true) r.cond.toNat true else updB F r.act.toNat true) else F
def rusF (R : List Ru) (i : Nat) : Nat → Bool := (R.take i).foldl ruF (fun _ => false)
theorem rusF_succ {R : List Ru} {i : Nat} (h : i < R.length) : rusF R (i + 1) = ruF (rusF R i) R[i] := by
  rw [rusF, List.take_add_one, List.getElem?_eq_getElem h, Option.toList_some, List.foldl_append]; rfl
/-- A node that is reached reaches its kids. -/
def kiF (b : Bool) (F : Nat → Bool) (k : Int) : Nat → Bool := if b then updB F k.toNat true else F
def kisF (b : Bool) (F : Nat → Bool) (l : List Int) (i : Nat) : Nat → Bool := (l.take i).foldl (kiF b) F
theorem kisF_succ {b : Bool} {F : Nat → Bool} {l : List Int} {i : Nat} (h : i < l.length) : kisF b F l (i + 1) = kiF b (kisF b F l i) l[i] := by
  rw [kisF, List.take_add_one, List.getElem?_eq_getElem h, Option.toList_some, List.foldl_append]; rfl
theorem kisF_false (F : Nat → Bool) (l : List Int) : ∀ i, kisF false F l i = F := by
  intro i
  unfold kisF
  generalize l.take i = m
  induction m generalizing F with
  | nil => rfl
  | cons x m ih => rw [List.foldl_cons]; exact ih F
/-- What stands at places that no kid has stays. -/
theorem kisF_out {b : Bool} {F : Nat → Bool} {l : List Int} {p : Nat} (h : ∀ k ∈ l, k.toNat ≠ p) : ∀ i, kisF b F l i p = F p := by
  intro i
  unfold kisF
  have h' : ∀ k ∈ l.take i, k.toNat ≠ p := fun k hk => h k (List.mem_of_mem_take hk)
  generalize l.take i = m at h'
  induction m generalizing F with
  | nil => rfl
  | cons x m ih =>
    rw [List.foldl_cons, ih (fun k hk => h' k (List.mem_cons_of_mem _ hk))]
    unfold kiF
    split
    · unfold updB; rw [if_neg (Ne.symm (h' x (by simp)))]
    · rfl
def downF (N : List Nd) (F : Nat → Bool) : Nat → Nat → Bool
  | 0 => F
  | i + 1 => downF N (kisF (F i) F (N.getD i ⟨0, ⟨#[]⟩, []⟩).kids (N.getD i ⟨0, ⟨#[]⟩, []⟩).kids.length) i
def reach (N : List Nd) (R : List Ru) : Nat → Bool := downF N (rusF R R.length) N.length
/-- The same as impl's step. -/
theorem kiF_or (F : Nat → Bool) (b : Bool) (k : Int) (p : Nat) : kiF b F k p = (if p = k.toNat then (F k.toNat || b) else F p) := by
  unfold kiF updB
  cases b <;> by_cases e : p = k.toNat <;> simp [e]
end Go.Sim
/- Names: sorted, each once. Conditions: none. -/
set_option linter.unusedSimpArgs false
set_option linter.unusedVariables false
namespace Go.Sim
def asB (l : List UInt8) : ByteArray := ⟨l.toArray⟩
def asL (b : ByteArray) : List UInt8 := b.data.toList
theorem asB_asL (b : ByteArray) : asB (asL b) = b := by cases b; simp [asB, asL]
theorem asL_asB (l : List UInt8) : asL (asB l) = l := by simp [asB, asL]
theorem bs_lt : ∀ a b : List UInt8, Op.bytesLess a b = decide (a < b)
  | [], [] => by simp [Op.bytesLess]
  | [], _ :: _ => by simp [Op.bytesLess]
  | _ :: _, [] => by simp [Op.bytesLess]
  | x :: a, y :: b => by
    rw [Op.bytesLess, bs_lt a b, Bool.eq_iff_iff]
    simp only [Bool.or_eq_true, decide_eq_true_eq, Bool.and_eq_true, beq_iff_eq, List.cons_lt_cons_iff]
theorem ltB_lt (a b : ByteArray) : ltB a b = decide (asL a < asL b) := by
  unfold ltB asL
  rw [ByteArray.toList_eq, ByteArray.toList_eq, bs_lt]
theorem ll_trans {a b c : List UInt8} (h1 : a < b) (h2 : b < c) : a < c := by
  exact List.lt_trans h1 h2
theorem ll_irrefl (a : List UInt8) : ¬ a < a := List.lt_irrefl a
theorem ll_tri (a b : List UInt8) : a < b ∨ a = b ∨ b < a := by
  have := bl_tri a b
  rw [bs_lt, bs_lt] at this
  by_cases h1 : a < b
  · exact .inl h1
  · by_cases h2 : a = b
    · exact .inr (.inl h2)
    · simp [h1, h2] at this
      exact .inr (.inr this)
theorem le_iff (a b : List UInt8) : a ≤ b ↔ ¬ b < a := List.not_lt.symm
def srt (l : List (List UInt8)) : List (List UInt8) := l.mergeSort fun x y => decide (x ≤ y)
theorem srt_mem (l : List (List UInt8)) (x : List UInt8) : x ∈ srt l ↔ x ∈ l := List.mem_mergeSort
theorem srt_pw (l : List (List UInt8)) : (srt l).Pairwise (· ≤ ·) := by
  have := List.pairwise_mergeSort (le := fun x y : List UInt8 => decide (x ≤ y)) (fun a b c h1 h2 => by
    simp only [decide_eq_true_eq, le_iff] at *
    intro h3
    rcases ll_tri a b with h | h | h
    · exact h2 (ll_trans h3 h)
    · subst h; exact h2 h3
    · exact h1 h) (fun a b => by
    simp only [Bool.or_eq_true, decide_eq_true_eq, le_iff]
    rcases ll_tri a b with h | h | h
    · exact .inl (fun h2 => ll_irrefl _ (ll_trans h h2))
    · subst h; exact .inl (ll_irrefl _)
    · exact .inr (fun h2 => ll_irrefl _ (ll_trans h h2))) l
  exact this.imp (fun h => by simpa using h)
theorem srt_len (l : List (List UInt8)) : (srt l).length = l.length := List.length_mergeSort l
theorem getX {l : List (List UInt8)} {i : Nat} (h : i < l.length) : l.toArray[i]! = l[i] := by simp [h]
theorem cmp_mem (l : List (List UInt8)) (x : List UInt8) : x ∈ Lib.compact l ↔ x ∈ l := by
  unfold Lib.compact Lib.compactUpTo
  simp only [List.mem_map, List.mem_filter, List.mem_range]
  constructor
  · rintro ⟨j, ⟨hj, _⟩, rfl⟩
    rw [getX hj]; exact List.getElem_mem hj
  · intro hx
    obtain ⟨i, hi, rfl⟩ := List.getElem_of_mem hx
    have key : ∀ i, (hi : i < l.length) → ∃ j, (j < l.length ∧ Lib.keeps l.toArray j = true) ∧ l.toArray[j]! = l[i] := by
      intro i
      induction i with
      | zero => exact fun hi => ⟨0, ⟨hi, by simp [Lib.keeps]⟩, getX hi⟩
      | succ i ih =>
        intro hi
        by_cases e : l[i + 1] = l[i]
        · rw [e]; exact ih (by omega)
        · exact ⟨i + 1, ⟨hi, by rw [Lib.keeps]; simp only [decide_eq_true_eq]; right; rw [Nat.add_sub_cancel, getX hi, getX (by omega)]; exact e⟩, getX hi⟩
    exact key i hi
theorem cmp_len (l : List (List UInt8)) : (Lib.compact l).length ≤ l.length := by
  unfold Lib.compact Lib.compactUpTo
  rw [List.length_map]
  exact Nat.le_trans (List.length_filter_le _ _) (by simp)
theorem cmp_pw {l : List (List UInt8)} (h : l.Pairwise (· ≤ ·)) : (Lib.compact l).Pairwise (· < ·) := by
  unfold Lib.compact Lib.compactUpTo
  rw [List.pairwise_map]
  rw [List.pairwise_filter]
  have hr : (List.range l.length).Pairwise (fun i j => i < j ∧ i < l.length ∧ j < l.length) := by
    have := List.pairwise_lt_range (n := l.length)
    exact List.Pairwise.imp_of_mem (fun ha hb hab => ⟨hab, List.mem_range.1 ha, List.mem_range.1 hb⟩) this
  refine hr.imp ?_
  rintro i j ⟨h1, h2, h3⟩ _ hk
  rw [getX h2, getX h3]
  simp only [Lib.keeps, decide_eq_true_eq] at hk
  have hne : l[j] ≠ l[j - 1] := by
    rcases hk with hk | hk
    · omega
    · rw [getX h3, getX (by omega)] at hk; exact hk
  have hle : ∀ a b, (ha : a < l.length) → (hb : b < l.length) → a < b → l[a] ≤ l[b] := fun a b ha hb hab => List.pairwise_iff_getElem.1 h a b ha hb hab
  have h4 := hle (j - 1) j (by omega) h3 (by omega)
  rw [le_iff] at h4
  have h5 : l[j - 1] < l[j] := by
    rcases ll_tri l[j - 1] l[j] with h | h | h
    · exact h
    · exact absurd h.symm hne
    · exact absurd h h4
  by_cases e : i = j - 1
  · subst e; exact h5
  · have h6 := hle i (j - 1) h2 (by omega) (by omega)
    rw [le_iff] at h6
    rcases ll_tri l[i] l[j - 1] with h | h | h
    · exact ll_trans h h5
    · rw [h]; exact h5
    · exact absurd h h6
theorem pw_uniq : ∀ {a b : List (List UInt8)}, a.Pairwise (· < ·) → b.Pairwise (· < ·) → (∀ x, x ∈ a ↔ x ∈ b) → a = b
  | [], [], _, _, _ => rfl
  | [], y :: b, _, _, h => by have := (h y).2 (by simp); cases this
  | x :: a, [], _, _, h => by have := (h x).1 (by simp); cases this
  | x :: a, y :: b, ha, hb, h => by
    rw [List.pairwise_cons] at ha hb
    have exy : x = y := by
      rcases List.mem_cons.1 ((h x).1 (by simp)) with e | e
      · exact e
      · rcases List.mem_cons.1 ((h y).2 (by simp)) with e2 | e2
        · exact e2.symm
        · exact absurd (ll_trans (hb.1 x e) (ha.1 y e2)) (ll_irrefl _)
    subst exy
    rw [pw_uniq ha.2 hb.2 (fun z => by
      constructor
      · intro hz
        rcases List.mem_cons.1 ((h z).1 (List.mem_cons_of_mem _ hz)) with e | e
        · subst e; exact absurd (ha.1 z hz) (ll_irrefl _)
        · exact e
      · intro hz
        rcases List.mem_cons.1 ((h z).2 (List.mem_cons_of_mem _ hz)) with e | e
        · subst e; exact absurd (hb.1 z hz) (ll_irrefl _)
        · exact e)]
/-- Such names, sorted, each once. -/
structure NmOk (p : ByteArray → Prop) (ns : List ByteArray) : Prop where
  mem : ∀ t, t ∈ ns ↔ p t
  pw : ns.Pairwise fun a b => ltB a b = true
theorem NmOk.uniq {p : ByteArray → Prop} {a b : List ByteArray} (x : NmOk p a) (y : NmOk p b) : a = b := by
  have key : a.map asL = b.map asL := pw_uniq (List.pairwise_map.2 (x.pw.imp fun h => by rw [ltB_lt] at h; simpa using h)) (List.pairwise_map.2 (y.pw.imp fun h => by rw [ltB_lt] at h; simpa using h)) (fun t => by
    simp only [List.mem_map]
    constructor
    · rintro ⟨u, hu, rfl⟩; exact ⟨u, (y.mem u).2 ((x.mem u).1 hu), rfl⟩
    · rintro ⟨u, hu, rfl⟩; exact ⟨u, (x.mem u).2 ((y.mem u).1 hu), rfl⟩)
  have := congrArg (List.map asB) key
  rw [List.map_map, List.map_map] at this
  simpa [Function.comp_def, asB_asL] using this
def srtB (l : List ByteArray) : List ByteArray := (srt (l.map asL)).map asB
def cmpB' (l : List ByteArray) : List ByteArray := (Lib.compact (l.map asL)).map asB
theorem names_ok (l : List ByteArray) : NmOk (fun t => t ∈ l) (cmpB' (srtB l)) := by
  have e : (srtB l).map asL = srt (l.map asL) := by
    unfold srtB; rw [List.map_map]; simp [Function.comp_def, asL_asB]
  unfold cmpB'
  rw [e]
  refine ⟨fun t => ?_, List.pairwise_map.2 ((cmp_pw (srt_pw _)).imp fun h => by rw [ltB_lt, asL_asB, asL_asB]; simpa using h)⟩
  rw [List.mem_map]
  constructor
  · rintro ⟨u, hu, rfl⟩
    rw [cmp_mem, srt_mem, List.mem_map] at hu
    obtain ⟨v, hv, rfl⟩ := hu
    rw [asB_asL]; exact hv
  · intro ht
    exact ⟨asL t, (cmp_mem _ _).2 ((srt_mem _ _).2 (List.mem_map.2 ⟨t, ht, rfl⟩)), asB_asL t⟩
/-- An insertion. -/
theorem NmOk.ins {p : ByteArray → Prop} {a : List ByteArray} (x : NmOk p a) {t : ByteArray} (ht : t ∉ a) : NmOk (fun u => p u ∨ u = t) (a.filter (fun u => ltB u t) ++ [t] ++ a.filter (fun u => ltB t u)) := by
  refine ⟨fun u => ?_, ?_⟩
  · simp only [List.mem_append, List.mem_filter, List.mem_singleton]
    rw [← x.mem u]
    constructor
    · rintro ((h | h) | h)
      · exact .inl h.1
      · exact .inr h
      · exact .inl h.1
    · rintro (h | h)
      · rcases ll_tri (asL u) (asL t) with e | e | e
        · exact .inl (.inl ⟨h, by rw [ltB_lt]; simpa using e⟩)
        · have : u = t := by rw [← asB_asL u, e, asB_asL]
          subst this; exact absurd h ht
        · exact .inr ⟨h, by rw [ltB_lt]; simpa using e⟩
      · exact .inl (.inr h)
  · rw [List.pairwise_append, List.pairwise_append]
    refine ⟨⟨x.pw.filter _, by simp, fun u hu v hv => ?_⟩, x.pw.filter _, fun u hu v hv => ?_⟩
    · rw [List.mem_singleton] at hv
      subst hv
      exact (List.mem_filter.1 hu).2
    · have hv' := (List.mem_filter.1 hv).2
      rcases List.mem_append.1 hu with h | h
      · have hu' := (List.mem_filter.1 h).2
        rw [ltB_lt] at *
        simp only [decide_eq_true_eq] at *
        exact ll_trans hu' hv'
      · rw [List.mem_singleton] at h
        subst h; exact hv'
theorem NmOk.nil : NmOk (fun _ => False) [] := ⟨fun t => by simp, by simp⟩
theorem NmOk.to {p q : ByteArray → Prop} {a : List ByteArray} (x : NmOk p a) (h : ∀ t, p t ↔ q t) : NmOk q a := ⟨fun t => (x.mem t).trans (h t), x.pw⟩
theorem NmOk.any {p : ByteArray → Prop} {a : List ByteArray} (x : NmOk p a) (t : ByteArray) : a.any (fun u => decide (u = t)) = true ↔ p t := by
  rw [← x.mem t, List.any_eq_true]
  constructor
  · rintro ⟨u, hu, e⟩; rw [decide_eq_true_eq] at e; subst e; exact hu
  · exact fun h => ⟨t, h, by simp⟩
/-- Nodes from which on are names. -/
def isPut (op : Int) : Bool := decide (op = 19) || decide (op = 21)
def nd (N : List Nd) (j : Nat) : Nd := N.getD j ⟨0, ⟨#[]⟩, []⟩
def nmAt (N : List Nd) (F : Nat → Bool) (n : Nat) (t : ByteArray) : Prop := ∃ j, j < n ∧ F j = true ∧ isPut (nd N j).op = true ∧ (nd N j).text = t
def nmL (N : List Nd) (F : Nat → Bool) : Nat → List ByteArray
  | 0 => []
  | i + 1 => nmL N F i ++ (if (F i && isPut (nd N i).op) = true then [(nd N i).text] else [])
theorem nmL_mem (N : List Nd) (F : Nat → Bool) (t : ByteArray) : ∀ n, t ∈ nmL N F n ↔ nmAt N F n t
  | 0 => by simp [nmL, nmAt]
  | n + 1 => by
    rw [nmL, List.mem_append, nmL_mem N F t n]
    constructor
    · rintro (⟨j, h1, h2, h3, h4⟩ | h)
      · exact ⟨j, by omega, h2, h3, h4⟩
      · split at h
        · rename_i hc
          simp only [Bool.and_eq_true] at hc
          rw [List.mem_singleton] at h
          exact ⟨n, by omega, hc.1, hc.2, h.symm⟩
        · cases h
    · rintro ⟨j, h1, h2, h3, h4⟩
      by_cases e : j = n
      · subst e
        right
        rw [if_pos (by simp [h2, h3])]
        rw [h4]; simp
      · exact .inl ⟨j, by omega, h2, h3, h4⟩
theorem nmL_len (N : List Nd) (F : Nat → Bool) : ∀ n, (nmL N F n).length ≤ n
  | 0 => Nat.le_refl _
  | n + 1 => by
    have := nmL_len N F n
    rw [nmL, List.length_append]
    split <;> simp <;> omega
theorem nmAt_succ (N : List Nd) (F : Nat → Bool) (n : Nat) (t : ByteArray) : nmAt N F (n + 1) t ↔ nmAt N F n t ∨ ((F n && isPut (nd N n).op) = true ∧ t = (nd N n).text) := by
  rw [← nmL_mem, ← nmL_mem, nmL, List.mem_append]
  split
  · rename_i hc; simp [hc]
  · rename_i hc; simp [hc]
theorem NmOk.cnt {N : List Nd} {F : Nat → Bool} {n : Nat} {a : List ByteArray} (x : NmOk (nmAt N F n) a) : a.length ≤ n := by
  have : a = cmpB' (srtB (nmL N F n)) := x.uniq ((names_ok _).to (fun t => nmL_mem N F t n))
  rw [this]
  have h1 := cmp_len ((srtB (nmL N F n)).map asL)
  have h2 := nmL_len N F n
  unfold cmpB'
  rw [List.length_map]
  refine Nat.le_trans h1 ?_
  rw [List.length_map]
  unfold srtB
  rw [List.length_map, srt_len, List.length_map]
  exact h2
end Go.Sim
namespace Go.Sim
def nmC (N : List Nd) (F : Nat → Bool) : List ByteArray := cmpB' (srtB (nmL N F N.length))
theorem nmC_ok (N : List Nd) (F : Nat → Bool) : NmOk (nmAt N F N.length) (nmC N F) := (names_ok _).to (fun t => nmL_mem N F t N.length)
theorem nmC_len (N : List Nd) (F : Nat → Bool) : (nmC N F).length ≤ N.length := (nmC_ok N F).cnt
def badOp (ns : List ByteArray) (x : Nd) : Bool := decide (x.op = 18) || decide (x.op = 20) || decide (x.op = 25) || decide (x.op = 7) || ((decide (x.op = 3) || decide (x.op = 4)) && ns.any (fun t => decide (t = x.text)))
def mergeB (N : List Nd) (F : Nat → Bool) (ns : List ByteArray) : Bool := allN N.length fun j => !(F j && badOp ns (nd N j))
def mergeOk (p : Prg) : Bool := programOk p && mergeB p.nodes (reach p.nodes p.rules) (nmC p.nodes (reach p.nodes p.rules))
end Go.Sim
/- Programs: the code that is made of them. Conditions: none. -/
set_option linter.unusedSimpArgs false
set_option linter.unusedVariables false
namespace Go.Sim
/-- Code that is being written: texts and instructions. -/
structure Wr0 where
  tx : List ByteArray
  li : List Ins
def putI (u : Wr0) (op arg : Int) : Wr0 := ⟨u.tx, u.li ++ [⟨op, arg⟩]⟩
def hasT (u : Wr0) (s : ByteArray) : Bool := u.tx.any fun t => decide (t = s)
def txI (u : Wr0) (s : ByteArray) : Nat := u.tx.findIdx fun t => decide (t = s)
def putT (u : Wr0) (s : ByteArray) : Wr0 := if hasT u s then u else ⟨u.tx ++ [s], u.li⟩
def setArg (u : Wr0) (z : Nat) (a : Int) : Wr0 := ⟨u.tx, u.li.set z ⟨(u.li.getD z ⟨0, 0⟩).op, a⟩⟩
def codeOp (op : Int) : Int := if op = 1 ∨ op = 2 then 1 else if op = 25 then 24 else if op = 23 then 23 else op - 1
/-- The last of a node: its own instruction. -/
def ownI (x : Nd) (u : Wr0) : Wr0 :=
  if x.op = 24 then u
  else if x.op = 17 then putI u 16 x.kids.length
  else if texted (codeOp x.op) then putI (putT u x.text) (codeOp x.op) (txI u x.text)
  else putI u (codeOp x.op) 0
def kidN (x : Nd) (a : Nat) : Nat := (x.kids.getD a 0).toNat
def comp (N : List Nd) : Nat → Nat → Wr0 → Wr0
  | 0, _, u => u
  | f + 1, k, u =>
    let x := nd N k
    if x.op = 22 then
      let u1 := comp N f (kidN x 0) u
      let u2 := comp N f (kidN x 1) (putI u1 21 0)
      if x.kids.length = 3 then
        let u3 := setArg (putI u2 22 0) u1.li.length (u2.li.length + 1 : Nat)
        let u4 := comp N f (kidN x 2) u3
        setArg u4 u2.li.length (u4.li.length : Nat)
      else setArg u2 u1.li.length (u2.li.length : Nat)
    else ownI x (x.kids.foldl (fun u k => comp N f k.toNat u) u)
def compRule (N : List Nd) (w : Int) (u : Wr0) (r : Ru) : Wr0 :=
  if r.when_ = w then
    if r.cond < 0 then comp N N.length r.act.toNat u
    else
      let u1 := comp N N.length r.cond.toNat u
      let u2 := comp N N.length r.act.toNat (putI u1 21 0)
      setArg u2 u1.li.length (u2.li.length : Nat)
  else u
def compRules (N : List Nd) (R : List Ru) (w : Int) (u : Wr0) : Wr0 := R.foldl (compRule N w) u
def compAll (p : Prg) : Cod :=
  let u1 := compRules p.nodes p.rules 1 ⟨[], []⟩
  let u2 := compRules p.nodes p.rules 2 u1
  let u3 := compRules p.nodes p.rules 3 u2
  ⟨u3.tx, u3.li, 0, u1.li.length, u2.li.length⟩
def compile (p : Prg) : Option Cod := if programOk p && codeOk (compAll p) then some (compAll p) else none
/-! ### as long as may be, or longer than may be -/
/-- The same, or both too long. -/
def Rel (s u : Wr0) : Prop := s = u ∨ (250 < s.li.length ∧ 250 < u.li.length)
theorem Rel.refl (u : Wr0) : Rel u u := .inl rfl
theorem putI_len (u : Wr0) (op a : Int) : (putI u op a).li.length = u.li.length + 1 := by simp [putI]
theorem putT_len (u : Wr0) (s : ByteArray) : (putT u s).li = u.li := by unfold putT; split <;> rfl
theorem setArg_len (u : Wr0) (z : Nat) (a : Int) : (setArg u z a).li.length = u.li.length := by simp [setArg]
theorem ownI_len (x : Nd) (u : Wr0) : u.li.length ≤ (ownI x u).li.length := by
  unfold ownI
  split
  · exact Nat.le_refl _
  split
  · rw [putI_len]; omega
  split
  · rw [putI_len, putT_len]; omega
  · rw [putI_len]; omega
theorem comp_len (N : List Nd) : ∀ f k u, u.li.length ≤ (comp N f k u).li.length
  | 0, _, _ => Nat.le_refl _
  | f + 1, k, u => by
    have fo : ∀ (l : List Int) u, u.li.length ≤ (l.foldl (fun u k => comp N f k.toNat u) u).li.length := fun l => by
      induction l with
      | nil => exact fun u => Nat.le_refl _
      | cons a r ih => exact fun u => Nat.le_trans (comp_len N f a.toNat u) (ih _)
    unfold comp
    simp only
    split
    · have a := comp_len N f (kidN (nd N k) 0) u
      have b := comp_len N f (kidN (nd N k) 1) (putI (comp N f (kidN (nd N k) 0) u) 21 0)
      rw [putI_len] at b
      split
      · rw [setArg_len]
        have c := comp_len N f (kidN (nd N k) 2) (setArg (putI (comp N f (kidN (nd N k) 1) (putI (comp N f (kidN (nd N k) 0) u) 21 0)) 22 0) (comp N f (kidN (nd N k) 0) u).li.length ((comp N f (kidN (nd N k) 1) (putI (comp N f (kidN (nd N k) 0) u) 21 0)).li.length + 1 : Nat))
        rw [setArg_len, putI_len] at c
        omega
      · rw [setArg_len]; omega
    · exact Nat.le_trans (fo _ u) (ownI_len _ _)
theorem Rel.len {s u s' u' : Wr0} (r : Rel s u) (hs : s.li.length ≤ s'.li.length) (hu : u.li.length ≤ u'.li.length) (h : s = u → s' = u') : Rel s' u' := by
  rcases r with e | ⟨a, b⟩
  · exact .inl (h e)
  · exact .inr ⟨by omega, by omega⟩
theorem Rel.trans {a b c : Wr0} (x : Rel a b) (y : Rel b c) : Rel a c := by
  rcases x with rfl | ⟨x1, x2⟩
  · exact y
  · rcases y with rfl | ⟨y1, y2⟩
    · exact .inr ⟨x1, x2⟩
    · exact .inr ⟨x1, y2⟩
theorem compRule_len (N : List Nd) (w : Int) (u : Wr0) (r : Ru) : u.li.length ≤ (compRule N w u r).li.length := by
  unfold compRule
  split
  · split
    · exact comp_len _ _ _ _
    · simp only
      rw [setArg_len]
      have a := comp_len N N.length r.cond.toNat u
      have b := comp_len N N.length r.act.toNat (putI (comp N N.length r.cond.toNat u) 21 0)
      rw [putI_len] at b
      omega
  · exact Nat.le_refl _
theorem compRules_len (N : List Nd) (w : Int) : ∀ (R : List Ru) (u : Wr0), u.li.length ≤ (compRules N R w u).li.length
  | [], _ => Nat.le_refl _
  | r :: R, u => Nat.le_trans (compRule_len N w u r) (compRules_len N w R _)
theorem codeOk_long {c : Cod} (h : 250 < c.list.length) : codeOk c = false := by
  unfold codeOk
  rw [decide_eq_false (show ¬ c.list.length ≤ 250 by omega)]
  simp
end Go.Sim
/- Compilers in memory. Conditions: none. -/
set_option linter.unusedVariables false
set_option linter.unusedSimpArgs false
namespace Go.Sim
variable {h h1 h2 h' : AH}
theorem live.of2 {j : Nat} (l : live h j) (e : h'.ob j = h.ob j) : live h' j := by
  rcases l with ⟨ln, ⟨all, st, e1, hs⟩⟩ | l
  · exact .inl ⟨ln, ⟨all, st, e.trans e1, hs⟩⟩
  · exact .inr (by rw [e]; exact l)
/-- Where a program lies. -/
def PB (vN vR : Value) (L : List (Nd × Value)) (i : Nat) : Prop := atBlock vN i ∨ atBlock vR i ∨ ∃ x ∈ L, atBlock x.2 i
/-- A compiler: its program, and the code that it has written. -/
structure Cw (h : AH) (kp : Nat) (vN vR : Value) (L : List (Nd × Value)) (R : List Ru) (u : Wr0) (ln fn : Int) (vT vL : Value) : Prop where
  pt : h.ob kp = .cells [vN, vR, vT, vL, .int .i64 0, .int .i64 ln, .int .i64 fn] .solo kp
  lt : kp < h.n
  rd : RdG h vN vR L R
  lo : ∀ i, PB vN vR L i → i < kp
  gT : GrL (kp + 1) h vT 1 (u.tx.map encTx).flatten
  gL : GrL (kp + 1) h vL 2 (u.li.map encN).flatten
  ne : ∀ i, atBlock vT i → ¬ atBlock vL i
/-- What a step of a compiler leaves. -/
structure Fc (kp : Nat) (h h' : AH) (vT vL vT' vL' : Value) : Prop where
  n : h.n ≤ h'.n
  low : ∀ i, i < kp → h'.ob i = h.ob i
  ob : ∀ i, i < h.n → i ≠ kp → ¬ atBlock vT i → ¬ atBlock vL i → live h i → h'.ob i = h.ob i
  newT : ∀ i, atBlock vT' i → atBlock vT i ∨ h.n ≤ i
  newL : ∀ i, atBlock vL' i → atBlock vL i ∨ h.n ≤ i
variable {kp : Nat} {vN vR vT vL vT' vL' vT2 vL2 : Value} {L : List (Nd × Value)} {R : List Ru} {u u' : Wr0} {ln fn : Int}
theorem Fc.refl (kp : Nat) (h : AH) (vT vL : Value) : Fc kp h h vT vL vT vL := ⟨Nat.le_refl _, fun _ _ => rfl, fun _ _ _ _ _ _ => rfl, fun _ e => .inl e, fun _ e => .inl e⟩
theorem Fc.trans (a : Fc kp h h1 vT vL vT' vL') (b : Fc kp h1 h2 vT' vL' vT2 vL2) : Fc kp h h2 vT vL vT2 vL2 := by
  refine ⟨Nat.le_trans a.n b.n, fun i hi => (b.low i hi).trans (a.low i hi), fun i hi e1 e2 e3 l => ?_, fun i e => ?_, fun i e => ?_⟩
  · have q := a.ob i hi e1 e2 e3 l
    refine (b.ob i (Nat.lt_of_lt_of_le hi a.n) e1 (fun e => ?_) (fun e => ?_) (l.of2 q)).trans q
    · rcases a.newT i e with e | e
      · exact e2 e
      · omega
    · rcases a.newL i e with e | e
      · exact e3 e
      · omega
  · rcases b.newT i e with e | e
    · exact a.newT i e
    · exact .inr (Nat.le_trans a.n e)
  · rcases b.newL i e with e | e
    · exact a.newL i e
    · exact .inr (Nat.le_trans a.n e)
theorem Cw.far (c : Cw h kp vN vR L R u ln fn vT vL) {i : Nat} (e : atBlock vT i ∨ atBlock vL i) : kp + 1 ≤ i ∧ i < h.n := by
  rcases e with e | e
  · exact c.gT.gr.range e
  · exact c.gL.gr.range e
/-- New objects do no harm. -/
theorem Cw.pre (c : Cw h kp vN vR L R u ln fn vT vL) (p : Pre h h') : Cw h' kp vN vR L R u ln fn vT vL :=
  ⟨(p.ob _ c.lt).trans c.pt, Nat.lt_of_lt_of_le c.lt p.n, c.rd.pre p, c.lo, c.gT.pre p, c.gL.pre p, c.ne⟩
theorem Cw.fc (c : Cw h kp vN vR L R u ln fn vT vL) (p : Pre h h') : Fc kp h h' vT vL vT vL :=
  ⟨p.n, fun i hi => p.ob i (Nat.lt_trans hi c.lt), fun i hi _ _ _ _ => p.ob i hi, fun _ e => .inl e, fun _ e => .inl e⟩
/-- An object that a caller has made and holds. -/
structure Bx (h : AH) (kp b : Nat) (vT vL : Value) (cs : List Value) : Prop where
  ob : h.ob b = .cells cs .solo b
  lt : b < h.n
  ne : b ≠ kp
  nT : ¬ atBlock vT b
  nL : ¬ atBlock vL b
theorem Bx.fc {b : Nat} {cs : List Value} (x : Bx h kp b vT vL cs) (f : Fc kp h h' vT vL vT' vL') : Bx h' kp b vT' vL' cs := by
  have l := x.lt
  refine ⟨(f.ob b x.lt x.ne x.nT x.nL (.inl ⟨_, line_solo x.ob⟩)).trans x.ob, Nat.lt_of_lt_of_le x.lt f.n, x.ne, fun e => ?_, fun e => ?_⟩
  · rcases f.newT b e with e | e
    · exact x.nT e
    · omega
  · rcases f.newL b e with e | e
    · exact x.nL e
    · omega
/-- The list is another, the rest as it was. -/
theorem Cw.li {u' : Wr0} (c : Cw h kp vN vR L R u ln fn vT vL) {h3 : AH} (et : u'.tx = u.tx) (hn : h.n ≤ h3.n) (he : ∀ i, i < h.n → ¬ atBlock vL i → h3.ob i = h.ob i) (g : GrL (kp + 1) h3 vL' 2 (u'.li.map encN).flatten) (far : ∀ i, atBlock vL' i → atBlock vL i ∨ h.n ≤ i) :
    Cw (h3.set kp (.cells [vN, vR, vT, vL', .int .i64 0, .int .i64 ln, .int .i64 fn] .solo kp)) kp vN vR L R u' ln fn vT vL' ∧ Fc kp h (h3.set kp (.cells [vN, vR, vT, vL', .int .i64 0, .int .i64 ln, .int .i64 fn] .solo kp)) vT vL vT vL' := by
  have lt := c.lt
  have nl : ∀ i, i < kp + 1 → ¬ atBlock vL i := fun i hi e => by have := c.far (.inr e); omega
  have q : ∀ i, i < h.n → i ≠ kp → ¬ atBlock vL i → (h3.set kp (.cells [vN, vR, vT, vL', .int .i64 0, .int .i64 ln, .int .i64 fn] .solo kp)).ob i = h.ob i := fun i a b d => (set_ne _ b).trans (he i a d)
  have low : ∀ i, i < kp → (h3.set kp (.cells [vN, vR, vT, vL', .int .i64 0, .int .i64 ln, .int .i64 fn] .solo kp)).ob i = h.ob i := fun i hi => q i (by omega) (by omega) (nl i (by omega))
  refine ⟨⟨set_same _ _, Nat.lt_of_lt_of_le lt hn, ⟨c.rd.nodes.keep hn (fun i e => low i (c.lo i (.inl e))), fun x hx => (c.rd.kids x hx).keep hn (fun i e => low i (c.lo i (.inr (.inr ⟨x, hx, e⟩)))), c.rd.rules.keep hn (fun i e => low i (c.lo i (.inr (.inl e))))⟩, c.lo, ?_, ?_, ?_⟩, ⟨hn, low, fun i a b d e _ => q i a b e, fun _ e => .inl e, far⟩⟩
  · rw [et]
    exact c.gT.keep hn (fun i e => q i (c.far (.inl e)).2 (by have := c.far (.inl e); omega) (c.ne i e))
  · exact g.keep (Nat.le_refl _) (fun i e => set_ne _ (by have := (g.gr.range e).1; omega))
  · intro i e1 e2
    rcases far i e2 with e | e
    · exact c.ne i e1 e
    · have := c.far (.inl e1); omega
theorem Cw.tx {u' : Wr0} (c : Cw h kp vN vR L R u ln fn vT vL) {h3 : AH} (et : u'.li = u.li) (hn : h.n ≤ h3.n) (he : ∀ i, i < h.n → ¬ atBlock vT i → h3.ob i = h.ob i) (g : GrL (kp + 1) h3 vT' 1 (u'.tx.map encTx).flatten) (far : ∀ i, atBlock vT' i → atBlock vT i ∨ h.n ≤ i) :
    Cw (h3.set kp (.cells [vN, vR, vT', vL, .int .i64 0, .int .i64 ln, .int .i64 fn] .solo kp)) kp vN vR L R u' ln fn vT' vL ∧ Fc kp h (h3.set kp (.cells [vN, vR, vT', vL, .int .i64 0, .int .i64 ln, .int .i64 fn] .solo kp)) vT vL vT' vL := by
  have lt := c.lt
  have nl : ∀ i, i < kp + 1 → ¬ atBlock vT i := fun i hi e => by have := c.far (.inl e); omega
  have q : ∀ i, i < h.n → i ≠ kp → ¬ atBlock vT i → (h3.set kp (.cells [vN, vR, vT', vL, .int .i64 0, .int .i64 ln, .int .i64 fn] .solo kp)).ob i = h.ob i := fun i a b d => (set_ne _ b).trans (he i a d)
  have low : ∀ i, i < kp → (h3.set kp (.cells [vN, vR, vT', vL, .int .i64 0, .int .i64 ln, .int .i64 fn] .solo kp)).ob i = h.ob i := fun i hi => q i (by omega) (by omega) (nl i (by omega))
  refine ⟨⟨set_same _ _, Nat.lt_of_lt_of_le lt hn, ⟨c.rd.nodes.keep hn (fun i e => low i (c.lo i (.inl e))), fun x hx => (c.rd.kids x hx).keep hn (fun i e => low i (c.lo i (.inr (.inr ⟨x, hx, e⟩)))), c.rd.rules.keep hn (fun i e => low i (c.lo i (.inr (.inl e))))⟩, c.lo, ?_, ?_, ?_⟩, ⟨hn, low, fun i a b d e _ => q i a b d, far, fun _ e => .inl e⟩⟩
  · exact g.keep (Nat.le_refl _) (fun i e => set_ne _ (by have := (g.gr.range e).1; omega))
  · rw [et]
    exact c.gL.keep hn (fun i e => q i (c.far (.inr e)).2 (by have := c.far (.inr e); omega) (fun e2 => c.ne i e2 e))
  · intro i e1 e2
    rcases far i e1 with e | e
    · exact c.ne i e e2
    · have := c.far (.inr e2); omega
/-- An instruction is written over. -/
theorem Cw.arg {id off m cc : Nat} (c : Cw h kp vN vR L R u ln fn vT (.slice (some ⟨id, off, none⟩) m cc)) (w : Wf h) {z : Nat} {a : Int} (hz : z < u.li.length) {h3 : AH} (hm : m = u.li.length) (hcc : cc = 2) (o : Own h3 id off m 2 (putL (u.li.map encN).flatten (z * 2 + 1) [.int .i64 a])) (x : Wr h h3 id) :
    Cw h3 kp vN vR L R (setArg u z a) ln fn vT (.slice (some ⟨id, off, none⟩) m cc) ∧ Fc kp h h3 vT (.slice (some ⟨id, off, none⟩) m cc) vT (.slice (some ⟨id, off, none⟩) m cc) := by
  subst hm hcc
  have lo := c.gL.wr w.lin x
  have fid := c.far (i := id) (.inr rfl)
  have ow : Own h id off u.li.length 2 (u.li.map encN).flatten := by
    rcases c.gL.gr with ⟨q, e, _⟩ | ⟨id', off', n', e, _, o'⟩
    · cases e
    · injection e with e1 e2 _
      injection e1 with e1
      injection e1 with e1 e3
      subst e1 e3 e2
      exact o'
  have wv := x.toV (m := u.li.length) (c := 2) w.fit ow
  have low : ∀ i, i < kp → h3.ob i = h.ob i := fun i hi => lo i (by omega)
  have ef : putL (u.li.map encN).flatten (z * 2 + 1) [.int .i64 a] = ((setArg u z a).li.map encN).flatten := by
    refine putL_flat (enc := encN) (c := 2) (fun _ => rfl) u.li z hz 1 [.int .i64 a] ⟨(u.li.getD z ⟨0, 0⟩).op, a⟩ (by show 1 + 1 ≤ 2; omega) ?_
    rw [show u.li.getD z ⟨0, 0⟩ = u.li[z] by simp [hz]]
    rfl
  refine ⟨⟨(x.solo w.fit c.pt (by omega)).trans c.pt, by rw [x.n]; exact c.lt, ⟨c.rd.nodes.keep (by rw [x.n]; exact Nat.le_refl _) (fun i e => low i (c.lo i (.inl e))), fun y hy => (c.rd.kids y hy).keep (by rw [x.n]; exact Nat.le_refl _) (fun i e => low i (c.lo i (.inr (.inr ⟨y, hy, e⟩)))), c.rd.rules.keep (by rw [x.n]; exact Nat.le_refl _) (fun i e => low i (c.lo i (.inr (.inl e))))⟩, c.lo, ?_, ?_, c.ne⟩, ⟨by rw [x.n]; exact Nat.le_refl _, low, fun i _ _ _ e l => wv.ob i e l, fun _ e => .inl e, fun _ e => .inl e⟩⟩
  · exact c.gT.keep (by rw [x.n]; exact Nat.le_refl _) (fun i e => wv.ob i (c.ne i e) (c.gT.gr.live e))
  · refine ⟨.inr ⟨id, off, u.li.length, rfl, fid.1, ?_⟩, ?_⟩
    · rw [ef] at o; exact o
    · exact c.gL.lo.wr x off u.li.length 2
end Go.Sim
