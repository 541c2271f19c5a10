/- Parts of the proof of the row: the ground, contracts of the functions that it reaches (U9, SimCutW, U10, U11, SimRow2). Conditions: those that each theorem names. -/
import Derived.Test.YtcggnolnakgkeaaDoorB5
namespace Go.Proofs.YtcggnolnakgkeaaDoor
open Go Go.Sim Go.Proofs
set_option linter.unusedSimpArgs false
set_option linter.unusedVariables false
set_option maxRecDepth 100000
set_option maxHeartbeats 1000000
theorem Filled.flat {α : Type} {k : Nat} {enc : α → List Value} (he : ∀ x, (enc x).length = k) : ∀ {l : List α} {cs : List Value}, Filled k enc l cs l.length → cs = (l.map enc).flatten
  | [], cs, w => by
    have := w.1
    simp only [List.length_nil, Nat.zero_mul] at this
    simpa using List.eq_nil_of_length_eq_zero this
  | x :: r, cs, w => by
    have h0 := w.2 0 (by simp) (by simp)
    simp only [Nat.zero_mul, List.drop_zero, List.getElem_cons_zero] at h0
    have hl := w.1
    simp only [List.length_cons, Nat.succ_mul] at hl
    have ih := Filled.flat he (l := r) (cs := cs.drop k) ⟨by rw [List.length_drop]; omega, fun j hj _ => by
      have := w.2 (j + 1) (by simpa using hj) (by simpa using hj)
      rw [List.drop_drop]
      rw [Nat.succ_mul, Nat.add_comm] at this
      simpa using this⟩
    rw [List.map_cons, List.flatten_cons, ← ih, ← h0, List.take_append_drop]
theorem toStore_o (s : Store) (A B : Option Addr) (ca cb : Nat) (h : AH) (hR : RdS h A B s) (hz : Sz s) :
    CC Tryd.prog 14 [.agg #[.slice A s.vars.length ca, .slice B s.cells.length cb, .string s.out]] h (fun v h' => ∃ vA vB, v = .agg #[vA, vB, .string s.out] ∧ OwnT h h' vA vB s ∧ Pre h h') := by
  refine CC.withBig (fun big => ?_)
  have hA := hR.vars
  have hB := hR.cells
  have hnv := hz.nv
  have hnc := hz.nc
  refine CC.ofN Tryd.func14 Tryd.ntmps14 Tryd.results14 rfl (by decide) (by kernel_rfl) ?_
  simp (maxSteps := 1000000) -implicitDefEqProofs only [push_cast, seval]
  have p1 : Pre h (((h.alloc (AOb.cells [Value.slice A s.vars.length ca, Value.slice B s.cells.length cb, Value.string s.out] Stat.solo h.n)).alloc (AOb.cells [Value.slice none 0 0, Value.slice none 0 0, Value.string ⟨#[]⟩] Stat.solo (h.n + 1))).alloc (AOb.cells [Value.slice none 0 0, Value.slice none 0 0, Value.string ⟨#[]⟩] Stat.solo (h.n + 2))) := (((Pre.refl _).alloc _).alloc _).alloc _
  with_reducible refine CC.mono (toVarS_c s.vars A ca _ (hA.pre big p1) hnv) (fun v h1 hv => ?_)
  with_reducible refine Exists.elim hv (fun cs hv => ?_)
  have e1 := hv.1
  have e2 := hv.2.1
  have f1 := hv.2.2
  clear hv
  subst e1 e2
  simp (maxSteps := 1000000) -implicitDefEqProofs only [push_cast, seval]
  have p2 : Pre h (((((h.alloc (AOb.cells [Value.slice A s.vars.length ca, Value.slice B s.cells.length cb, Value.string s.out] Stat.solo h.n)).alloc (AOb.cells [Value.slice none 0 0, Value.slice none 0 0, Value.string ⟨#[]⟩] Stat.solo (h.n + 1))).alloc (AOb.cells [Value.slice none 0 0, Value.slice none 0 0, Value.string ⟨#[]⟩] Stat.solo (h.n + 2))).alloc (AOb.cells cs Stat.solo (h.n + 3))).set (h.n + 2) (AOb.cells [Value.slice (some ⟨h.n + 3, 0, none⟩) s.vars.length 2, Value.slice none 0 0, Value.string ⟨#[]⟩] Stat.solo (h.n + 2))) := (p1.alloc _).set (by omega) _
  with_reducible refine CC.mono (toCellS_c s.cells B cb _ (hB.pre big p2) hnc) (fun v h1 hv => ?_)
  with_reducible refine Exists.elim hv (fun cs2 hv => ?_)
  have e1 := hv.1
  have e2 := hv.2.1
  have f2 := hv.2.2
  clear hv
  subst e1 e2
  have c1 := Filled.flat (k := 2) (enc := Var.enc) (fun _ => rfl) f1
  have c2 := Filled.flat (k := 3) (enc := Cell.enc) (fun _ => rfl) f2
  have z1 := f1.1
  have z2 := f2.1
  simp (maxSteps := 1000000) -implicitDefEqProofs only [push_cast, seval]
  refine ⟨_, _, rfl, ⟨.inr ⟨h.n + 3, 0, s.vars.length, rfl, by omega, ?_⟩, .inr ⟨h.n + 4, 0, s.cells.length, rfl, by omega, ?_⟩, fun i e e' => ?_⟩, ?_⟩
  · rw [← c1]
    exact ⟨by show h.n + 3 < h.n + 5; omega, z1, cs, .solo, h.n + 3, by simp [AH.set, AH.alloc], .inl rfl, by omega, rfl⟩
  · rw [← c2]
    exact ⟨by show h.n + 4 < h.n + 5; omega, z2, cs2, .solo, h.n + 4, by simp [AH.set, AH.alloc], .inl rfl, by omega, rfl⟩
  · simp only [atBlock] at e e'
    omega
  · refine Pre.set (Pre.set (p2.alloc _) ?_ _) ?_ _ <;> omega
end Go.Proofs.YtcggnolnakgkeaaDoor
/- A step of a walk, cut off by what stands behind it. Conditions: none. -/
set_option linter.unusedVariables false
namespace Go.Sim
variable {P : Program} {h : AH}
theorem WC.cutA {α : Type} {c : Code} {Q : Exit → List Value → AH → Prop} {t : List Value} (V D : List Nat) (vals : α → List Value) (J : α → AH → Prop)
    (h1 : WC P c (thn (fun t' h'' => ∃ b, t' = setF (setL t V (vals b)) (fun j => t'.getD j undef) D ∧ J b h'') Q) t h)
    (h2 : ∀ a g h', J a h' → Q .normal (setF (setL t V (vals a)) g D) h') : WC P c Q t h :=
  WC.mono h1 (fun ex t' h' q => by
    cases ex with
    | normal =>
      obtain ⟨b, e, j⟩ := q
      rw [e]
      exact h2 b _ h' j
    | _ => exact q)
end Go.Sim
namespace Go.Proofs.YtcggnolnakgkeaaDoor
open Go Go.Sim Go.Proofs
set_option linter.unusedSimpArgs false
set_option linter.unusedVariables false
set_option maxRecDepth 100000
set_option maxHeartbeats 1000000
theorem varW_le {l : List Var} {x : Var} (hx : x ∈ l) : x.name.size + x.val.size ≤ varW l l.length := by
  obtain ⟨i, hi, rfl⟩ := List.mem_iff_getElem.1 hx
  have := varW_succ hi
  have := varW_mono (l := l) (i := i + 1) (j := l.length) hi (Nat.le_refl _)
  omega
theorem cellW_le {l : List Cell} {x : Cell} (hx : x ∈ l) : x.name.size + x.key.size + x.val.size ≤ cellW l l.length := by
  obtain ⟨i, hi, rfl⟩ := List.mem_iff_getElem.1 hx
  have := cellW_succ hi
  have := cellW_mono (l := l) (i := i + 1) (j := l.length) hi (Nat.le_refl _)
  omega
theorem SzA.szB {s : Store} (h : storeW s ≤ 1048576) : SzB s := by
  simp only [storeW] at h
  exact ⟨fun x hx => by have := varW_le hx; omega, fun x hx => by have := cellW_le hx; omega, by omega, by omega, by omega⟩
theorem OwnT_rds {h0 h : AH} {vA vB : Value} {st : Store} (o : OwnT h0 h vA vB st) : ∃ A B ca cb, vA = .slice A st.vars.length ca ∧ vB = .slice B st.cells.length cb ∧ RdS h A B st := o.rdt.rds
theorem eqStore_t (h : AH) (vA vB wA wB : Value) (s t : Store) (oa : RdT h vA vB s) (ob : RdT h wA wB t) (zs : Sz s) (zt : Sz t) :
    CD Tryd.prog 15 [.agg #[vA, vB, .string s.out], .agg #[wA, wB, .string t.out]] h (.bool (decide (s = t))) h := by
  obtain ⟨A, B, ca, cb, rfl, rfl, ra⟩ := oa.rds
  obtain ⟨C, D, cc, cd, rfl, rfl, rb⟩ := ob.rds
  exact eqStore_c s t A B C D ca cb cc cd h ra rb zs zt
theorem markStore_t (h0 h : AH) (vA vB : Value) (st : Store) (u : ByteArray) (k nv nc : Nat) (o : OwnT h0 h vA vB st) (ev : st.vars.length = nv) (ec : st.cells.length = nc) (k0 : 0 < k) (hk : k < 100000000) (hv : nv < 274877906944) (hc : nc < 274877906944) :
    CC Tryd.prog 16 [.agg #[vA, vB, .string u], .int .i64 (k : Nat)] h (fun r h' => r = .int .i64 ((k + nv * 2 + nc * 3 : Nat) : Int) ∧ MkS h' vA vB nv nc k ∧ h.n ≤ h'.n ∧ ∀ j, j < h.n → ¬ (atBlock vA j ∨ atBlock vB j) → live h j → h'.ob j = h.ob j) := by
  have o1 := o.one
  have b := o.a
  have d := o.b
  have c := o.ne
  have q1 := o1.1
  have q2 := o1.2
  have l1 := vars_len st
  have l2 := cells_len st
  rw [ev] at l1
  rw [ec] at l2
  with_reducible refine nameN (k + nv * 2) (fun K1 hK1 => ?_)
  refine CC.ofN Tryd.func16 Tryd.ntmps16 Tryd.results16 rfl (by decide) (by kernel_rfl) ?_
  simp (maxSteps := 1000000) -implicitDefEqProofs only [push_cast, seval, q1, q2]
  with_reducible refine CC.mono (markV_any _ nv k vA _ _ (b.alloc _) l1 k0 (by omega) hv) (fun v h1 hv => ?_)
  have e1 := hv.1
  have g1 := hv.2.1
  have w1 := hv.2.2
  clear hv
  rw [← hK1] at e1
  subst e1
  have ox : h1.ob h.n = AOb.cells [vA, vB, Value.string u] .solo h.n := (w1.ob h.n (fun e => by have := b.range e; omega) (.inl ⟨h.n, ⟨_, _, alloc_same _, .inl rfl⟩⟩)).trans (alloc_same _)
  have lx : h.n < h1.n := by rw [w1.n]; exact lt_alloc _
  have kd : ∀ i, atBlock vB i → h1.ob i = (h.alloc (AOb.cells [vA, vB, Value.string u] .solo h.n)).ob i := fun i hi => w1.ob i (fun e => c i e hi) ((d.alloc _).live hi)
  have d1 : Gr h0.n h1 vB 3 _ := (d.alloc _).keep (by rw [w1.n]; exact Nat.le_refl _) kd
  simp (maxSteps := 1000000) -implicitDefEqProofs only [push_cast, seval, ox, lx, rd_of ox, rd1_of ox]
  with_reducible refine CC.mono (markC_any _ nc K1 vB _ _ d1 l2 (by omega) (by omega) hc) (fun v h2 hv => ?_)
  have e1 := hv.1
  have g2 := hv.2.1
  have w2 := hv.2.2
  clear hv
  subst e1
  simp (maxSteps := 1000000) -implicitDefEqProofs only [push_cast, seval]
  rw [hK1] at g2
  refine ⟨by rw [hK1]; push_cast; rfl, ⟨_, _, g1.keep (by rw [w2.n]; exact Nat.le_refl _) (fun i hi => w2.ob i (fun e => c i hi e) (g1.live hi)), g2⟩, by rw [w2.n]; omega, fun j hj hb hl => ?_⟩
  have e1 : h1.ob j = h.ob j := (w1.ob j (fun e => hb (.inl e)) (live.of hl (alloc_lt _ hj))).trans (alloc_lt _ hj)
  exact (w2.ob j (fun e => hb (.inr e)) (live.of hl e1)).trans e1
end Go.Proofs.YtcggnolnakgkeaaDoor
namespace Go.Proofs.YtcggnolnakgkeaaDoor
open Go Go.Sim Go.Proofs
set_option linter.unusedSimpArgs false
set_option linter.unusedVariables false
set_option maxRecDepth 100000
set_option maxHeartbeats 2000000
theorem Pow_pre {h h' : AH} {g : Nat} (p : Pre h h') (hg : g < h.n) (ht : Pow g h) : Pow g h' := (p.ob _ hg).trans ht
theorem nameI1 (n : Int) {G : Prop} (k : ∀ N, N = n → G) : G := k n rfl
theorem eqStore_r (h : AH) (vA vB wA wB : Value) (s : Store) (oa : RdT h vA vB s) (ob : RdT h wA wB s) (zs : Sz s) :
    CD Tryd.prog 15 [.agg #[vA, vB, .string s.out], .agg #[wA, wB, .string s.out]] h (.bool true) h := by
  have := eqStore_t h vA vB wA wB s s oa ob zs zs
  rwa [decide_eq_true (rfl : s = s)] at this
theorem law_MergeDelta (s d : Store) (A B C D : Option Addr) (ca cb cc cd : Nat) (h : AH) (hR : RdS h A B s) (hQ : RdS h C D d) (z0 : SzA s) (z1 : SzA d) (big : Big h) (hlv : ∀ j, (h.ob j).own = none) (ht : Pow 3 h) (hg : 3 < h.n) :
    CE Tryd.prog 4 [.agg #[.slice A s.vars.length ca, .slice B s.cells.length cb, .string s.out], .agg #[.slice C d.vars.length cc, .slice D d.cells.length cd, .string d.out]] h fun v _ => v = .bool true := by
  refine CE.ofN Tryd.func4 Tryd.ntmps4 Tryd.results4 rfl (by kernel_rfl) ?_
  simp (maxSteps := 1000000) -implicitDefEqProofs only [push_cast, seval]
  have pb : Pre h ((h.alloc (AOb.cells [.slice A s.vars.length ca, .slice B s.cells.length cb, .string s.out] .solo h.n)).alloc (AOb.cells [.slice C d.vars.length cc, .slice D d.cells.length cd, .string d.out] .solo (h.n + 1))) := ((Pre.refl h).alloc _).alloc _
  have hn0 : ((h.alloc (AOb.cells [.slice A s.vars.length ca, .slice B s.cells.length cb, .string s.out] .solo h.n)).alloc (AOb.cells [.slice C d.vars.length cc, .slice D d.cells.length cd, .string d.out] .solo (h.n + 1))).n = h.n + 2 := rfl
  have oS : ((h.alloc (AOb.cells [.slice A s.vars.length ca, .slice B s.cells.length cb, .string s.out] .solo h.n)).alloc (AOb.cells [.slice C d.vars.length cc, .slice D d.cells.length cd, .string d.out] .solo (h.n + 1))).ob h.n = AOb.cells [.slice A s.vars.length ca, .slice B s.cells.length cb, .string s.out] .solo h.n := (alloc_lt _ (by show h.n < h.n + 1; omega)).trans (alloc_same _)
  have oD : ((h.alloc (AOb.cells [.slice A s.vars.length ca, .slice B s.cells.length cb, .string s.out] .solo h.n)).alloc (AOb.cells [.slice C d.vars.length cc, .slice D d.cells.length cd, .string d.out] .solo (h.n + 1))).ob (h.n + 1) = AOb.cells [.slice C d.vars.length cc, .slice D d.cells.length cd, .string d.out] .solo (h.n + 1) := alloc_same _
  generalize ((h.alloc (AOb.cells [.slice A s.vars.length ca, .slice B s.cells.length cb, .string s.out] .solo h.n)).alloc (AOb.cells [.slice C d.vars.length cc, .slice D d.cells.length cd, .string d.out] .solo (h.n + 1))) = H0 at pb hn0 oS oD
  have r0 : RdS H0 A B s := ⟨hR.vars.pre big pb, hR.cells.pre big pb⟩
  have q0 : RdS H0 C D d := ⟨hQ.vars.pre big pb, hQ.cells.pre big pb⟩
  with_reducible refine CD.to (szStore_c s A B ca cb 1048576 _ r0 z0 (by omega)) ?_
  with_reducible refine nameI1 (if (1048576 : Int) - storeW s < 0 then -1 else 1048576 - storeW s) (fun w1 h1 => ?_)
  rw [← h1]
  have lS : h.n < H0.n := by omega
  have lD : h.n + 1 < H0.n := by omega
  simp (maxSteps := 1000000) -implicitDefEqProofs only [push_cast, seval, oS, rd_of oS, rd1_of oS, oD, rd_of oD, rd1_of oD, lS, lD]
  with_reducible refine bcase_d (fun hb => ?_) (fun hb => ?_)
  · simp (maxSteps := 1000000) -implicitDefEqProofs only [push_cast, seval]
  have ws : storeW s ≤ 1048576 := by
    by_cases e : (1048576 : Int) - storeW s < 0
    · rw [if_pos e] at h1; omega
    · omega
  have w1v : w1 = 1048576 - storeW s := by rw [h1, if_neg (by omega)]
  simp (maxSteps := 1000000) -implicitDefEqProofs only [push_cast, seval, oS, rd_of oS, rd1_of oS, oD, rd_of oD, rd1_of oD, lS, lD]
  with_reducible refine CD.to (szStore_c d C D cc cd w1 _ q0 z1 (by omega)) ?_
  with_reducible refine nameI1 (if w1 - storeW d < 0 then -1 else w1 - storeW d) (fun w2 h2 => ?_)
  rw [← h2]
  simp (maxSteps := 1000000) -implicitDefEqProofs only [push_cast, seval, oS, rd_of oS, rd1_of oS, oD, rd_of oD, rd1_of oD, lS, lD]
  with_reducible refine bcase_d (fun hb2 => ?_) (fun hb2 => ?_)
  · simp (maxSteps := 1000000) -implicitDefEqProofs only [push_cast, seval]
  have wd : storeW d ≤ 1048576 := by
    by_cases e : w1 - storeW d < 0
    · rw [if_pos e] at h2; omega
    · omega
  have zs : SzB s := SzA.szB ws
  have zd : SzB d := SzA.szB wd
  clear h1 h2 w1v
  simp (maxSteps := 1000000) -implicitDefEqProofs only [push_cast, seval, oS, rd_of oS, rd1_of oS, oD, rd_of oD, rd1_of oD, lS, lD]
  refine WC.cutA [6] [24, 25, 26, 27, 28] (fun a : Nat × Value × Value => [.pointer (some ⟨a.1, 0, none⟩)]) (fun a h' => h'.ob a.1 = AOb.cells [a.2.1, a.2.2, .string (mergeD s d).out] .solo a.1 ∧ OwnT H0 h' a.2.1 a.2.2 (mergeD s d) ∧ (∀ j, atBlock a.2.1 j ∨ atBlock a.2.2 j → j ≠ a.1) ∧ Pre H0 h' ∧ H0.n ≤ a.1 ∧ a.1 < h'.n) ?_ ?_
  · refine WC.drawT (by kernel_rfl) (by kernel_rfl) (.q 0 (.q 2 (.b 1 (.b 3 (.b 4 (.a 5 false (.a 6 true (.done))) 5 (.a 4 true (.a 6 true (.done)))) 5 (.a 3 false (.a 4 true (.a 6 true (.done))))) 5 (.a 1 false (.a 3 false (.a 4 true (.a 6 true (.done)))))))) (by kernel_rfl) ?_
    simp (maxSteps := 1000000) -implicitDefEqProofs only [push_cast, seval, oS, rd_of oS, rd1_of oS, oD, rd_of oD, rd1_of oD, lS, lD]
    refine And.intro ?_ ?_
    · with_reducible refine CC.mono (toStore_o s A B ca cb _ ⟨hR.vars.pre big (pb.trans (Pre.refl _)), hR.cells.pre big (pb.trans (Pre.refl _))⟩ zs.sz) (fun v u1 hv => ?_)
      with_reducible refine Exists.elim hv (fun vA hv => ?_)
      with_reducible refine Exists.elim hv (fun vB hv => ?_)
      have e1 := hv.1
      have ou1 := hv.2.1
      have qu1 := hv.2.2
      clear hv
      subst e1
      have Pu1 : Pre H0 u1 := ((Pre.refl _).trans qu1)
      have lu1 := Pu1.n
      have Su1 := (Pu1.ob h.n lS).trans oS
      have Du1 := (Pu1.ob (h.n + 1) lD).trans oD
      have LSu1 : h.n < u1.n := by omega
      have LDu1 : h.n + 1 < u1.n := by omega
      have yau1 := ou1.one.1
      have ybu1 := ou1.one.2
      simp (maxSteps := 1000000) -implicitDefEqProofs only [push_cast, seval, oS, rd_of oS, rd1_of oS, oD, rd_of oD, rd1_of oD, lS, lD, Su1, rd_of Su1, rd1_of Su1, Du1, rd_of Du1, rd1_of Du1, LSu1, LDu1, yau1, ybu1]
      refine And.intro ?_ ?_
      · with_reducible refine CC.mono (toStore_o d C D cc cd _ ⟨hQ.vars.pre big (pb.trans Pu1), hQ.cells.pre big (pb.trans Pu1)⟩ zd.sz) (fun v u2 hv => ?_)
        with_reducible refine Exists.elim hv (fun wA hv => ?_)
        with_reducible refine Exists.elim hv (fun wB hv => ?_)
        have e1 := hv.1
        have ou2 := hv.2.1
        have qu2 := hv.2.2
        clear hv
        subst e1
        have Pu2 : Pre H0 u2 := (Pu1.trans qu2)
        have lu2 := Pu2.n
        have Su2 := (Pu2.ob h.n lS).trans oS
        have Du2 := (Pu2.ob (h.n + 1) lD).trans oD
        have LSu2 : h.n < u2.n := by omega
        have LDu2 : h.n + 1 < u2.n := by omega
        have yau2 := ou2.one.1
        have ybu2 := ou2.one.2
        simp (maxSteps := 1000000) -implicitDefEqProofs only [push_cast, seval, oS, rd_of oS, rd1_of oS, oD, rd_of oD, rd1_of oD, lS, lD, Su1, rd_of Su1, rd1_of Su1, Du1, rd_of Du1, rd1_of Du1, LSu1, LDu1, yau1, ybu1, Su2, rd_of Su2, rd1_of Su2, Du2, rd_of Du2, rd1_of Du2, LSu2, LDu2, yau2, ybu2]
        refine And.intro ?_ ?_
        · have r1 : RdT u2 vA vB s := ou1.rdt.pre qu2
          with_reducible refine CC.mono (MergeDelta_s s d vA vB wA wB _ (r1) (ou2.rdt) zs zd) (fun v u3 hv => ?_)
          with_reducible refine Exists.elim hv (fun tA hv => ?_)
          with_reducible refine Exists.elim hv (fun tB hv => ?_)
          have e1 := hv.1
          have ou3 := hv.2.1
          have qu3 := hv.2.2
          clear hv
          subst e1
          have Pu3 : Pre H0 u3 := (Pu2.trans qu3)
          have lu3 := Pu3.n
          have Su3 := (Pu3.ob h.n lS).trans oS
          have Du3 := (Pu3.ob (h.n + 1) lD).trans oD
          have LSu3 : h.n < u3.n := by omega
          have LDu3 : h.n + 1 < u3.n := by omega
          have yau3 := ou3.one.1
          have ybu3 := ou3.one.2
          simp (maxSteps := 1000000) -implicitDefEqProofs only [push_cast, seval, oS, rd_of oS, rd1_of oS, oD, rd_of oD, rd1_of oD, lS, lD, Su1, rd_of Su1, rd1_of Su1, Du1, rd_of Du1, rd1_of Du1, LSu1, LDu1, yau1, ybu1, Su2, rd_of Su2, rd1_of Su2, Du2, rd_of Du2, rd1_of Du2, LSu2, LDu2, yau2, ybu2, Su3, rd_of Su3, rd1_of Su3, Du3, rd_of Du3, rd1_of Du3, LSu3, LDu3, yau3, ybu3]
          have hX : H0.n ≤ u3.n := lu3
          have bX : ∀ j, atBlock tA j ∨ atBlock tB j → j ≠ u3.n := fun j e => by
            have := (ou3.range e).2
            omega
          exact ⟨(u3.n, tA, tB), by kernel_rfl, ⟨set_same _ _, (ou3.mono lu2).to (Nat.le_succ _) (fun i e => (set_ne _ (bX i e)).trans (alloc_lt _ (ou3.range e).2)), bX, (Pu3.alloc _).set hX _, hX, Nat.lt_succ_self _⟩⟩
        · have r1 : RdT u2 vA vB s := ou1.rdt.pre qu2
          with_reducible refine CC.mono (MergeDelta_s s d vA vB wA wB _ (r1.pre ((Pre.refl u2).alloc _)) (ou2.rdt.pre ((Pre.refl u2).alloc _)) zs zd) (fun v u3 hv => ?_)
          with_reducible refine Exists.elim hv (fun tA hv => ?_)
          with_reducible refine Exists.elim hv (fun tB hv => ?_)
          have e1 := hv.1
          have ou3 := hv.2.1
          have qu3 := hv.2.2
          clear hv
          subst e1
          have Pu3 : Pre H0 u3 := ((Pu2.alloc _).trans qu3)
          have lu3 := Pu3.n
          have Su3 := (Pu3.ob h.n lS).trans oS
          have Du3 := (Pu3.ob (h.n + 1) lD).trans oD
          have LSu3 : h.n < u3.n := by omega
          have LDu3 : h.n + 1 < u3.n := by omega
          have yau3 := ou3.one.1
          have ybu3 := ou3.one.2
          have Gu3 : u3.ob (u2.n) = AOb.cells [.slice none 0 0, .slice none 0 0, .string ⟨#[]⟩] .solo (u2.n) := (qu3.ob _ (lt_alloc _)).trans (alloc_same _)
          have LGu3 : u2.n < u3.n := Nat.lt_of_lt_of_le (lt_alloc _) qu3.n
          simp (maxSteps := 1000000) -implicitDefEqProofs only [push_cast, seval, oS, rd_of oS, rd1_of oS, oD, rd_of oD, rd1_of oD, lS, lD, Su1, rd_of Su1, rd1_of Su1, Du1, rd_of Du1, rd1_of Du1, LSu1, LDu1, yau1, ybu1, Su2, rd_of Su2, rd1_of Su2, Du2, rd_of Du2, rd1_of Du2, LSu2, LDu2, yau2, ybu2, Gu3, rd_of Gu3, rd1_of Gu3, LGu3, Su3, rd_of Su3, rd1_of Su3, Du3, rd_of Du3, rd1_of Du3, LSu3, LDu3, yau3, ybu3]
          have hX : H0.n ≤ u2.n := lu2
          have bX : ∀ j, atBlock tA j ∨ atBlock tB j → j ≠ u2.n := fun j e => by
            have : u2.n + 1 ≤ j := (ou3.range e).1
            omega
          exact ⟨(u2.n, tA, tB), by kernel_rfl, ⟨set_same _ _, (ou3.mono (Nat.le_succ_of_le lu2)).to (Nat.le_refl _) (fun i e => set_ne _ (bX i e)), bX, (Pu3).set hX _, hX, LGu3⟩⟩
      · with_reducible refine CC.mono (toStore_o d C D cc cd _ ⟨hQ.vars.pre big (pb.trans (Pu1.alloc _)), hQ.cells.pre big (pb.trans (Pu1.alloc _))⟩ zd.sz) (fun v u2 hv => ?_)
        with_reducible refine Exists.elim hv (fun wA hv => ?_)
        with_reducible refine Exists.elim hv (fun wB hv => ?_)
        have e1 := hv.1
        have ou2 := hv.2.1
        have qu2 := hv.2.2
        clear hv
        subst e1
        have Pu2 : Pre H0 u2 := ((Pu1.alloc _).trans qu2)
        have lu2 := Pu2.n
        have Su2 := (Pu2.ob h.n lS).trans oS
        have Du2 := (Pu2.ob (h.n + 1) lD).trans oD
        have LSu2 : h.n < u2.n := by omega
        have LDu2 : h.n + 1 < u2.n := by omega
        have yau2 := ou2.one.1
        have ybu2 := ou2.one.2
        have Gu2 : u2.ob (u1.n) = AOb.cells [.slice none 0 0, .slice none 0 0, .string ⟨#[]⟩] .solo (u1.n) := (qu2.ob _ (lt_alloc _)).trans (alloc_same _)
        have LGu2 : u1.n < u2.n := Nat.lt_of_lt_of_le (lt_alloc _) qu2.n
        simp (maxSteps := 1000000) -implicitDefEqProofs only [push_cast, seval, oS, rd_of oS, rd1_of oS, oD, rd_of oD, rd1_of oD, lS, lD, Su1, rd_of Su1, rd1_of Su1, Du1, rd_of Du1, rd1_of Du1, LSu1, LDu1, yau1, ybu1, Gu2, rd_of Gu2, rd1_of Gu2, LGu2, Su2, rd_of Su2, rd1_of Su2, Du2, rd_of Du2, rd1_of Du2, LSu2, LDu2, yau2, ybu2]
        have r1 : RdT u2 vA vB s := ou1.rdt.pre (((Pre.refl u1).alloc _).trans qu2)
        with_reducible refine CC.mono (MergeDelta_s s d vA vB wA wB _ (r1) (ou2.rdt) zs zd) (fun v u3 hv => ?_)
        with_reducible refine Exists.elim hv (fun tA hv => ?_)
        with_reducible refine Exists.elim hv (fun tB hv => ?_)
        have e1 := hv.1
        have ou3 := hv.2.1
        have qu3 := hv.2.2
        clear hv
        subst e1
        have Pu3 : Pre H0 u3 := (Pu2.trans qu3)
        have lu3 := Pu3.n
        have Su3 := (Pu3.ob h.n lS).trans oS
        have Du3 := (Pu3.ob (h.n + 1) lD).trans oD
        have LSu3 : h.n < u3.n := by omega
        have LDu3 : h.n + 1 < u3.n := by omega
        have yau3 := ou3.one.1
        have ybu3 := ou3.one.2
        have Gu3 : u3.ob (u1.n) = AOb.cells [.slice none 0 0, .slice none 0 0, .string ⟨#[]⟩] .solo (u1.n) := (qu3.ob _ LGu2).trans Gu2
        have LGu3 : u1.n < u3.n := Nat.lt_of_lt_of_le LGu2 qu3.n
        simp (maxSteps := 1000000) -implicitDefEqProofs only [push_cast, seval, oS, rd_of oS, rd1_of oS, oD, rd_of oD, rd1_of oD, lS, lD, Su1, rd_of Su1, rd1_of Su1, Du1, rd_of Du1, rd1_of Du1, LSu1, LDu1, yau1, ybu1, Gu2, rd_of Gu2, rd1_of Gu2, LGu2, Su2, rd_of Su2, rd1_of Su2, Du2, rd_of Du2, rd1_of Du2, LSu2, LDu2, yau2, ybu2, Gu3, rd_of Gu3, rd1_of Gu3, LGu3, Su3, rd_of Su3, rd1_of Su3, Du3, rd_of Du3, rd1_of Du3, LSu3, LDu3, yau3, ybu3]
        have hX : H0.n ≤ u1.n := lu1
        have bX : ∀ j, atBlock tA j ∨ atBlock tB j → j ≠ u1.n := fun j e => by
          have h1 : u2.n ≤ j := (ou3.range e).1
          have h2 := LGu2
          omega
        exact ⟨(u1.n, tA, tB), by kernel_rfl, ⟨set_same _ _, (ou3.mono (by omega)).to (Nat.le_refl _) (fun i e => set_ne _ (bX i e)), bX, (Pu3).set hX _, hX, LGu3⟩⟩
    · with_reducible refine CC.mono (toStore_o s A B ca cb _ ⟨hR.vars.pre big (pb.trans ((Pre.refl _).alloc _)), hR.cells.pre big (pb.trans ((Pre.refl _).alloc _))⟩ zs.sz) (fun v u1 hv => ?_)
      with_reducible refine Exists.elim hv (fun vA hv => ?_)
      with_reducible refine Exists.elim hv (fun vB hv => ?_)
      have e1 := hv.1
      have ou1 := hv.2.1
      have qu1 := hv.2.2
      clear hv
      subst e1
      have Pu1 : Pre H0 u1 := (((Pre.refl _).alloc _).trans qu1)
      have lu1 := Pu1.n
      have Su1 := (Pu1.ob h.n lS).trans oS
      have Du1 := (Pu1.ob (h.n + 1) lD).trans oD
      have LSu1 : h.n < u1.n := by omega
      have LDu1 : h.n + 1 < u1.n := by omega
      have yau1 := ou1.one.1
      have ybu1 := ou1.one.2
      have Gu1 : u1.ob (H0.n) = AOb.cells [.slice none 0 0, .slice none 0 0, .string ⟨#[]⟩] .solo (H0.n) := (qu1.ob _ (lt_alloc _)).trans (alloc_same _)
      have LGu1 : H0.n < u1.n := Nat.lt_of_lt_of_le (lt_alloc _) qu1.n
      simp (maxSteps := 1000000) -implicitDefEqProofs only [push_cast, seval, oS, rd_of oS, rd1_of oS, oD, rd_of oD, rd1_of oD, lS, lD, Gu1, rd_of Gu1, rd1_of Gu1, LGu1, Su1, rd_of Su1, rd1_of Su1, Du1, rd_of Du1, rd1_of Du1, LSu1, LDu1, yau1, ybu1]
      with_reducible refine CC.mono (toStore_o d C D cc cd _ ⟨hQ.vars.pre big (pb.trans Pu1), hQ.cells.pre big (pb.trans Pu1)⟩ zd.sz) (fun v u2 hv => ?_)
      with_reducible refine Exists.elim hv (fun wA hv => ?_)
      with_reducible refine Exists.elim hv (fun wB hv => ?_)
      have e1 := hv.1
      have ou2 := hv.2.1
      have qu2 := hv.2.2
      clear hv
      subst e1
      have Pu2 : Pre H0 u2 := (Pu1.trans qu2)
      have lu2 := Pu2.n
      have Su2 := (Pu2.ob h.n lS).trans oS
      have Du2 := (Pu2.ob (h.n + 1) lD).trans oD
      have LSu2 : h.n < u2.n := by omega
      have LDu2 : h.n + 1 < u2.n := by omega
      have yau2 := ou2.one.1
      have ybu2 := ou2.one.2
      have Gu2 : u2.ob (H0.n) = AOb.cells [.slice none 0 0, .slice none 0 0, .string ⟨#[]⟩] .solo (H0.n) := (qu2.ob _ LGu1).trans Gu1
      have LGu2 : H0.n < u2.n := Nat.lt_of_lt_of_le LGu1 qu2.n
      simp (maxSteps := 1000000) -implicitDefEqProofs only [push_cast, seval, oS, rd_of oS, rd1_of oS, oD, rd_of oD, rd1_of oD, lS, lD, Gu1, rd_of Gu1, rd1_of Gu1, LGu1, Su1, rd_of Su1, rd1_of Su1, Du1, rd_of Du1, rd1_of Du1, LSu1, LDu1, yau1, ybu1, Gu2, rd_of Gu2, rd1_of Gu2, LGu2, Su2, rd_of Su2, rd1_of Su2, Du2, rd_of Du2, rd1_of Du2, LSu2, LDu2, yau2, ybu2]
      have r1 : RdT u2 vA vB s := ou1.rdt.pre qu2
      with_reducible refine CC.mono (MergeDelta_s s d vA vB wA wB _ (r1) (ou2.rdt) zs zd) (fun v u3 hv => ?_)
      with_reducible refine Exists.elim hv (fun tA hv => ?_)
      with_reducible refine Exists.elim hv (fun tB hv => ?_)
      have e1 := hv.1
      have ou3 := hv.2.1
      have qu3 := hv.2.2
      clear hv
      subst e1
      have Pu3 : Pre H0 u3 := (Pu2.trans qu3)
      have lu3 := Pu3.n
      have Su3 := (Pu3.ob h.n lS).trans oS
      have Du3 := (Pu3.ob (h.n + 1) lD).trans oD
      have LSu3 : h.n < u3.n := by omega
      have LDu3 : h.n + 1 < u3.n := by omega
      have yau3 := ou3.one.1
      have ybu3 := ou3.one.2
      have Gu3 : u3.ob (H0.n) = AOb.cells [.slice none 0 0, .slice none 0 0, .string ⟨#[]⟩] .solo (H0.n) := (qu3.ob _ LGu2).trans Gu2
      have LGu3 : H0.n < u3.n := Nat.lt_of_lt_of_le LGu2 qu3.n
      simp (maxSteps := 1000000) -implicitDefEqProofs only [push_cast, seval, oS, rd_of oS, rd1_of oS, oD, rd_of oD, rd1_of oD, lS, lD, Gu1, rd_of Gu1, rd1_of Gu1, LGu1, Su1, rd_of Su1, rd1_of Su1, Du1, rd_of Du1, rd1_of Du1, LSu1, LDu1, yau1, ybu1, Gu2, rd_of Gu2, rd1_of Gu2, LGu2, Su2, rd_of Su2, rd1_of Su2, Du2, rd_of Du2, rd1_of Du2, LSu2, LDu2, yau2, ybu2, Gu3, rd_of Gu3, rd1_of Gu3, LGu3, Su3, rd_of Su3, rd1_of Su3, Du3, rd_of Du3, rd1_of Du3, LSu3, LDu3, yau3, ybu3]
      have hX : H0.n ≤ H0.n := Nat.le_refl _
      have bX : ∀ j, atBlock tA j ∨ atBlock tB j → j ≠ H0.n := fun j e => by
        have h1 : u2.n ≤ j := (ou3.range e).1
        have h2 := LGu2
        omega
      exact ⟨(H0.n, tA, tB), by kernel_rfl, ⟨set_same _ _, (ou3.mono (Nat.le_trans lu1 (Nat.le_trans qu2.n (Nat.le_refl _)))).to (Nat.le_refl _) (fun i e => set_ne _ (bX i e)), bX, (Pu3).set hX _, hX, LGu3⟩⟩
  have zW : SzB (mergeD s d) := by
    have z := (zs.mergeV (l := d.vars) (fun x hx => (zd.vars x hx).1)).mergeC (l := d.cells) (fun x hx => (zd.cells x hx).1)
    exact ⟨z.vars, z.cells, by have := outB_size (s.out ++ d.out); show (outB (s.out ++ d.out)).size ≤ _; omega, z.nv, z.nc⟩
  generalize eW : mergeD s d = W at zW
  intro a g h1 hJ
  have k6 := hJ.1
  have oW := hJ.2.1
  have bW := hJ.2.2.1
  have P1 := hJ.2.2.2.1
  have L6 := hJ.2.2.2.2.1
  have M6 := hJ.2.2.2.2.2
  clear hJ
  generalize a.1 = p6 at *
  generalize a.2.1 = wA at *
  generalize a.2.2 = wB at *
  clear a
  have S1 : h1.ob h.n = _ := (P1.ob _ lS).trans oS
  have D1 : h1.ob (h.n + 1) = _ := (P1.ob _ lD).trans oD
  have l1 := P1.n
  have yW := oW.one
  have yWa := yW.1
  have yWb := yW.2
  clear yW
  simp (maxSteps := 1000000) -implicitDefEqProofs only [push_cast, seval, S1, rd_of S1, rd1_of S1, D1, rd_of D1, rd1_of D1, k6, rd_of k6, rd1_of k6]
  with_reducible refine CC.mono (toStore_o s A B ca cb _ ⟨hR.vars.pre big (pb.trans P1), hR.cells.pre big (pb.trans P1)⟩ zs.sz) (fun v u4 hv => ?_)
  with_reducible refine Exists.elim hv (fun xA hv => ?_)
  with_reducible refine Exists.elim hv (fun xB hv => ?_)
  have e1 := hv.1
  have oX := hv.2.1
  have q4 := hv.2.2
  clear hv
  subst e1
  have yXa := oX.one.1
  have yXb := oX.one.2
  have D4 : u4.ob (h.n + 1) = _ := (q4.ob _ (by omega)).trans D1
  have LD4 : h.n + 1 < u4.n := by have := q4.n; omega
  simp (maxSteps := 1000000) -implicitDefEqProofs only [push_cast, seval, D4, rd_of D4, rd1_of D4, LD4, yXa, yXb]
  generalize hH : ((u4.alloc (AOb.cells [.slice none 0 0, .slice none 0 0, .string ⟨#[]⟩] .solo u4.n)).set u4.n (AOb.cells [xA, xB, .string s.out] .solo u4.n)) = H5
  have q5 : Pre u4 H5 := by rw [← hH]; exact ((Pre.refl _).alloc _).set (Nat.le_refl _) _
  have k7 : H5.ob u4.n = AOb.cells [xA, xB, .string s.out] .solo u4.n := by rw [← hH]; exact set_same _ _
  have n5 : H5.n = u4.n + 1 := by rw [← hH]; rfl
  clear hH
  have P5 := P1.trans (q4.trans q5)
  with_reducible refine CC.mono (toStore_o d C D cc cd _ ⟨hQ.vars.pre big (pb.trans P5), hQ.cells.pre big (pb.trans P5)⟩ zd.sz) (fun v u5 hv => ?_)
  with_reducible refine Exists.elim hv (fun zA hv => ?_)
  with_reducible refine Exists.elim hv (fun zB hv => ?_)
  have e1 := hv.1
  have oZ := hv.2.1
  have q6 := hv.2.2
  clear hv
  subst e1
  have yZa := oZ.one.1
  have yZb := oZ.one.2
  have L7 : u4.n < u5.n := by have := q6.n; omega
  have k7' : u5.ob u4.n = _ := (q6.ob _ (by omega)).trans k7
  simp (maxSteps := 1000000) -implicitDefEqProofs only [push_cast, seval, k7', rd_of k7', rd1_of k7', L7, yZa, yZb, yXa, yXb]
  generalize hH : ((u5.alloc (AOb.cells [.slice none 0 0, .slice none 0 0, .string ⟨#[]⟩] .solo u5.n)).set u5.n (AOb.cells [zA, zB, .string d.out] .solo u5.n)) = H6
  have q7 : Pre u5 H6 := by rw [← hH]; exact ((Pre.refl _).alloc _).set (Nat.le_refl _) _
  have k8 : H6.ob u5.n = AOb.cells [zA, zB, .string d.out] .solo u5.n := by rw [← hH]; exact set_same _ _
  have n6 : H6.n = u5.n + 1 := by rw [← hH]; rfl
  clear hH
  have oX6 : OwnT h1 H6 xA xB s := oX.pre (q5.trans (q6.trans q7))
  have oZ6 : OwnT H5 H6 zA zB d := oZ.pre q7
  have P6 := P5.trans (q6.trans q7)
  have hMD := MergeDelta_i s d xA xB zA zB _ oX6.rdt oZ6.rdt zs zd (((pb.trans P6).ob _ hg).trans ht) (Nat.lt_of_lt_of_le hg (pb.trans P6).n)
  rw [eW] at hMD
  with_reducible refine CC.mono hMD (fun v u6 hv => ?_)
  with_reducible refine Exists.elim hv (fun gA hv => ?_)
  with_reducible refine Exists.elim hv (fun gB hv => ?_)
  have e1 := hv.1
  have oG := hv.2.1
  have q8 := hv.2.2
  clear hv
  subst e1
  have yGa := oG.one.1
  have yGb := oG.one.2
  have m4 := q4.n
  have m6 := q6.n
  have m8 := q8.n
  have k6' : u6.ob p6 = _ := ((q4.trans (q5.trans (q6.trans (q7.trans q8)))).ob _ M6).trans k6
  have L66 : p6 < u6.n := by omega
  simp (maxSteps := 1000000) -implicitDefEqProofs only [push_cast, seval, k6', rd_of k6', rd1_of k6', L66, yGa, yGb, yWa, yWb]
  generalize hH : ((u6.alloc (AOb.cells [.slice none 0 0, .slice none 0 0, .string ⟨#[]⟩] .solo u6.n)).set u6.n (AOb.cells [gA, gB, .string W.out] .solo u6.n)) = H7
  have q9 : Pre u6 H7 := by rw [← hH]; exact ((Pre.refl _).alloc _).set (Nat.le_refl _) _
  have k9 : H7.ob u6.n = AOb.cells [gA, gB, .string W.out] .solo u6.n := by rw [← hH]; exact set_same _ _
  have n7 : H7.n = u6.n + 1 := by rw [← hH]; rfl
  clear hH
  have pA : Pre h H7 := pb.trans (P6.trans (q8.trans q9))
  have oX7 : OwnT h1 H7 xA xB s := oX6.pre (q8.trans q9)
  have oZ7 : OwnT H5 H7 zA zB d := oZ6.pre (q8.trans q9)
  have oG7 : OwnT H6 H7 gA gB W := oG.pre q9
  have oW7 : OwnT H0 H7 wA wB W := oW.pre (q4.trans (q5.trans (q6.trans (q7.trans (q8.trans q9)))))
  have S7 : H7.ob h.n = _ := ((q4.trans (q5.trans (q6.trans (q7.trans (q8.trans q9))))).ob _ (by omega)).trans S1
  have D7 : H7.ob (h.n + 1) = _ := ((q4.trans (q5.trans (q6.trans (q7.trans (q8.trans q9))))).ob _ (by omega)).trans D1
  have K6 : H7.ob p6 = _ := (q9.ob _ L66).trans k6'
  have K7 : H7.ob u4.n = _ := ((q8.trans q9).ob _ (by omega)).trans ((q7.ob _ L7).trans k7')
  have K8 : H7.ob u5.n = _ := ((q8.trans q9).ob _ (by omega)).trans k8
  have j1 : h.n < H7.n := by omega
  have j2 : h.n + 1 < H7.n := by omega
  have j6 : p6 < H7.n := by omega
  have j7 : u4.n < H7.n := by omega
  have j8 : u5.n < H7.n := by omega
  have j9 : u6.n < H7.n := by omega
  with_reducible refine CD.to (eqStore_r H7 gA gB wA wB W oG7.rdt oW7.rdt zW.sz) ?_
  simp (maxSteps := 1000000) -implicitDefEqProofs only [push_cast, seval, S7, rd_of S7, rd1_of S7, D7, rd_of D7, rd1_of D7, K6, rd_of K6, rd1_of K6, K7, rd_of K7, rd1_of K7, K8, rd_of K8, rd1_of K8, k9, rd_of k9, rd1_of k9, j1, j2, j6, j7, j8, j9]
  refine WC.drawT (by kernel_rfl) (by kernel_rfl) (.q 0 (.q 1 (.a 2 false (.a 3 true (.q 4 (.done)))))) (by kernel_rfl) ?_
  simp (maxSteps := 1000000) -implicitDefEqProofs only [push_cast, seval, S7, rd_of S7, rd1_of S7, D7, rd_of D7, rd1_of D7, K6, rd_of K6, rd1_of K6, K7, rd_of K7, rd1_of K7, K8, rd_of K8, rd1_of K8, k9, rd_of k9, rd1_of k9, j1, j2, j6, j7, j8, j9]
  with_reducible refine CC.mono (toStore_o s A B ca cb _ ⟨hR.vars.pre big pA, hR.cells.pre big pA⟩ zs.sz) (fun v u8 hv => ?_)
  with_reducible refine Exists.elim hv (fun tA hv => ?_)
  with_reducible refine Exists.elim hv (fun tB hv => ?_)
  have e1 := hv.1
  have oT := hv.2.1
  have q10 := hv.2.2
  clear hv
  subst e1
  have S8 : u8.ob h.n = _ := (q10.ob _ j1).trans S7
  have D8 : u8.ob (h.n + 1) = _ := (q10.ob _ j2).trans D7
  have K78 : u8.ob u4.n = _ := (q10.ob _ j7).trans K7
  have K88 : u8.ob u5.n = _ := (q10.ob _ j8).trans K8
  have n8 := q10.n
  have i1 : h.n < u8.n := by omega
  have i2 : h.n + 1 < u8.n := by omega
  have i7 : u4.n < u8.n := by omega
  have i8 : u5.n < u8.n := by omega
  simp (maxSteps := 1000000) -implicitDefEqProofs only [push_cast, seval, S7, rd_of S7, rd1_of S7, D7, rd_of D7, rd1_of D7, K6, rd_of K6, rd1_of K6, K7, rd_of K7, rd1_of K7, K8, rd_of K8, rd1_of K8, k9, rd_of k9, rd1_of k9, j1, j2, j6, j7, j8, j9, S8, rd_of S8, rd1_of S8, D8, rd_of D8, rd1_of D8, K78, rd_of K78, rd1_of K78, K88, rd_of K88, rd1_of K88, i1, i2, i7, i8]
  with_reducible refine CD.to (eqStore_r u8 xA xB tA tB s (oX7.rdt.pre q10) oT.rdt zs.sz) ?_
  simp (maxSteps := 1000000) -implicitDefEqProofs only [push_cast, seval, S8, rd_of S8, rd1_of S8, D8, rd_of D8, rd1_of D8, K78, rd_of K78, rd1_of K78, K88, rd_of K88, rd1_of K88, i1, i2, i7, i8]
  refine WC.drawT (by kernel_rfl) (by kernel_rfl) (.q 0 (.q 1 (.a 2 false (.a 3 true (.q 4 (.done)))))) (by kernel_rfl) ?_
  simp (maxSteps := 1000000) -implicitDefEqProofs only [push_cast, seval, S8, rd_of S8, rd1_of S8, D8, rd_of D8, rd1_of D8, K78, rd_of K78, rd1_of K78, K88, rd_of K88, rd1_of K88, i1, i2, i7, i8]
  with_reducible refine CC.mono (toStore_o d C D cc cd _ ⟨hQ.vars.pre big (pA.trans q10), hQ.cells.pre big (pA.trans q10)⟩ zd.sz) (fun v u9 hv => ?_)
  with_reducible refine Exists.elim hv (fun sA hv => ?_)
  with_reducible refine Exists.elim hv (fun sB hv => ?_)
  have e1 := hv.1
  have oY := hv.2.1
  have q11 := hv.2.2
  clear hv
  subst e1
  have q12 := q10.trans q11
  have S9 : u9.ob h.n = _ := (q12.ob _ j1).trans S7
  have D9 : u9.ob (h.n + 1) = _ := (q12.ob _ j2).trans D7
  have K69 : u9.ob p6 = _ := (q12.ob _ j6).trans K6
  have K79 : u9.ob u4.n = _ := (q12.ob _ j7).trans K7
  have K89 : u9.ob u5.n = _ := (q12.ob _ j8).trans K8
  have K99 : u9.ob u6.n = _ := (q12.ob _ j9).trans k9
  have n9 := q11.n
  have i19 : h.n < u9.n := by omega
  have i29 : h.n + 1 < u9.n := by omega
  have i69 : p6 < u9.n := by omega
  have i79 : u4.n < u9.n := by omega
  have i89 : u5.n < u9.n := by omega
  have i99 : u6.n < u9.n := by omega
  simp (maxSteps := 1000000) -implicitDefEqProofs only [push_cast, seval, S8, rd_of S8, rd1_of S8, D8, rd_of D8, rd1_of D8, K78, rd_of K78, rd1_of K78, K88, rd_of K88, rd1_of K88, i1, i2, i7, i8, S9, rd_of S9, rd1_of S9, D9, rd_of D9, rd1_of D9, K79, rd_of K79, rd1_of K79, K89, rd_of K89, rd1_of K89, i19, i29, i79, i89]
  with_reducible refine CD.to (eqStore_r u9 zA zB sA sB d (oZ7.rdt.pre q12) oY.rdt zd.sz) ?_
  simp (maxSteps := 1000000) -implicitDefEqProofs only [push_cast, seval, S9, rd_of S9, rd1_of S9, D9, rd_of D9, rd1_of D9, K69, rd_of K69, rd1_of K69, K79, rd_of K79, rd1_of K79, K89, rd_of K89, rd1_of K89, K99, rd_of K99, rd1_of K99, i19, i29, i69, i79, i89, i99]
  have rX := fun i e => oX.range (i := i) e
  have rZ := fun i e => oZ.range (i := i) e
  have rG := fun i e => oG.range (i := i) e
  have rW := fun i e => oW.range (i := i) e
  have wvs : s.vars.length + s.cells.length ≤ 1048576 := by simp only [storeW] at ws; omega
  have wvd : d.vars.length + d.cells.length ≤ 1048576 := by simp only [storeW] at wd; omega
  have wvW := zW.nv
  have wcW := zW.nc
  have hM1 := markStore_t h1 u9 xA xB s s.out 1 s.vars.length s.cells.length (oX7.pre q12) rfl rfl (by omega) (by omega) (by omega) (by omega)
  rw [show ((1 : Nat) : Int) = 1 from rfl] at hM1
  with_reducible refine nameN (1 + s.vars.length * 2 + s.cells.length * 3) (fun K1 hK1 => ?_)
  rw [← hK1] at hM1
  with_reducible refine CC.mono hM1 (fun v u10 hv => ?_)
  have e1 := hv.1
  have n10 := hv.2.2.1
  have f10 := hv.2.2.2
  clear hv hM1
  subst e1
  have g10 : ∀ j, j < u9.n → ¬ (h1.n ≤ j ∧ j < u4.n) → live u9 j → u10.ob j = u9.ob j := fun j hj hn hl => f10 j hj (fun e => hn (rX j e)) hl
  have pB : Pre h u9 := pA.trans q12
  have pC : Pre h u10 := ⟨by have := pB.n; omega, fun j hj => (g10 j (by have := pB.n; omega) (by have := pb.n; omega) (.inr (by rw [pB.ob j hj]; exact hlv j))).trans (pB.ob j hj)⟩
  have oZ9 : OwnT H5 u9 zA zB d := oZ7.pre q12
  have oG9 : OwnT H6 u9 gA gB W := oG7.pre q12
  have oW9 : OwnT H0 u9 wA wB W := oW7.pre q12
  have oZ10 : OwnT H5 u10 zA zB d := oZ9.keep n10 (fun i e => g10 i (oZ9.range e).2 (by have h1 := rZ i e; omega) (oZ9.live e))
  have oG10 : OwnT H6 u10 gA gB W := oG9.keep n10 (fun i e => g10 i (oG9.range e).2 (by have h1 := rG i e; omega) (oG9.live e))
  have oW10 : OwnT H0 u10 wA wB W := oW9.keep n10 (fun i e => g10 i (oW9.range e).2 (by have h1 := rW i e; omega) (oW9.live e))
  have S10 : u10.ob h.n = _ := (g10 _ i19 (by omega) (live_solo S9)).trans S9
  have D10 : u10.ob (h.n + 1) = _ := (g10 _ i29 (by omega) (live_solo D9)).trans D9
  have K610 : u10.ob p6 = _ := (g10 _ i69 (by omega) (live_solo K69)).trans K69
  have K810 : u10.ob u5.n = _ := (g10 _ i89 (by omega) (live_solo K89)).trans K89
  have K910 : u10.ob u6.n = _ := (g10 _ i99 (by omega) (live_solo K99)).trans K99
  have t1 : h.n < u10.n := by omega
  have t2 : h.n + 1 < u10.n := by omega
  have t6 : p6 < u10.n := by omega
  have t8 : u5.n < u10.n := by omega
  have t9 : u6.n < u10.n := by omega
  simp (maxSteps := 1000000) -implicitDefEqProofs only [push_cast, seval, S10, rd_of S10, rd1_of S10, D10, rd_of D10, rd1_of D10, K610, rd_of K610, rd1_of K610, K810, rd_of K810, rd1_of K810, K910, rd_of K910, rd1_of K910, t1, t2, t6, t8, t9]
  have hM2 := markStore_t H5 u10 zA zB d d.out K1 d.vars.length d.cells.length oZ10 rfl rfl (by omega) (by omega) (by omega) (by omega)
  with_reducible refine nameN (K1 + d.vars.length * 2 + d.cells.length * 3) (fun K2 hK2 => ?_)
  rw [← hK2] at hM2
  with_reducible refine CC.mono hM2 (fun v u11 hv => ?_)
  have e1 := hv.1
  have n11 := hv.2.2.1
  have f11 := hv.2.2.2
  clear hv hM2
  subst e1
  have g11 : ∀ j, j < u10.n → ¬ (H5.n ≤ j ∧ j < u5.n) → live u10 j → u11.ob j = u10.ob j := fun j hj hn hl => f11 j hj (fun e => hn (rZ j e)) hl
  have pD : Pre h u11 := ⟨by have := pC.n; omega, fun j hj => (g11 j (by have := pC.n; omega) (by have := pb.n; omega) (.inr (by rw [pC.ob j hj]; exact hlv j))).trans (pC.ob j hj)⟩
  have oG11 : OwnT H6 u11 gA gB W := oG10.keep n11 (fun i e => g11 i (oG10.range e).2 (by have h1 := rG i e; omega) (oG10.live e))
  have oW11 : OwnT H0 u11 wA wB W := oW10.keep n11 (fun i e => g11 i (oW10.range e).2 (by have h1 := rW i e; omega) (oW10.live e))
  have S11 : u11.ob h.n = _ := (g11 _ t1 (by omega) (live_solo S10)).trans S10
  have D11 : u11.ob (h.n + 1) = _ := (g11 _ t2 (by omega) (live_solo D10)).trans D10
  have K611 : u11.ob p6 = _ := (g11 _ t6 (by omega) (live_solo K610)).trans K610
  have K911 : u11.ob u6.n = _ := (g11 _ t9 (by omega) (live_solo K910)).trans K910
  have c1 : h.n < u11.n := by omega
  have c2 : h.n + 1 < u11.n := by omega
  have c6 : p6 < u11.n := by omega
  have c9 : u6.n < u11.n := by omega
  have hneg2 : decide ((K2 : Int) < 0) = false := by simp
  simp (maxSteps := 1000000) -implicitDefEqProofs only [push_cast, seval, S11, rd_of S11, rd1_of S11, D11, rd_of D11, rd1_of D11, K611, rd_of K611, rd1_of K611, K911, rd_of K911, rd1_of K911, c1, c2, c6, c9, hneg2]
  with_reducible refine CD.to (eqStore_r u11 gA gB wA wB W oG11.rdt oW11.rdt zW.sz) ?_
  simp (maxSteps := 1000000) -implicitDefEqProofs only [push_cast, seval, S11, rd_of S11, rd1_of S11, D11, rd_of D11, rd1_of D11, K611, rd_of K611, rd1_of K611, K911, rd_of K911, rd1_of K911, c1, c2, c6, c9, hneg2]
  have hM3 := markStore_t H6 u11 gA gB W W.out 1 W.vars.length W.cells.length oG11 rfl rfl (by omega) (by omega) (by omega) (by omega)
  rw [show ((1 : Nat) : Int) = 1 from rfl] at hM3
  with_reducible refine nameN (1 + W.vars.length * 2 + W.cells.length * 3) (fun K3 hK3 => ?_)
  rw [← hK3] at hM3
  with_reducible refine CC.mono hM3 (fun v u12 hv => ?_)
  have e1 := hv.1
  have gM := hv.2.1
  have n12 := hv.2.2.1
  have f12 := hv.2.2.2
  clear hv hM3
  subst e1
  have g12 : ∀ j, j < u11.n → ¬ (H6.n ≤ j ∧ j < u6.n) → live u11 j → u12.ob j = u11.ob j := fun j hj hn hl => f12 j hj (fun e => hn (rG j e)) hl
  have pb9 : Pre h u12 := ⟨by have := pD.n; omega, fun j hj => (g12 j (by have := pD.n; omega) (by have := pb.n; omega) (.inr (by rw [pD.ob j hj]; exact hlv j))).trans (pD.ob j hj)⟩
  have oW12 : OwnT H0 u12 wA wB W := oW11.keep n12 (fun i e => g12 i (oW11.range e).2 (by have h1 := rW i e; omega) (oW11.live e))
  have S12 : u12.ob h.n = _ := (g12 _ c1 (by omega) (live_solo S11)).trans S11
  have D12 : u12.ob (h.n + 1) = _ := (g12 _ c2 (by omega) (live_solo D11)).trans D11
  have K612 : u12.ob p6 = _ := (g12 _ c6 (by omega) (live_solo K611)).trans K611
  have K912 : u12.ob u6.n = _ := (g12 _ c9 (by omega) (live_solo K911)).trans K911
  have b1 : h.n < u12.n := by omega
  have b2 : h.n + 1 < u12.n := by omega
  have b6 : p6 < u12.n := by omega
  have b9 : u6.n < u12.n := by omega
  have hH := fun (h : AH) (o : MkS h gA gB W.vars.length W.cells.length 1) => heldStore_c h gA gB W.out 1 W.vars.length W.cells.length o (by omega) (by omega) (by omega) (by omega)
  rw [show ((1 : Nat) : Int) = 1 from rfl, ← hK3] at hH
  have hneg3 : decide ((K3 : Int) < 0) = false := by simp
  simp (maxSteps := 1000000) -implicitDefEqProofs only [push_cast, seval, S12, rd_of S12, rd1_of S12, D12, rd_of D12, rd1_of D12, K612, rd_of K612, rd1_of K612, K912, rd_of K912, rd1_of K912, b1, b2, b6, b9, hneg3]
  with_reducible refine CD.to (hH _ gM) ?_
  simp (maxSteps := 1000000) -implicitDefEqProofs only [push_cast, seval, S12, rd_of S12, rd1_of S12, D12, rd_of D12, rd1_of D12, K612, rd_of K612, rd1_of K612, K912, rd_of K912, rd1_of K912, b1, b2, b6, b9, hneg3]
  have oS := S12
  have oD := D12
  have lS := b1
  have lD := b2
  refine WC.cutA [13] [75, 76, 77, 78, 79] (fun a : Nat × Value × Value => [.pointer (some ⟨a.1, 0, none⟩)]) (fun a h' => h'.ob a.1 = AOb.cells [a.2.1, a.2.2, .string (mergeD s d).out] .solo a.1 ∧ OwnT u12 h' a.2.1 a.2.2 (mergeD s d) ∧ (∀ j, atBlock a.2.1 j ∨ atBlock a.2.2 j → j ≠ a.1) ∧ Pre u12 h' ∧ u12.n ≤ a.1 ∧ a.1 < h'.n) ?_ ?_
  · refine WC.drawT (by kernel_rfl) (by kernel_rfl) (.q 0 (.q 2 (.b 1 (.b 3 (.b 4 (.a 5 false (.a 6 true (.done))) 5 (.a 4 true (.a 6 true (.done)))) 5 (.a 3 false (.a 4 true (.a 6 true (.done))))) 5 (.a 1 false (.a 3 false (.a 4 true (.a 6 true (.done)))))))) (by kernel_rfl) ?_
    simp (maxSteps := 1000000) -implicitDefEqProofs only [push_cast, seval, oS, rd_of oS, rd1_of oS, oD, rd_of oD, rd1_of oD, lS, lD]
    refine And.intro ?_ ?_
    · with_reducible refine CC.mono (toStore_o s A B ca cb _ ⟨hR.vars.pre big (pb9.trans (Pre.refl _)), hR.cells.pre big (pb9.trans (Pre.refl _))⟩ zs.sz) (fun v u1 hv => ?_)
      with_reducible refine Exists.elim hv (fun vA hv => ?_)
      with_reducible refine Exists.elim hv (fun vB hv => ?_)
      have e1 := hv.1
      have ou1 := hv.2.1
      have qu1 := hv.2.2
      clear hv
      subst e1
      have Pu1 : Pre u12 u1 := ((Pre.refl _).trans qu1)
      have lu1 := Pu1.n
      have Su1 := (Pu1.ob h.n lS).trans oS
      have Du1 := (Pu1.ob (h.n + 1) lD).trans oD
      have LSu1 : h.n < u1.n := by omega
      have LDu1 : h.n + 1 < u1.n := by omega
      have yau1 := ou1.one.1
      have ybu1 := ou1.one.2
      simp (maxSteps := 1000000) -implicitDefEqProofs only [push_cast, seval, oS, rd_of oS, rd1_of oS, oD, rd_of oD, rd1_of oD, lS, lD, Su1, rd_of Su1, rd1_of Su1, Du1, rd_of Du1, rd1_of Du1, LSu1, LDu1, yau1, ybu1]
      refine And.intro ?_ ?_
      · with_reducible refine CC.mono (toStore_o d C D cc cd _ ⟨hQ.vars.pre big (pb9.trans Pu1), hQ.cells.pre big (pb9.trans Pu1)⟩ zd.sz) (fun v u2 hv => ?_)
        with_reducible refine Exists.elim hv (fun wA hv => ?_)
        with_reducible refine Exists.elim hv (fun wB hv => ?_)
        have e1 := hv.1
        have ou2 := hv.2.1
        have qu2 := hv.2.2
        clear hv
        subst e1
        have Pu2 : Pre u12 u2 := (Pu1.trans qu2)
        have lu2 := Pu2.n
        have Su2 := (Pu2.ob h.n lS).trans oS
        have Du2 := (Pu2.ob (h.n + 1) lD).trans oD
        have LSu2 : h.n < u2.n := by omega
        have LDu2 : h.n + 1 < u2.n := by omega
        have yau2 := ou2.one.1
        have ybu2 := ou2.one.2
        simp (maxSteps := 1000000) -implicitDefEqProofs only [push_cast, seval, oS, rd_of oS, rd1_of oS, oD, rd_of oD, rd1_of oD, lS, lD, Su1, rd_of Su1, rd1_of Su1, Du1, rd_of Du1, rd1_of Du1, LSu1, LDu1, yau1, ybu1, Su2, rd_of Su2, rd1_of Su2, Du2, rd_of Du2, rd1_of Du2, LSu2, LDu2, yau2, ybu2]
        refine And.intro ?_ ?_
        · have r1 : RdT u2 vA vB s := ou1.rdt.pre qu2
          with_reducible refine CC.mono (MergeDelta_i s d vA vB wA wB _ (r1) (ou2.rdt) zs zd (Pow_pre (pb9.trans Pu2) hg ht) (Nat.lt_of_lt_of_le hg (pb9.trans Pu2).n)) (fun v u3 hv => ?_)
          with_reducible refine Exists.elim hv (fun tA hv => ?_)
          with_reducible refine Exists.elim hv (fun tB hv => ?_)
          have e1 := hv.1
          have ou3 := hv.2.1
          have qu3 := hv.2.2
          clear hv
          subst e1
          have Pu3 : Pre u12 u3 := (Pu2.trans qu3)
          have lu3 := Pu3.n
          have Su3 := (Pu3.ob h.n lS).trans oS
          have Du3 := (Pu3.ob (h.n + 1) lD).trans oD
          have LSu3 : h.n < u3.n := by omega
          have LDu3 : h.n + 1 < u3.n := by omega
          have yau3 := ou3.one.1
          have ybu3 := ou3.one.2
          simp (maxSteps := 1000000) -implicitDefEqProofs only [push_cast, seval, oS, rd_of oS, rd1_of oS, oD, rd_of oD, rd1_of oD, lS, lD, Su1, rd_of Su1, rd1_of Su1, Du1, rd_of Du1, rd1_of Du1, LSu1, LDu1, yau1, ybu1, Su2, rd_of Su2, rd1_of Su2, Du2, rd_of Du2, rd1_of Du2, LSu2, LDu2, yau2, ybu2, Su3, rd_of Su3, rd1_of Su3, Du3, rd_of Du3, rd1_of Du3, LSu3, LDu3, yau3, ybu3]
          have hX : u12.n ≤ u3.n := lu3
          have bX : ∀ j, atBlock tA j ∨ atBlock tB j → j ≠ u3.n := fun j e => by
            have := (ou3.range e).2
            omega
          exact ⟨(u3.n, tA, tB), by kernel_rfl, ⟨set_same _ _, (ou3.mono lu2).to (Nat.le_succ _) (fun i e => (set_ne _ (bX i e)).trans (alloc_lt _ (ou3.range e).2)), bX, (Pu3.alloc _).set hX _, hX, Nat.lt_succ_self _⟩⟩
        · have r1 : RdT u2 vA vB s := ou1.rdt.pre qu2
          with_reducible refine CC.mono (MergeDelta_i s d vA vB wA wB _ (r1.pre ((Pre.refl u2).alloc _)) (ou2.rdt.pre ((Pre.refl u2).alloc _)) zs zd (Pow_pre (pb9.trans (Pu2.alloc _)) hg ht) (Nat.lt_of_lt_of_le hg (pb9.trans (Pu2.alloc _)).n)) (fun v u3 hv => ?_)
          with_reducible refine Exists.elim hv (fun tA hv => ?_)
          with_reducible refine Exists.elim hv (fun tB hv => ?_)
          have e1 := hv.1
          have ou3 := hv.2.1
          have qu3 := hv.2.2
          clear hv
          subst e1
          have Pu3 : Pre u12 u3 := ((Pu2.alloc _).trans qu3)
          have lu3 := Pu3.n
          have Su3 := (Pu3.ob h.n lS).trans oS
          have Du3 := (Pu3.ob (h.n + 1) lD).trans oD
          have LSu3 : h.n < u3.n := by omega
          have LDu3 : h.n + 1 < u3.n := by omega
          have yau3 := ou3.one.1
          have ybu3 := ou3.one.2
          have Gu3 : u3.ob (u2.n) = AOb.cells [.slice none 0 0, .slice none 0 0, .string ⟨#[]⟩] .solo (u2.n) := (qu3.ob _ (lt_alloc _)).trans (alloc_same _)
          have LGu3 : u2.n < u3.n := Nat.lt_of_lt_of_le (lt_alloc _) qu3.n
          simp (maxSteps := 1000000) -implicitDefEqProofs only [push_cast, seval, oS, rd_of oS, rd1_of oS, oD, rd_of oD, rd1_of oD, lS, lD, Su1, rd_of Su1, rd1_of Su1, Du1, rd_of Du1, rd1_of Du1, LSu1, LDu1, yau1, ybu1, Su2, rd_of Su2, rd1_of Su2, Du2, rd_of Du2, rd1_of Du2, LSu2, LDu2, yau2, ybu2, Gu3, rd_of Gu3, rd1_of Gu3, LGu3, Su3, rd_of Su3, rd1_of Su3, Du3, rd_of Du3, rd1_of Du3, LSu3, LDu3, yau3, ybu3]
          have hX : u12.n ≤ u2.n := lu2
          have bX : ∀ j, atBlock tA j ∨ atBlock tB j → j ≠ u2.n := fun j e => by
            have : u2.n + 1 ≤ j := (ou3.range e).1
            omega
          exact ⟨(u2.n, tA, tB), by kernel_rfl, ⟨set_same _ _, (ou3.mono (Nat.le_succ_of_le lu2)).to (Nat.le_refl _) (fun i e => set_ne _ (bX i e)), bX, (Pu3).set hX _, hX, LGu3⟩⟩
      · with_reducible refine CC.mono (toStore_o d C D cc cd _ ⟨hQ.vars.pre big (pb9.trans (Pu1.alloc _)), hQ.cells.pre big (pb9.trans (Pu1.alloc _))⟩ zd.sz) (fun v u2 hv => ?_)
        with_reducible refine Exists.elim hv (fun wA hv => ?_)
        with_reducible refine Exists.elim hv (fun wB hv => ?_)
        have e1 := hv.1
        have ou2 := hv.2.1
        have qu2 := hv.2.2
        clear hv
        subst e1
        have Pu2 : Pre u12 u2 := ((Pu1.alloc _).trans qu2)
        have lu2 := Pu2.n
        have Su2 := (Pu2.ob h.n lS).trans oS
        have Du2 := (Pu2.ob (h.n + 1) lD).trans oD
        have LSu2 : h.n < u2.n := by omega
        have LDu2 : h.n + 1 < u2.n := by omega
        have yau2 := ou2.one.1
        have ybu2 := ou2.one.2
        have Gu2 : u2.ob (u1.n) = AOb.cells [.slice none 0 0, .slice none 0 0, .string ⟨#[]⟩] .solo (u1.n) := (qu2.ob _ (lt_alloc _)).trans (alloc_same _)
        have LGu2 : u1.n < u2.n := Nat.lt_of_lt_of_le (lt_alloc _) qu2.n
        simp (maxSteps := 1000000) -implicitDefEqProofs only [push_cast, seval, oS, rd_of oS, rd1_of oS, oD, rd_of oD, rd1_of oD, lS, lD, Su1, rd_of Su1, rd1_of Su1, Du1, rd_of Du1, rd1_of Du1, LSu1, LDu1, yau1, ybu1, Gu2, rd_of Gu2, rd1_of Gu2, LGu2, Su2, rd_of Su2, rd1_of Su2, Du2, rd_of Du2, rd1_of Du2, LSu2, LDu2, yau2, ybu2]
        have r1 : RdT u2 vA vB s := ou1.rdt.pre (((Pre.refl u1).alloc _).trans qu2)
        with_reducible refine CC.mono (MergeDelta_i s d vA vB wA wB _ (r1) (ou2.rdt) zs zd (Pow_pre (pb9.trans Pu2) hg ht) (Nat.lt_of_lt_of_le hg (pb9.trans Pu2).n)) (fun v u3 hv => ?_)
        with_reducible refine Exists.elim hv (fun tA hv => ?_)
        with_reducible refine Exists.elim hv (fun tB hv => ?_)
        have e1 := hv.1
        have ou3 := hv.2.1
        have qu3 := hv.2.2
        clear hv
        subst e1
        have Pu3 : Pre u12 u3 := (Pu2.trans qu3)
        have lu3 := Pu3.n
        have Su3 := (Pu3.ob h.n lS).trans oS
        have Du3 := (Pu3.ob (h.n + 1) lD).trans oD
        have LSu3 : h.n < u3.n := by omega
        have LDu3 : h.n + 1 < u3.n := by omega
        have yau3 := ou3.one.1
        have ybu3 := ou3.one.2
        have Gu3 : u3.ob (u1.n) = AOb.cells [.slice none 0 0, .slice none 0 0, .string ⟨#[]⟩] .solo (u1.n) := (qu3.ob _ LGu2).trans Gu2
        have LGu3 : u1.n < u3.n := Nat.lt_of_lt_of_le LGu2 qu3.n
        simp (maxSteps := 1000000) -implicitDefEqProofs only [push_cast, seval, oS, rd_of oS, rd1_of oS, oD, rd_of oD, rd1_of oD, lS, lD, Su1, rd_of Su1, rd1_of Su1, Du1, rd_of Du1, rd1_of Du1, LSu1, LDu1, yau1, ybu1, Gu2, rd_of Gu2, rd1_of Gu2, LGu2, Su2, rd_of Su2, rd1_of Su2, Du2, rd_of Du2, rd1_of Du2, LSu2, LDu2, yau2, ybu2, Gu3, rd_of Gu3, rd1_of Gu3, LGu3, Su3, rd_of Su3, rd1_of Su3, Du3, rd_of Du3, rd1_of Du3, LSu3, LDu3, yau3, ybu3]
        have hX : u12.n ≤ u1.n := lu1
        have bX : ∀ j, atBlock tA j ∨ atBlock tB j → j ≠ u1.n := fun j e => by
          have h1 : u2.n ≤ j := (ou3.range e).1
          have h2 := LGu2
          omega
        exact ⟨(u1.n, tA, tB), by kernel_rfl, ⟨set_same _ _, (ou3.mono (by omega)).to (Nat.le_refl _) (fun i e => set_ne _ (bX i e)), bX, (Pu3).set hX _, hX, LGu3⟩⟩
    · with_reducible refine CC.mono (toStore_o s A B ca cb _ ⟨hR.vars.pre big (pb9.trans ((Pre.refl _).alloc _)), hR.cells.pre big (pb9.trans ((Pre.refl _).alloc _))⟩ zs.sz) (fun v u1 hv => ?_)
      with_reducible refine Exists.elim hv (fun vA hv => ?_)
      with_reducible refine Exists.elim hv (fun vB hv => ?_)
      have e1 := hv.1
      have ou1 := hv.2.1
      have qu1 := hv.2.2
      clear hv
      subst e1
      have Pu1 : Pre u12 u1 := (((Pre.refl _).alloc _).trans qu1)
      have lu1 := Pu1.n
      have Su1 := (Pu1.ob h.n lS).trans oS
      have Du1 := (Pu1.ob (h.n + 1) lD).trans oD
      have LSu1 : h.n < u1.n := by omega
      have LDu1 : h.n + 1 < u1.n := by omega
      have yau1 := ou1.one.1
      have ybu1 := ou1.one.2
      have Gu1 : u1.ob (u12.n) = AOb.cells [.slice none 0 0, .slice none 0 0, .string ⟨#[]⟩] .solo (u12.n) := (qu1.ob _ (lt_alloc _)).trans (alloc_same _)
      have LGu1 : u12.n < u1.n := Nat.lt_of_lt_of_le (lt_alloc _) qu1.n
      simp (maxSteps := 1000000) -implicitDefEqProofs only [push_cast, seval, oS, rd_of oS, rd1_of oS, oD, rd_of oD, rd1_of oD, lS, lD, Gu1, rd_of Gu1, rd1_of Gu1, LGu1, Su1, rd_of Su1, rd1_of Su1, Du1, rd_of Du1, rd1_of Du1, LSu1, LDu1, yau1, ybu1]
      with_reducible refine CC.mono (toStore_o d C D cc cd _ ⟨hQ.vars.pre big (pb9.trans Pu1), hQ.cells.pre big (pb9.trans Pu1)⟩ zd.sz) (fun v u2 hv => ?_)
      with_reducible refine Exists.elim hv (fun wA hv => ?_)
      with_reducible refine Exists.elim hv (fun wB hv => ?_)
      have e1 := hv.1
      have ou2 := hv.2.1
      have qu2 := hv.2.2
      clear hv
      subst e1
      have Pu2 : Pre u12 u2 := (Pu1.trans qu2)
      have lu2 := Pu2.n
      have Su2 := (Pu2.ob h.n lS).trans oS
      have Du2 := (Pu2.ob (h.n + 1) lD).trans oD
      have LSu2 : h.n < u2.n := by omega
      have LDu2 : h.n + 1 < u2.n := by omega
      have yau2 := ou2.one.1
      have ybu2 := ou2.one.2
      have Gu2 : u2.ob (u12.n) = AOb.cells [.slice none 0 0, .slice none 0 0, .string ⟨#[]⟩] .solo (u12.n) := (qu2.ob _ LGu1).trans Gu1
      have LGu2 : u12.n < u2.n := Nat.lt_of_lt_of_le LGu1 qu2.n
      simp (maxSteps := 1000000) -implicitDefEqProofs only [push_cast, seval, oS, rd_of oS, rd1_of oS, oD, rd_of oD, rd1_of oD, lS, lD, Gu1, rd_of Gu1, rd1_of Gu1, LGu1, Su1, rd_of Su1, rd1_of Su1, Du1, rd_of Du1, rd1_of Du1, LSu1, LDu1, yau1, ybu1, Gu2, rd_of Gu2, rd1_of Gu2, LGu2, Su2, rd_of Su2, rd1_of Su2, Du2, rd_of Du2, rd1_of Du2, LSu2, LDu2, yau2, ybu2]
      have r1 : RdT u2 vA vB s := ou1.rdt.pre qu2
      with_reducible refine CC.mono (MergeDelta_i s d vA vB wA wB _ (r1) (ou2.rdt) zs zd (Pow_pre (pb9.trans Pu2) hg ht) (Nat.lt_of_lt_of_le hg (pb9.trans Pu2).n)) (fun v u3 hv => ?_)
      with_reducible refine Exists.elim hv (fun tA hv => ?_)
      with_reducible refine Exists.elim hv (fun tB hv => ?_)
      have e1 := hv.1
      have ou3 := hv.2.1
      have qu3 := hv.2.2
      clear hv
      subst e1
      have Pu3 : Pre u12 u3 := (Pu2.trans qu3)
      have lu3 := Pu3.n
      have Su3 := (Pu3.ob h.n lS).trans oS
      have Du3 := (Pu3.ob (h.n + 1) lD).trans oD
      have LSu3 : h.n < u3.n := by omega
      have LDu3 : h.n + 1 < u3.n := by omega
      have yau3 := ou3.one.1
      have ybu3 := ou3.one.2
      have Gu3 : u3.ob (u12.n) = AOb.cells [.slice none 0 0, .slice none 0 0, .string ⟨#[]⟩] .solo (u12.n) := (qu3.ob _ LGu2).trans Gu2
      have LGu3 : u12.n < u3.n := Nat.lt_of_lt_of_le LGu2 qu3.n
      simp (maxSteps := 1000000) -implicitDefEqProofs only [push_cast, seval, oS, rd_of oS, rd1_of oS, oD, rd_of oD, rd1_of oD, lS, lD, Gu1, rd_of Gu1, rd1_of Gu1, LGu1, Su1, rd_of Su1, rd1_of Su1, Du1, rd_of Du1, rd1_of Du1, LSu1, LDu1, yau1, ybu1, Gu2, rd_of Gu2, rd1_of Gu2, LGu2, Su2, rd_of Su2, rd1_of Su2, Du2, rd_of Du2, rd1_of Du2, LSu2, LDu2, yau2, ybu2, Gu3, rd_of Gu3, rd1_of Gu3, LGu3, Su3, rd_of Su3, rd1_of Su3, Du3, rd_of Du3, rd1_of Du3, LSu3, LDu3, yau3, ybu3]
      have hX : u12.n ≤ u12.n := Nat.le_refl _
      have bX : ∀ j, atBlock tA j ∨ atBlock tB j → j ≠ u12.n := fun j e => by
        have h1 : u2.n ≤ j := (ou3.range e).1
        have h2 := LGu2
        omega
      exact ⟨(u12.n, tA, tB), by kernel_rfl, ⟨set_same _ _, (ou3.mono (Nat.le_trans lu1 (Nat.le_trans qu2.n (Nat.le_refl _)))).to (Nat.le_refl _) (fun i e => set_ne _ (bX i e)), bX, (Pu3).set hX _, hX, LGu3⟩⟩
  intro a g' h13 hJ
  have k13 := hJ.1
  have oH := hJ.2.1
  have P13 := hJ.2.2.2.1
  have M13 := hJ.2.2.2.2.2
  clear hJ
  generalize a.1 = p13 at *
  generalize a.2.1 = hA at *
  generalize a.2.2 = hB at *
  clear a
  rw [eW] at k13 oH
  have K613 : h13.ob p6 = _ := (P13.ob _ b6).trans K612
  have K913 : h13.ob u6.n = _ := (P13.ob _ b9).trans K912
  have l13 := P13.n
  have e6 : p6 < h13.n := by omega
  have e9 : u6.n < h13.n := by omega
  have oW13 : OwnT H0 h13 wA wB W := oW12.pre P13
  have gM13 : MkS h13 gA gB W.vars.length W.cells.length 1 := gM.keep P13.n (fun i e => P13.ob i (by
    obtain ⟨n0, n1, x, y⟩ := gM
    rcases e with e | e
    · exact (x.range e).2
    · exact (y.range e).2))
  simp (maxSteps := 1000000) -implicitDefEqProofs only [push_cast, seval, k13, rd_of k13, rd1_of k13, M13, K613, rd_of K613, rd1_of K613, K913, rd_of K913, rd1_of K913, e6, e9, hneg3]
  with_reducible refine CD.to (eqStore_r h13 hA hB wA wB W oH.rdt oW13.rdt zW.sz) ?_
  simp (maxSteps := 1000000) -implicitDefEqProofs only [push_cast, seval, k13, rd_of k13, rd1_of k13, M13, K613, rd_of K613, rd1_of K613, K913, rd_of K913, rd1_of K913, e6, e9, hneg3]
  with_reducible refine CD.to (hH _ gM13) ?_
  simp (maxSteps := 1000000) -implicitDefEqProofs only [push_cast, seval, k13, rd_of k13, rd1_of k13, M13, K613, rd_of K613, rd1_of K613, K913, rd_of K913, rd1_of K913, e6, e9, hneg3]
end Go.Proofs.YtcggnolnakgkeaaDoor
/- From a row to a law: two structs handed in, or one cell, and a table of the library's as it was laid. Conditions: those that each theorem names. -/
set_option linter.unusedVariables false
set_option linter.unusedSimpArgs false
namespace Go.Sim
open Go.ChangeShapes Go.WideShapes Go.RowKit Go.Deep
variable {H : Type} {enc : TypeId × Value → H} {held : Bool} {P : Program}
/-- The heap that a function is called in, a table told. -/
theorem Sim.baseT (w : World) (hg : P.globals.size ≤ w.heap.size) {g : Nat} {nm : String} {k : IntKind} {zs : List Int} (hgs : g < P.globals.size) (hn : P.globalNamed nm = some g) (ht : Lib.TabIs P w nm k zs) :
    Sim P (fun b => b < w.heap.size) w (mu0 w) ⟨w.heap.size, fun i => if i = g then .cells (zs.map (Value.int k)) .ro g else .none⟩ w := by
  have hob : ∀ i cs st ln, (if i = g then AOb.cells (zs.map (Value.int k)) .ro g else .none) = .cells cs st ln → i = g ∧ cs = zs.map (Value.int k) ∧ st = .ro ∧ ln = g := fun i cs st ln e => by
    by_cases x : i = g
    · rw [if_pos x] at e
      simp only [AOb.cells.injEq] at e
      exact ⟨x, e.1.symm, e.2.1.symm, e.2.2.symm⟩
    · rw [if_neg x] at e; cases e
  have hown : ∀ i n, (if i = g then AOb.cells (zs.map (Value.int k)) .ro g else .none).own = some n → False := fun i n e => by
    by_cases x : i = g
    · rw [if_pos x] at e; cases e
    · rw [if_neg x] at e; cases e
  have hmap : ∀ i es, (if i = g then AOb.cells (zs.map (Value.int k)) .ro g else .none) = .map es → False := fun i es e => by
    by_cases x : i = g
    · rw [if_pos x] at e; cases e
    · rw [if_neg x] at e; cases e
  have hcell : ∀ j (hj : j < zs.length), w.cell? ⟨g, j, none⟩ = some (.int k zs[j]) := fun j hj => by
    have := ht.cell hn j hj
    rw [this, List.getD, List.getElem?_eq_getElem hj]; rfl
  have hhp : ∃ arr e fz, w.heap[g]? = some (.cells arr e fz) ∧ arr.size = zs.length := by
    unfold Lib.TabIs World.var? at ht
    rw [hn] at ht
    simp only [Option.bind_some] at ht
    split at ht
    · rename_i cs t fz hh
      refine ⟨cs, t, fz, hh, ?_⟩
      have := Option.some.inj ht
      rw [this]; simp
    · cases ht
  constructor
  case os => rfl
  case tape => rfl
  case out => rfl
  case frame => exact fun b hb => ⟨hb, rfl⟩
  case dom =>
    intro i l hm
    unfold mu0 at hm
    split at hm
    · assumption
    · cases hm
  case big => intro i hi; exact if_neg (by have : w.heap.size ≤ i := hi; omega)
  case glob => intro g hg'; exact ⟨⟨g, 0, 0⟩, by unfold mu0; rw [if_pos (by omega)], rfl, rfl⟩
  case tab =>
    intro i c n _ ho
    obtain ⟨rfl, rfl, _, _⟩ := hob _ _ _ _ ho
    simpa using hhp
  case cell =>
    intro i l c st ln hm ho j hj
    obtain ⟨rfl, rfl, _, _⟩ := hob _ _ _ _ ho
    unfold mu0 at hm
    rw [if_pos (by omega)] at hm
    obtain rfl := Option.some.inj hm
    have hj' : j < zs.length := by simpa using hj
    refine ⟨.int k zs[j], ?_, ?_⟩
    · show w.cell? ⟨i, 0 + j, none⟩ = some (.int k zs[j])
      rw [Nat.zero_add]; exact hcell j hj'
    · simp only [List.getElem_map]
      exact .plain _ rfl
  case blk => intro i l c st ln _ ho hs; exact absurd (hob _ _ _ _ ho).2.2.1 hs
  case rob =>
    intro i l c ln hm ho
    obtain ⟨rfl, _, _, _⟩ := hob _ _ _ _ ho
    unfold mu0 at hm
    rw [if_pos (by omega)] at hm
    obtain rfl := Option.some.inj hm
    show i < w.heap.size
    omega
  case onec =>
    intro i c st n ho v hv
    obtain ⟨_, rfl, _, _⟩ := hob _ _ _ _ ho
    obtain ⟨z, _, rfl⟩ := List.mem_map.1 hv
    rfl
  case sep => intro i j li lj ni nj _ _ oi; exact (hown _ _ oi).elim
  case tip => intro i j li lj ci cj sj ni nj _ _ oi; have := (hob _ _ _ _ oi).2.2.1; cases this
  case tipu => intro i j ci cj n oi; have := (hob _ _ _ _ oi).2.2.1; cases this
  case solo => intro i c n oi; have := (hob _ _ _ _ oi).2.2.1; cases this
  case lin => intro i n oi; exact (hown _ _ oi).elim
  case linc => intro i j n oi; exact (hown _ _ oi).elim
  case mp => intro i l es _ ho; exact (hmap _ _ ho).elim
  case mpu => intro i j li lj es es' _ _ oi; exact (hmap _ _ oi).elim
/-- What is read alone. -/
def AH.clean (h : AH) : AH := ⟨h.n, fun j => match h.ob j with | .cells cs .ro ln => .cells cs .ro ln | _ => .none⟩
theorem clean_ro {h : AH} {j : Nat} {cs : List Value} {ln : Nat} (e : h.ob j = .cells cs .ro ln) : h.clean.ob j = .cells cs .ro ln := by simp only [AH.clean, e]
theorem clean_own (h : AH) (j : Nat) : (h.clean.ob j).own = none := by
  simp only [AH.clean]
  split <;> rfl
theorem clean_less (h : AH) : Less h h.clean := by
  refine ⟨rfl, fun j => ?_⟩
  simp only [AH.clean]
  split
  · rename_i e; exact .inr (.inl e.symm)
  · exact .inl rfl
theorem Rep.clean {h : AH} {t : TypeId} {cs : List Value} (r : Rep P h t cs) : Rep P h.clean t cs := by
  induction r with
  | bool t b ht => exact .bool t b ht
  | int t k n ht hw => exact .int t k n ht hw
  | str t s ht hs => exact .str t s ht hs
  | nil t e c ht => exact .nil t e c ht
  | slice t e id n ln chs ht hid ho hn hm hl hr ih => exact .slice t e id n ln chs ht hid (clean_ro ho) hn hm hl ih
  | struct t fs cks ht hn hr ih => exact .struct t fs cks ht hn ih
theorem row_two_tab {f : FuncId} {t1 t2 : TypeId} {c1 c2 : Array Value} {d1 d2 : DataW H} {ps1 ps2 : List MemPlace} {W : World} (fl : Nat) (hfl1 : flat P fl t1 = true) (hfl2 : flat P fl t2 = true) (hg : P.globals.size ≤ W.heap.size)
    {g : Nat} {nm : String} {k : IntKind} {zs : List Int} (hgs : g < P.globals.size) (hn : P.globalNamed nm = some g) (hT : Lib.TabIs P W nm k zs)
    (ht1 : DataW.Trod enc P W 0 (fun _ => true) held t1 (.agg c1) d1 ps1) (ht2 : DataW.Trod enc P W 0 (fun _ => true) held t2 (.agg c2) d2 ps2)
    (hc : ∀ (h : AH) (a1 a2 : List Value), Rep P h t1 a1 → Rep P h t2 a2 → P.globals.size ≤ h.n → h.ob g = .cells (zs.map (Value.int k)) .ro g → (∀ j, (h.ob j).own = none) → CE P f [.agg a1.toArray, .agg a2.toArray] h fun r _ => r = .bool true) :
    Calls P f #[.agg c1, .agg c2] W fun e W' => e = .returned (.bool true) ∧ Below W.heap.size W W' := by
  obtain ⟨fuel1, hx1⟩ := ht1
  obtain ⟨fuel2, hx2⟩ := ht2
  obtain ⟨μ1, h1, a1, p1, g1, l1, r1⟩ := one_rep (FB := fun b => b < W.heap.size) (w0 := W) (fun b hb => hb) fl fuel1 t1 _ _ hfl1 hx1 (Sim.baseT W hg hgs hn hT)
  obtain ⟨μ2, h2, a2, p2, g2, l2, r2⟩ := one_rep (FB := fun b => b < W.heap.size) (w0 := W) (fun b hb => hb) fl fuel2 t2 _ _ hfl2 hx2 p1.sim
  have l1' := LR.ext p2.ext l1
  have v1 : VR μ2 (.agg a1.toArray) (.agg c1) := .agg _ _ (by simpa [Value.cells] using l1'.1) (fun j a b => by simpa [Value.cells] using l1'.2 j (by simpa using a) (by simpa [Value.cells] using b))
  have v2 : VR μ2 (.agg a2.toArray) (.agg c2) := .agg _ _ (by simpa [Value.cells] using l2.1) (fun j a b => by simpa [Value.cells] using l2.2 j (by simpa using a) (by simpa [Value.cells] using b))
  have hgn : P.globals.size ≤ h2.n := Nat.le_trans (Nat.le_trans hg g1.n) g2.n
  have hgl : g < W.heap.size := by omega
  have eT : h2.ob g = .cells (zs.map (Value.int k)) .ro g := ((g2.ob g (Nat.lt_of_lt_of_le hgl g1.n)).trans (g1.ob g hgl)).trans (if_pos rfl)
  refine hc h2.clean a1 a2 (r1.pre g2).clean r2.clean hgn (clean_ro eT) (clean_own h2) _ _ μ2 W #[.agg c1, .agg c2] _ (p2.sim.less (clean_less h2)) (LR.cons v1 (LR.cons v2 (LR.nil μ2))) (fun r' h' μ' cv w' hr p' hvr => ?_)
  subst hr
  refine ⟨by rw [hvr.bool], ⟨p'.sim.os, p'.sim.tape, p'.sim.out, ?_, fun b hb => (p'.sim.frame b hb).2⟩⟩
  rcases Nat.eq_zero_or_pos W.heap.size with e | e
  · omega
  · have := (p'.sim.frame (W.heap.size - 1) (by omega)).1; omega
theorem row_cell_tab {f : FuncId} {t : TypeId} {v : Value} {d : DataW H} {ps : List MemPlace} {W : World} (fl : Nat) (hfl : flat P fl t = true) (hg : P.globals.size ≤ W.heap.size) (hv : v.cells.toList = [v])
    {g : Nat} {nm : String} {k : IntKind} {zs : List Int} (hgs : g < P.globals.size) (hn : P.globalNamed nm = some g) (hT : Lib.TabIs P W nm k zs)
    (ht : DataW.Trod enc P W 0 (fun _ => true) held t v d ps) (hc : ∀ (h : AH) (av : Value), Rep P h t [av] → P.globals.size ≤ h.n → h.ob g = .cells (zs.map (Value.int k)) .ro g → CE P f [av] h fun r _ => r = .bool true) :
    Calls P f #[v] W fun e W' => e = .returned (.bool true) ∧ Below W.heap.size W W' := by
  obtain ⟨fuel, hx⟩ := ht
  rw [hv] at hx
  obtain ⟨μ, h, acs, p, g1, l, r⟩ := one_rep (FB := fun b => b < W.heap.size) (w0 := W) (fun b hb => hb) fl fuel t [v] _ hfl hx (Sim.baseT W hg hgs hn hT)
  obtain ⟨av, rfl⟩ : ∃ av, acs = [av] := by
    match acs, l.1 with
    | [a], _ => exact ⟨a, rfl⟩
  have hgl : g < W.heap.size := by omega
  refine hc h av r (Nat.le_trans hg g1.n) ((g1.ob g hgl).trans (if_pos rfl)) _ _ μ W #[v] _ p.sim l (fun r' h' μ' cv w' hr p' hvr => ?_)
  subst hr
  refine ⟨by rw [hvr.bool], ⟨p'.sim.os, p'.sim.tape, p'.sim.out, ?_, fun b hb => (p'.sim.frame b hb).2⟩⟩
  rcases Nat.eq_zero_or_pos W.heap.size with e | e
  · omega
  · have := (p'.sim.frame (W.heap.size - 1) (by omega)).1; omega
end Go.Sim
