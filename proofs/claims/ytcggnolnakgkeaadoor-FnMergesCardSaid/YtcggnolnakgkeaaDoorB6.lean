/- Parts of the proof of the row: the ground, contracts of the functions that it reaches (U9, SimCutW, U10, U11, L30, L34, L35, L36, L35b, L36b, L37, L38, L39, L40, L41, P23). Conditions: those that each theorem names. -/
import Derived.Test.YtcggnolnakgkeaaDoorB5
namespace Go.Proofs.YtcggnolnakgkeaaDoor
open Go Go.Sim Go.Proofs
set_option linter.unusedSimpArgs false
set_option linter.unusedVariables false
set_option maxRecDepth 100000
set_option maxHeartbeats 1000000
theorem Filled.flat {α : Type} {k : Nat} {enc : α → List Value} (he : ∀ x, (enc x).length = k) : ∀ {l : List α} {cs : List Value}, Filled k enc l cs l.length → cs = (l.map enc).flatten
  | [], cs, w => by
    have := w.1
    simp only [List.length_nil, Nat.zero_mul] at this
    simpa using List.eq_nil_of_length_eq_zero this
  | x :: r, cs, w => by
    have h0 := w.2 0 (by simp) (by simp)
    simp only [Nat.zero_mul, List.drop_zero, List.getElem_cons_zero] at h0
    have hl := w.1
    simp only [List.length_cons, Nat.succ_mul] at hl
    have ih := Filled.flat he (l := r) (cs := cs.drop k) ⟨by rw [List.length_drop]; omega, fun j hj _ => by
      have := w.2 (j + 1) (by simpa using hj) (by simpa using hj)
      rw [List.drop_drop]
      rw [Nat.succ_mul, Nat.add_comm] at this
      simpa using this⟩
    rw [List.map_cons, List.flatten_cons, ← ih, ← h0, List.take_append_drop]
theorem toStore_o (s : Store) (A B : Option Addr) (ca cb : Nat) (h : AH) (hR : RdS h A B s) (hz : Sz s) :
    CC Tryd.prog 14 [.agg #[.slice A s.vars.length ca, .slice B s.cells.length cb, .string s.out]] h (fun v h' => ∃ vA vB, v = .agg #[vA, vB, .string s.out] ∧ OwnT h h' vA vB s ∧ Pre h h') := by
  refine CC.withBig (fun big => ?_)
  have hA := hR.vars
  have hB := hR.cells
  have hnv := hz.nv
  have hnc := hz.nc
  refine CC.ofN Tryd.func14 Tryd.ntmps14 Tryd.results14 rfl (by decide) (by kernel_rfl) ?_
  simp (maxSteps := 1000000) -implicitDefEqProofs only [push_cast, seval]
  have p1 : Pre h (((h.alloc (AOb.cells [Value.slice A s.vars.length ca, Value.slice B s.cells.length cb, Value.string s.out] Stat.solo h.n)).alloc (AOb.cells [Value.slice none 0 0, Value.slice none 0 0, Value.string ⟨#[]⟩] Stat.solo (h.n + 1))).alloc (AOb.cells [Value.slice none 0 0, Value.slice none 0 0, Value.string ⟨#[]⟩] Stat.solo (h.n + 2))) := (((Pre.refl _).alloc _).alloc _).alloc _
  with_reducible refine CC.mono (toVarS_c s.vars A ca _ (hA.pre big p1) hnv) (fun v h1 hv => ?_)
  with_reducible refine Exists.elim hv (fun cs hv => ?_)
  have e1 := hv.1
  have e2 := hv.2.1
  have f1 := hv.2.2
  clear hv
  subst e1 e2
  simp (maxSteps := 1000000) -implicitDefEqProofs only [push_cast, seval]
  have p2 : Pre h (((((h.alloc (AOb.cells [Value.slice A s.vars.length ca, Value.slice B s.cells.length cb, Value.string s.out] Stat.solo h.n)).alloc (AOb.cells [Value.slice none 0 0, Value.slice none 0 0, Value.string ⟨#[]⟩] Stat.solo (h.n + 1))).alloc (AOb.cells [Value.slice none 0 0, Value.slice none 0 0, Value.string ⟨#[]⟩] Stat.solo (h.n + 2))).alloc (AOb.cells cs Stat.solo (h.n + 3))).set (h.n + 2) (AOb.cells [Value.slice (some ⟨h.n + 3, 0, none⟩) s.vars.length 2, Value.slice none 0 0, Value.string ⟨#[]⟩] Stat.solo (h.n + 2))) := (p1.alloc _).set (by omega) _
  with_reducible refine CC.mono (toCellS_c s.cells B cb _ (hB.pre big p2) hnc) (fun v h1 hv => ?_)
  with_reducible refine Exists.elim hv (fun cs2 hv => ?_)
  have e1 := hv.1
  have e2 := hv.2.1
  have f2 := hv.2.2
  clear hv
  subst e1 e2
  have c1 := Filled.flat (k := 2) (enc := Var.enc) (fun _ => rfl) f1
  have c2 := Filled.flat (k := 3) (enc := Cell.enc) (fun _ => rfl) f2
  have z1 := f1.1
  have z2 := f2.1
  simp (maxSteps := 1000000) -implicitDefEqProofs only [push_cast, seval]
  refine ⟨_, _, rfl, ⟨.inr ⟨h.n + 3, 0, s.vars.length, rfl, by omega, ?_⟩, .inr ⟨h.n + 4, 0, s.cells.length, rfl, by omega, ?_⟩, fun i e e' => ?_⟩, ?_⟩
  · rw [← c1]
    exact ⟨by show h.n + 3 < h.n + 5; omega, z1, cs, .solo, h.n + 3, by simp [AH.set, AH.alloc], .inl rfl, by omega, rfl⟩
  · rw [← c2]
    exact ⟨by show h.n + 4 < h.n + 5; omega, z2, cs2, .solo, h.n + 4, by simp [AH.set, AH.alloc], .inl rfl, by omega, rfl⟩
  · simp only [atBlock] at e e'
    omega
  · refine Pre.set (Pre.set (p2.alloc _) ?_ _) ?_ _ <;> omega
end Go.Proofs.YtcggnolnakgkeaaDoor
/- A step of a walk, cut off by what stands behind it. Conditions: none. -/
set_option linter.unusedVariables false
namespace Go.Sim
variable {P : Program} {h : AH}
theorem WC.cutA {α : Type} {c : Code} {Q : Exit → List Value → AH → Prop} {t : List Value} (V D : List Nat) (vals : α → List Value) (J : α → AH → Prop)
    (h1 : WC P c (thn (fun t' h'' => ∃ b, t' = setF (setL t V (vals b)) (fun j => t'.getD j undef) D ∧ J b h'') Q) t h)
    (h2 : ∀ a g h', J a h' → Q .normal (setF (setL t V (vals a)) g D) h') : WC P c Q t h :=
  WC.mono h1 (fun ex t' h' q => by
    cases ex with
    | normal =>
      obtain ⟨b, e, j⟩ := q
      rw [e]
      exact h2 b _ h' j
    | _ => exact q)
end Go.Sim
namespace Go.Proofs.YtcggnolnakgkeaaDoor
open Go Go.Sim Go.Proofs
set_option linter.unusedSimpArgs false
set_option linter.unusedVariables false
set_option maxRecDepth 100000
set_option maxHeartbeats 1000000
theorem varW_le {l : List Var} {x : Var} (hx : x ∈ l) : x.name.size + x.val.size ≤ varW l l.length := by
  obtain ⟨i, hi, rfl⟩ := List.mem_iff_getElem.1 hx
  have := varW_succ hi
  have := varW_mono (l := l) (i := i + 1) (j := l.length) hi (Nat.le_refl _)
  omega
theorem cellW_le {l : List Cell} {x : Cell} (hx : x ∈ l) : x.name.size + x.key.size + x.val.size ≤ cellW l l.length := by
  obtain ⟨i, hi, rfl⟩ := List.mem_iff_getElem.1 hx
  have := cellW_succ hi
  have := cellW_mono (l := l) (i := i + 1) (j := l.length) hi (Nat.le_refl _)
  omega
theorem SzA.szB {s : Store} (h : storeW s ≤ 1048576) : SzB s := by
  simp only [storeW] at h
  exact ⟨fun x hx => by have := varW_le hx; omega, fun x hx => by have := cellW_le hx; omega, by omega, by omega, by omega⟩
theorem OwnT_rds {h0 h : AH} {vA vB : Value} {st : Store} (o : OwnT h0 h vA vB st) : ∃ A B ca cb, vA = .slice A st.vars.length ca ∧ vB = .slice B st.cells.length cb ∧ RdS h A B st := o.rdt.rds
theorem eqStore_t (h : AH) (vA vB wA wB : Value) (s t : Store) (oa : RdT h vA vB s) (ob : RdT h wA wB t) (zs : Sz s) (zt : Sz t) :
    CD Tryd.prog 15 [.agg #[vA, vB, .string s.out], .agg #[wA, wB, .string t.out]] h (.bool (decide (s = t))) h := by
  obtain ⟨A, B, ca, cb, rfl, rfl, ra⟩ := oa.rds
  obtain ⟨C, D, cc, cd, rfl, rfl, rb⟩ := ob.rds
  exact eqStore_c s t A B C D ca cb cc cd h ra rb zs zt
theorem markStore_t (h0 h : AH) (vA vB : Value) (st : Store) (u : ByteArray) (k nv nc : Nat) (o : OwnT h0 h vA vB st) (ev : st.vars.length = nv) (ec : st.cells.length = nc) (k0 : 0 < k) (hk : k < 100000000) (hv : nv < 274877906944) (hc : nc < 274877906944) :
    CC Tryd.prog 16 [.agg #[vA, vB, .string u], .int .i64 (k : Nat)] h (fun r h' => r = .int .i64 ((k + nv * 2 + nc * 3 : Nat) : Int) ∧ MkS h' vA vB nv nc k ∧ h.n ≤ h'.n ∧ ∀ j, j < h.n → ¬ (atBlock vA j ∨ atBlock vB j) → live h j → h'.ob j = h.ob j) := by
  have o1 := o.one
  have b := o.a
  have d := o.b
  have c := o.ne
  have q1 := o1.1
  have q2 := o1.2
  have l1 := vars_len st
  have l2 := cells_len st
  rw [ev] at l1
  rw [ec] at l2
  with_reducible refine nameN (k + nv * 2) (fun K1 hK1 => ?_)
  refine CC.ofN Tryd.func16 Tryd.ntmps16 Tryd.results16 rfl (by decide) (by kernel_rfl) ?_
  simp (maxSteps := 1000000) -implicitDefEqProofs only [push_cast, seval, q1, q2]
  with_reducible refine CC.mono (markV_any _ nv k vA _ _ (b.alloc _) l1 k0 (by omega) hv) (fun v h1 hv => ?_)
  have e1 := hv.1
  have g1 := hv.2.1
  have w1 := hv.2.2
  clear hv
  rw [← hK1] at e1
  subst e1
  have ox : h1.ob h.n = AOb.cells [vA, vB, Value.string u] .solo h.n := (w1.ob h.n (fun e => by have := b.range e; omega) (.inl ⟨h.n, ⟨_, _, alloc_same _, .inl rfl⟩⟩)).trans (alloc_same _)
  have lx : h.n < h1.n := by rw [w1.n]; exact lt_alloc _
  have kd : ∀ i, atBlock vB i → h1.ob i = (h.alloc (AOb.cells [vA, vB, Value.string u] .solo h.n)).ob i := fun i hi => w1.ob i (fun e => c i e hi) ((d.alloc _).live hi)
  have d1 : Gr h0.n h1 vB 3 _ := (d.alloc _).keep (by rw [w1.n]; exact Nat.le_refl _) kd
  simp (maxSteps := 1000000) -implicitDefEqProofs only [push_cast, seval, ox, lx, rd_of ox, rd1_of ox]
  with_reducible refine CC.mono (markC_any _ nc K1 vB _ _ d1 l2 (by omega) (by omega) hc) (fun v h2 hv => ?_)
  have e1 := hv.1
  have g2 := hv.2.1
  have w2 := hv.2.2
  clear hv
  subst e1
  simp (maxSteps := 1000000) -implicitDefEqProofs only [push_cast, seval]
  rw [hK1] at g2
  refine ⟨by rw [hK1]; push_cast; rfl, ⟨_, _, g1.keep (by rw [w2.n]; exact Nat.le_refl _) (fun i hi => w2.ob i (fun e => c i hi e) (g1.live hi)), g2⟩, by rw [w2.n]; omega, fun j hj hb hl => ?_⟩
  have e1 : h1.ob j = h.ob j := (w1.ob j (fun e => hb (.inl e)) (live.of hl (alloc_lt _ hj))).trans (alloc_lt _ hj)
  exact (w2.ob j (fun e => hb (.inr e)) (live.of hl e1)).trans e1
end Go.Proofs.YtcggnolnakgkeaaDoor
namespace Go.Proofs.YtcggnolnakgkeaaDoor
open Go Go.Sim Go.Proofs
set_option linter.unusedSimpArgs false
set_option linter.unusedVariables false
set_option maxRecDepth 100000
set_option maxHeartbeats 2000000
theorem Pow_pre {h h' : AH} {g : Nat} (p : Pre h h') (hg : g < h.n) (ht : Pow g h) : Pow g h' := (p.ob _ hg).trans ht
theorem nameI1 (n : Int) {G : Prop} (k : ∀ N, N = n → G) : G := k n rfl
theorem eqStore_r (h : AH) (vA vB wA wB : Value) (s : Store) (oa : RdT h vA vB s) (ob : RdT h wA wB s) (zs : Sz s) :
    CD Tryd.prog 15 [.agg #[vA, vB, .string s.out], .agg #[wA, wB, .string s.out]] h (.bool true) h := by
  have := eqStore_t h vA vB wA wB s s oa ob zs zs
  rwa [decide_eq_true (rfl : s = s)] at this
theorem law_MergeDelta (s d : Store) (A B C D : Option Addr) (ca cb cc cd : Nat) (h : AH) (hR : RdS h A B s) (hQ : RdS h C D d) (z0 : SzA s) (z1 : SzA d) (big : Big h) (hlv : ∀ j, (h.ob j).own = none) (ht : Pow 3 h) (hg : 3 < h.n) :
    CE Tryd.prog 4 [.agg #[.slice A s.vars.length ca, .slice B s.cells.length cb, .string s.out], .agg #[.slice C d.vars.length cc, .slice D d.cells.length cd, .string d.out]] h fun v _ => v = .bool true := by
  refine CE.ofN Tryd.func4 Tryd.ntmps4 Tryd.results4 rfl (by kernel_rfl) ?_
  simp (maxSteps := 1000000) -implicitDefEqProofs only [push_cast, seval]
  have pb : Pre h ((h.alloc (AOb.cells [.slice A s.vars.length ca, .slice B s.cells.length cb, .string s.out] .solo h.n)).alloc (AOb.cells [.slice C d.vars.length cc, .slice D d.cells.length cd, .string d.out] .solo (h.n + 1))) := ((Pre.refl h).alloc _).alloc _
  have hn0 : ((h.alloc (AOb.cells [.slice A s.vars.length ca, .slice B s.cells.length cb, .string s.out] .solo h.n)).alloc (AOb.cells [.slice C d.vars.length cc, .slice D d.cells.length cd, .string d.out] .solo (h.n + 1))).n = h.n + 2 := rfl
  have oS : ((h.alloc (AOb.cells [.slice A s.vars.length ca, .slice B s.cells.length cb, .string s.out] .solo h.n)).alloc (AOb.cells [.slice C d.vars.length cc, .slice D d.cells.length cd, .string d.out] .solo (h.n + 1))).ob h.n = AOb.cells [.slice A s.vars.length ca, .slice B s.cells.length cb, .string s.out] .solo h.n := (alloc_lt _ (by show h.n < h.n + 1; omega)).trans (alloc_same _)
  have oD : ((h.alloc (AOb.cells [.slice A s.vars.length ca, .slice B s.cells.length cb, .string s.out] .solo h.n)).alloc (AOb.cells [.slice C d.vars.length cc, .slice D d.cells.length cd, .string d.out] .solo (h.n + 1))).ob (h.n + 1) = AOb.cells [.slice C d.vars.length cc, .slice D d.cells.length cd, .string d.out] .solo (h.n + 1) := alloc_same _
  generalize ((h.alloc (AOb.cells [.slice A s.vars.length ca, .slice B s.cells.length cb, .string s.out] .solo h.n)).alloc (AOb.cells [.slice C d.vars.length cc, .slice D d.cells.length cd, .string d.out] .solo (h.n + 1))) = H0 at pb hn0 oS oD
  have r0 : RdS H0 A B s := ⟨hR.vars.pre big pb, hR.cells.pre big pb⟩
  have q0 : RdS H0 C D d := ⟨hQ.vars.pre big pb, hQ.cells.pre big pb⟩
  with_reducible refine CD.to (szStore_c s A B ca cb 1048576 _ r0 z0 (by omega)) ?_
  with_reducible refine nameI1 (if (1048576 : Int) - storeW s < 0 then -1 else 1048576 - storeW s) (fun w1 h1 => ?_)
  rw [← h1]
  have lS : h.n < H0.n := by omega
  have lD : h.n + 1 < H0.n := by omega
  simp (maxSteps := 1000000) -implicitDefEqProofs only [push_cast, seval, oS, rd_of oS, rd1_of oS, oD, rd_of oD, rd1_of oD, lS, lD]
  with_reducible refine bcase_d (fun hb => ?_) (fun hb => ?_)
  · simp (maxSteps := 1000000) -implicitDefEqProofs only [push_cast, seval]
  have ws : storeW s ≤ 1048576 := by
    by_cases e : (1048576 : Int) - storeW s < 0
    · rw [if_pos e] at h1; omega
    · omega
  have w1v : w1 = 1048576 - storeW s := by rw [h1, if_neg (by omega)]
  simp (maxSteps := 1000000) -implicitDefEqProofs only [push_cast, seval, oS, rd_of oS, rd1_of oS, oD, rd_of oD, rd1_of oD, lS, lD]
  with_reducible refine CD.to (szStore_c d C D cc cd w1 _ q0 z1 (by omega)) ?_
  with_reducible refine nameI1 (if w1 - storeW d < 0 then -1 else w1 - storeW d) (fun w2 h2 => ?_)
  rw [← h2]
  simp (maxSteps := 1000000) -implicitDefEqProofs only [push_cast, seval, oS, rd_of oS, rd1_of oS, oD, rd_of oD, rd1_of oD, lS, lD]
  with_reducible refine bcase_d (fun hb2 => ?_) (fun hb2 => ?_)
  · simp (maxSteps := 1000000) -implicitDefEqProofs only [push_cast, seval]
  have wd : storeW d ≤ 1048576 := by
    by_cases e : w1 - storeW d < 0
    · rw [if_pos e] at h2; omega
    · omega
  have zs : SzB s := SzA.szB ws
  have zd : SzB d := SzA.szB wd
  clear h1 h2 w1v
  simp (maxSteps := 1000000) -implicitDefEqProofs only [push_cast, seval, oS, rd_of oS, rd1_of oS, oD, rd_of oD, rd1_of oD, lS, lD]
  refine WC.cutA [6] [24, 25, 26, 27, 28] (fun a : Nat × Value × Value => [.pointer (some ⟨a.1, 0, none⟩)]) (fun a h' => h'.ob a.1 = AOb.cells [a.2.1, a.2.2, .string (mergeD s d).out] .solo a.1 ∧ OwnT H0 h' a.2.1 a.2.2 (mergeD s d) ∧ (∀ j, atBlock a.2.1 j ∨ atBlock a.2.2 j → j ≠ a.1) ∧ Pre H0 h' ∧ H0.n ≤ a.1 ∧ a.1 < h'.n) ?_ ?_
  · refine WC.drawT (by kernel_rfl) (by kernel_rfl) (.q 0 (.q 2 (.b 1 (.b 3 (.b 4 (.a 5 false (.a 6 true (.done))) 5 (.a 4 true (.a 6 true (.done)))) 5 (.a 3 false (.a 4 true (.a 6 true (.done))))) 5 (.a 1 false (.a 3 false (.a 4 true (.a 6 true (.done)))))))) (by kernel_rfl) ?_
    simp (maxSteps := 1000000) -implicitDefEqProofs only [push_cast, seval, oS, rd_of oS, rd1_of oS, oD, rd_of oD, rd1_of oD, lS, lD]
    refine And.intro ?_ ?_
    · with_reducible refine CC.mono (toStore_o s A B ca cb _ ⟨hR.vars.pre big (pb.trans (Pre.refl _)), hR.cells.pre big (pb.trans (Pre.refl _))⟩ zs.sz) (fun v u1 hv => ?_)
      with_reducible refine Exists.elim hv (fun vA hv => ?_)
      with_reducible refine Exists.elim hv (fun vB hv => ?_)
      have e1 := hv.1
      have ou1 := hv.2.1
      have qu1 := hv.2.2
      clear hv
      subst e1
      have Pu1 : Pre H0 u1 := ((Pre.refl _).trans qu1)
      have lu1 := Pu1.n
      have Su1 := (Pu1.ob h.n lS).trans oS
      have Du1 := (Pu1.ob (h.n + 1) lD).trans oD
      have LSu1 : h.n < u1.n := by omega
      have LDu1 : h.n + 1 < u1.n := by omega
      have yau1 := ou1.one.1
      have ybu1 := ou1.one.2
      simp (maxSteps := 1000000) -implicitDefEqProofs only [push_cast, seval, oS, rd_of oS, rd1_of oS, oD, rd_of oD, rd1_of oD, lS, lD, Su1, rd_of Su1, rd1_of Su1, Du1, rd_of Du1, rd1_of Du1, LSu1, LDu1, yau1, ybu1]
      refine And.intro ?_ ?_
      · with_reducible refine CC.mono (toStore_o d C D cc cd _ ⟨hQ.vars.pre big (pb.trans Pu1), hQ.cells.pre big (pb.trans Pu1)⟩ zd.sz) (fun v u2 hv => ?_)
        with_reducible refine Exists.elim hv (fun wA hv => ?_)
        with_reducible refine Exists.elim hv (fun wB hv => ?_)
        have e1 := hv.1
        have ou2 := hv.2.1
        have qu2 := hv.2.2
        clear hv
        subst e1
        have Pu2 : Pre H0 u2 := (Pu1.trans qu2)
        have lu2 := Pu2.n
        have Su2 := (Pu2.ob h.n lS).trans oS
        have Du2 := (Pu2.ob (h.n + 1) lD).trans oD
        have LSu2 : h.n < u2.n := by omega
        have LDu2 : h.n + 1 < u2.n := by omega
        have yau2 := ou2.one.1
        have ybu2 := ou2.one.2
        simp (maxSteps := 1000000) -implicitDefEqProofs only [push_cast, seval, oS, rd_of oS, rd1_of oS, oD, rd_of oD, rd1_of oD, lS, lD, Su1, rd_of Su1, rd1_of Su1, Du1, rd_of Du1, rd1_of Du1, LSu1, LDu1, yau1, ybu1, Su2, rd_of Su2, rd1_of Su2, Du2, rd_of Du2, rd1_of Du2, LSu2, LDu2, yau2, ybu2]
        refine And.intro ?_ ?_
        · have r1 : RdT u2 vA vB s := ou1.rdt.pre qu2
          with_reducible refine CC.mono (MergeDelta_s s d vA vB wA wB _ (r1) (ou2.rdt) zs zd) (fun v u3 hv => ?_)
          with_reducible refine Exists.elim hv (fun tA hv => ?_)
          with_reducible refine Exists.elim hv (fun tB hv => ?_)
          have e1 := hv.1
          have ou3 := hv.2.1
          have qu3 := hv.2.2
          clear hv
          subst e1
          have Pu3 : Pre H0 u3 := (Pu2.trans qu3)
          have lu3 := Pu3.n
          have Su3 := (Pu3.ob h.n lS).trans oS
          have Du3 := (Pu3.ob (h.n + 1) lD).trans oD
          have LSu3 : h.n < u3.n := by omega
          have LDu3 : h.n + 1 < u3.n := by omega
          have yau3 := ou3.one.1
          have ybu3 := ou3.one.2
          simp (maxSteps := 1000000) -implicitDefEqProofs only [push_cast, seval, oS, rd_of oS, rd1_of oS, oD, rd_of oD, rd1_of oD, lS, lD, Su1, rd_of Su1, rd1_of Su1, Du1, rd_of Du1, rd1_of Du1, LSu1, LDu1, yau1, ybu1, Su2, rd_of Su2, rd1_of Su2, Du2, rd_of Du2, rd1_of Du2, LSu2, LDu2, yau2, ybu2, Su3, rd_of Su3, rd1_of Su3, Du3, rd_of Du3, rd1_of Du3, LSu3, LDu3, yau3, ybu3]
          have hX : H0.n ≤ u3.n := lu3
          have bX : ∀ j, atBlock tA j ∨ atBlock tB j → j ≠ u3.n := fun j e => by
            have := (ou3.range e).2
            omega
          exact ⟨(u3.n, tA, tB), by kernel_rfl, ⟨set_same _ _, (ou3.mono lu2).to (Nat.le_succ _) (fun i e => (set_ne _ (bX i e)).trans (alloc_lt _ (ou3.range e).2)), bX, (Pu3.alloc _).set hX _, hX, Nat.lt_succ_self _⟩⟩
        · have r1 : RdT u2 vA vB s := ou1.rdt.pre qu2
          with_reducible refine CC.mono (MergeDelta_s s d vA vB wA wB _ (r1.pre ((Pre.refl u2).alloc _)) (ou2.rdt.pre ((Pre.refl u2).alloc _)) zs zd) (fun v u3 hv => ?_)
          with_reducible refine Exists.elim hv (fun tA hv => ?_)
          with_reducible refine Exists.elim hv (fun tB hv => ?_)
          have e1 := hv.1
          have ou3 := hv.2.1
          have qu3 := hv.2.2
          clear hv
          subst e1
          have Pu3 : Pre H0 u3 := ((Pu2.alloc _).trans qu3)
          have lu3 := Pu3.n
          have Su3 := (Pu3.ob h.n lS).trans oS
          have Du3 := (Pu3.ob (h.n + 1) lD).trans oD
          have LSu3 : h.n < u3.n := by omega
          have LDu3 : h.n + 1 < u3.n := by omega
          have yau3 := ou3.one.1
          have ybu3 := ou3.one.2
          have Gu3 : u3.ob (u2.n) = AOb.cells [.slice none 0 0, .slice none 0 0, .string ⟨#[]⟩] .solo (u2.n) := (qu3.ob _ (lt_alloc _)).trans (alloc_same _)
          have LGu3 : u2.n < u3.n := Nat.lt_of_lt_of_le (lt_alloc _) qu3.n
          simp (maxSteps := 1000000) -implicitDefEqProofs only [push_cast, seval, oS, rd_of oS, rd1_of oS, oD, rd_of oD, rd1_of oD, lS, lD, Su1, rd_of Su1, rd1_of Su1, Du1, rd_of Du1, rd1_of Du1, LSu1, LDu1, yau1, ybu1, Su2, rd_of Su2, rd1_of Su2, Du2, rd_of Du2, rd1_of Du2, LSu2, LDu2, yau2, ybu2, Gu3, rd_of Gu3, rd1_of Gu3, LGu3, Su3, rd_of Su3, rd1_of Su3, Du3, rd_of Du3, rd1_of Du3, LSu3, LDu3, yau3, ybu3]
          have hX : H0.n ≤ u2.n := lu2
          have bX : ∀ j, atBlock tA j ∨ atBlock tB j → j ≠ u2.n := fun j e => by
            have : u2.n + 1 ≤ j := (ou3.range e).1
            omega
          exact ⟨(u2.n, tA, tB), by kernel_rfl, ⟨set_same _ _, (ou3.mono (Nat.le_succ_of_le lu2)).to (Nat.le_refl _) (fun i e => set_ne _ (bX i e)), bX, (Pu3).set hX _, hX, LGu3⟩⟩
      · with_reducible refine CC.mono (toStore_o d C D cc cd _ ⟨hQ.vars.pre big (pb.trans (Pu1.alloc _)), hQ.cells.pre big (pb.trans (Pu1.alloc _))⟩ zd.sz) (fun v u2 hv => ?_)
        with_reducible refine Exists.elim hv (fun wA hv => ?_)
        with_reducible refine Exists.elim hv (fun wB hv => ?_)
        have e1 := hv.1
        have ou2 := hv.2.1
        have qu2 := hv.2.2
        clear hv
        subst e1
        have Pu2 : Pre H0 u2 := ((Pu1.alloc _).trans qu2)
        have lu2 := Pu2.n
        have Su2 := (Pu2.ob h.n lS).trans oS
        have Du2 := (Pu2.ob (h.n + 1) lD).trans oD
        have LSu2 : h.n < u2.n := by omega
        have LDu2 : h.n + 1 < u2.n := by omega
        have yau2 := ou2.one.1
        have ybu2 := ou2.one.2
        have Gu2 : u2.ob (u1.n) = AOb.cells [.slice none 0 0, .slice none 0 0, .string ⟨#[]⟩] .solo (u1.n) := (qu2.ob _ (lt_alloc _)).trans (alloc_same _)
        have LGu2 : u1.n < u2.n := Nat.lt_of_lt_of_le (lt_alloc _) qu2.n
        simp (maxSteps := 1000000) -implicitDefEqProofs only [push_cast, seval, oS, rd_of oS, rd1_of oS, oD, rd_of oD, rd1_of oD, lS, lD, Su1, rd_of Su1, rd1_of Su1, Du1, rd_of Du1, rd1_of Du1, LSu1, LDu1, yau1, ybu1, Gu2, rd_of Gu2, rd1_of Gu2, LGu2, Su2, rd_of Su2, rd1_of Su2, Du2, rd_of Du2, rd1_of Du2, LSu2, LDu2, yau2, ybu2]
        have r1 : RdT u2 vA vB s := ou1.rdt.pre (((Pre.refl u1).alloc _).trans qu2)
        with_reducible refine CC.mono (MergeDelta_s s d vA vB wA wB _ (r1) (ou2.rdt) zs zd) (fun v u3 hv => ?_)
        with_reducible refine Exists.elim hv (fun tA hv => ?_)
        with_reducible refine Exists.elim hv (fun tB hv => ?_)
        have e1 := hv.1
        have ou3 := hv.2.1
        have qu3 := hv.2.2
        clear hv
        subst e1
        have Pu3 : Pre H0 u3 := (Pu2.trans qu3)
        have lu3 := Pu3.n
        have Su3 := (Pu3.ob h.n lS).trans oS
        have Du3 := (Pu3.ob (h.n + 1) lD).trans oD
        have LSu3 : h.n < u3.n := by omega
        have LDu3 : h.n + 1 < u3.n := by omega
        have yau3 := ou3.one.1
        have ybu3 := ou3.one.2
        have Gu3 : u3.ob (u1.n) = AOb.cells [.slice none 0 0, .slice none 0 0, .string ⟨#[]⟩] .solo (u1.n) := (qu3.ob _ LGu2).trans Gu2
        have LGu3 : u1.n < u3.n := Nat.lt_of_lt_of_le LGu2 qu3.n
        simp (maxSteps := 1000000) -implicitDefEqProofs only [push_cast, seval, oS, rd_of oS, rd1_of oS, oD, rd_of oD, rd1_of oD, lS, lD, Su1, rd_of Su1, rd1_of Su1, Du1, rd_of Du1, rd1_of Du1, LSu1, LDu1, yau1, ybu1, Gu2, rd_of Gu2, rd1_of Gu2, LGu2, Su2, rd_of Su2, rd1_of Su2, Du2, rd_of Du2, rd1_of Du2, LSu2, LDu2, yau2, ybu2, Gu3, rd_of Gu3, rd1_of Gu3, LGu3, Su3, rd_of Su3, rd1_of Su3, Du3, rd_of Du3, rd1_of Du3, LSu3, LDu3, yau3, ybu3]
        have hX : H0.n ≤ u1.n := lu1
        have bX : ∀ j, atBlock tA j ∨ atBlock tB j → j ≠ u1.n := fun j e => by
          have h1 : u2.n ≤ j := (ou3.range e).1
          have h2 := LGu2
          omega
        exact ⟨(u1.n, tA, tB), by kernel_rfl, ⟨set_same _ _, (ou3.mono (by omega)).to (Nat.le_refl _) (fun i e => set_ne _ (bX i e)), bX, (Pu3).set hX _, hX, LGu3⟩⟩
    · with_reducible refine CC.mono (toStore_o s A B ca cb _ ⟨hR.vars.pre big (pb.trans ((Pre.refl _).alloc _)), hR.cells.pre big (pb.trans ((Pre.refl _).alloc _))⟩ zs.sz) (fun v u1 hv => ?_)
      with_reducible refine Exists.elim hv (fun vA hv => ?_)
      with_reducible refine Exists.elim hv (fun vB hv => ?_)
      have e1 := hv.1
      have ou1 := hv.2.1
      have qu1 := hv.2.2
      clear hv
      subst e1
      have Pu1 : Pre H0 u1 := (((Pre.refl _).alloc _).trans qu1)
      have lu1 := Pu1.n
      have Su1 := (Pu1.ob h.n lS).trans oS
      have Du1 := (Pu1.ob (h.n + 1) lD).trans oD
      have LSu1 : h.n < u1.n := by omega
      have LDu1 : h.n + 1 < u1.n := by omega
      have yau1 := ou1.one.1
      have ybu1 := ou1.one.2
      have Gu1 : u1.ob (H0.n) = AOb.cells [.slice none 0 0, .slice none 0 0, .string ⟨#[]⟩] .solo (H0.n) := (qu1.ob _ (lt_alloc _)).trans (alloc_same _)
      have LGu1 : H0.n < u1.n := Nat.lt_of_lt_of_le (lt_alloc _) qu1.n
      simp (maxSteps := 1000000) -implicitDefEqProofs only [push_cast, seval, oS, rd_of oS, rd1_of oS, oD, rd_of oD, rd1_of oD, lS, lD, Gu1, rd_of Gu1, rd1_of Gu1, LGu1, Su1, rd_of Su1, rd1_of Su1, Du1, rd_of Du1, rd1_of Du1, LSu1, LDu1, yau1, ybu1]
      with_reducible refine CC.mono (toStore_o d C D cc cd _ ⟨hQ.vars.pre big (pb.trans Pu1), hQ.cells.pre big (pb.trans Pu1)⟩ zd.sz) (fun v u2 hv => ?_)
      with_reducible refine Exists.elim hv (fun wA hv => ?_)
      with_reducible refine Exists.elim hv (fun wB hv => ?_)
      have e1 := hv.1
      have ou2 := hv.2.1
      have qu2 := hv.2.2
      clear hv
      subst e1
      have Pu2 : Pre H0 u2 := (Pu1.trans qu2)
      have lu2 := Pu2.n
      have Su2 := (Pu2.ob h.n lS).trans oS
      have Du2 := (Pu2.ob (h.n + 1) lD).trans oD
      have LSu2 : h.n < u2.n := by omega
      have LDu2 : h.n + 1 < u2.n := by omega
      have yau2 := ou2.one.1
      have ybu2 := ou2.one.2
      have Gu2 : u2.ob (H0.n) = AOb.cells [.slice none 0 0, .slice none 0 0, .string ⟨#[]⟩] .solo (H0.n) := (qu2.ob _ LGu1).trans Gu1
      have LGu2 : H0.n < u2.n := Nat.lt_of_lt_of_le LGu1 qu2.n
      simp (maxSteps := 1000000) -implicitDefEqProofs only [push_cast, seval, oS, rd_of oS, rd1_of oS, oD, rd_of oD, rd1_of oD, lS, lD, Gu1, rd_of Gu1, rd1_of Gu1, LGu1, Su1, rd_of Su1, rd1_of Su1, Du1, rd_of Du1, rd1_of Du1, LSu1, LDu1, yau1, ybu1, Gu2, rd_of Gu2, rd1_of Gu2, LGu2, Su2, rd_of Su2, rd1_of Su2, Du2, rd_of Du2, rd1_of Du2, LSu2, LDu2, yau2, ybu2]
      have r1 : RdT u2 vA vB s := ou1.rdt.pre qu2
      with_reducible refine CC.mono (MergeDelta_s s d vA vB wA wB _ (r1) (ou2.rdt) zs zd) (fun v u3 hv => ?_)
      with_reducible refine Exists.elim hv (fun tA hv => ?_)
      with_reducible refine Exists.elim hv (fun tB hv => ?_)
      have e1 := hv.1
      have ou3 := hv.2.1
      have qu3 := hv.2.2
      clear hv
      subst e1
      have Pu3 : Pre H0 u3 := (Pu2.trans qu3)
      have lu3 := Pu3.n
      have Su3 := (Pu3.ob h.n lS).trans oS
      have Du3 := (Pu3.ob (h.n + 1) lD).trans oD
      have LSu3 : h.n < u3.n := by omega
      have LDu3 : h.n + 1 < u3.n := by omega
      have yau3 := ou3.one.1
      have ybu3 := ou3.one.2
      have Gu3 : u3.ob (H0.n) = AOb.cells [.slice none 0 0, .slice none 0 0, .string ⟨#[]⟩] .solo (H0.n) := (qu3.ob _ LGu2).trans Gu2
      have LGu3 : H0.n < u3.n := Nat.lt_of_lt_of_le LGu2 qu3.n
      simp (maxSteps := 1000000) -implicitDefEqProofs only [push_cast, seval, oS, rd_of oS, rd1_of oS, oD, rd_of oD, rd1_of oD, lS, lD, Gu1, rd_of Gu1, rd1_of Gu1, LGu1, Su1, rd_of Su1, rd1_of Su1, Du1, rd_of Du1, rd1_of Du1, LSu1, LDu1, yau1, ybu1, Gu2, rd_of Gu2, rd1_of Gu2, LGu2, Su2, rd_of Su2, rd1_of Su2, Du2, rd_of Du2, rd1_of Du2, LSu2, LDu2, yau2, ybu2, Gu3, rd_of Gu3, rd1_of Gu3, LGu3, Su3, rd_of Su3, rd1_of Su3, Du3, rd_of Du3, rd1_of Du3, LSu3, LDu3, yau3, ybu3]
      have hX : H0.n ≤ H0.n := Nat.le_refl _
      have bX : ∀ j, atBlock tA j ∨ atBlock tB j → j ≠ H0.n := fun j e => by
        have h1 : u2.n ≤ j := (ou3.range e).1
        have h2 := LGu2
        omega
      exact ⟨(H0.n, tA, tB), by kernel_rfl, ⟨set_same _ _, (ou3.mono (Nat.le_trans lu1 (Nat.le_trans qu2.n (Nat.le_refl _)))).to (Nat.le_refl _) (fun i e => set_ne _ (bX i e)), bX, (Pu3).set hX _, hX, LGu3⟩⟩
  have zW : SzB (mergeD s d) := by
    have z := (zs.mergeV (l := d.vars) (fun x hx => (zd.vars x hx).1)).mergeC (l := d.cells) (fun x hx => (zd.cells x hx).1)
    exact ⟨z.vars, z.cells, by have := outB_size (s.out ++ d.out); show (outB (s.out ++ d.out)).size ≤ _; omega, z.nv, z.nc⟩
  generalize eW : mergeD s d = W at zW
  intro a g h1 hJ
  have k6 := hJ.1
  have oW := hJ.2.1
  have bW := hJ.2.2.1
  have P1 := hJ.2.2.2.1
  have L6 := hJ.2.2.2.2.1
  have M6 := hJ.2.2.2.2.2
  clear hJ
  generalize a.1 = p6 at *
  generalize a.2.1 = wA at *
  generalize a.2.2 = wB at *
  clear a
  have S1 : h1.ob h.n = _ := (P1.ob _ lS).trans oS
  have D1 : h1.ob (h.n + 1) = _ := (P1.ob _ lD).trans oD
  have l1 := P1.n
  have yW := oW.one
  have yWa := yW.1
  have yWb := yW.2
  clear yW
  simp (maxSteps := 1000000) -implicitDefEqProofs only [push_cast, seval, S1, rd_of S1, rd1_of S1, D1, rd_of D1, rd1_of D1, k6, rd_of k6, rd1_of k6]
  with_reducible refine CC.mono (toStore_o s A B ca cb _ ⟨hR.vars.pre big (pb.trans P1), hR.cells.pre big (pb.trans P1)⟩ zs.sz) (fun v u4 hv => ?_)
  with_reducible refine Exists.elim hv (fun xA hv => ?_)
  with_reducible refine Exists.elim hv (fun xB hv => ?_)
  have e1 := hv.1
  have oX := hv.2.1
  have q4 := hv.2.2
  clear hv
  subst e1
  have yXa := oX.one.1
  have yXb := oX.one.2
  have D4 : u4.ob (h.n + 1) = _ := (q4.ob _ (by omega)).trans D1
  have LD4 : h.n + 1 < u4.n := by have := q4.n; omega
  simp (maxSteps := 1000000) -implicitDefEqProofs only [push_cast, seval, D4, rd_of D4, rd1_of D4, LD4, yXa, yXb]
  generalize hH : ((u4.alloc (AOb.cells [.slice none 0 0, .slice none 0 0, .string ⟨#[]⟩] .solo u4.n)).set u4.n (AOb.cells [xA, xB, .string s.out] .solo u4.n)) = H5
  have q5 : Pre u4 H5 := by rw [← hH]; exact ((Pre.refl _).alloc _).set (Nat.le_refl _) _
  have k7 : H5.ob u4.n = AOb.cells [xA, xB, .string s.out] .solo u4.n := by rw [← hH]; exact set_same _ _
  have n5 : H5.n = u4.n + 1 := by rw [← hH]; rfl
  clear hH
  have P5 := P1.trans (q4.trans q5)
  with_reducible refine CC.mono (toStore_o d C D cc cd _ ⟨hQ.vars.pre big (pb.trans P5), hQ.cells.pre big (pb.trans P5)⟩ zd.sz) (fun v u5 hv => ?_)
  with_reducible refine Exists.elim hv (fun zA hv => ?_)
  with_reducible refine Exists.elim hv (fun zB hv => ?_)
  have e1 := hv.1
  have oZ := hv.2.1
  have q6 := hv.2.2
  clear hv
  subst e1
  have yZa := oZ.one.1
  have yZb := oZ.one.2
  have L7 : u4.n < u5.n := by have := q6.n; omega
  have k7' : u5.ob u4.n = _ := (q6.ob _ (by omega)).trans k7
  simp (maxSteps := 1000000) -implicitDefEqProofs only [push_cast, seval, k7', rd_of k7', rd1_of k7', L7, yZa, yZb, yXa, yXb]
  generalize hH : ((u5.alloc (AOb.cells [.slice none 0 0, .slice none 0 0, .string ⟨#[]⟩] .solo u5.n)).set u5.n (AOb.cells [zA, zB, .string d.out] .solo u5.n)) = H6
  have q7 : Pre u5 H6 := by rw [← hH]; exact ((Pre.refl _).alloc _).set (Nat.le_refl _) _
  have k8 : H6.ob u5.n = AOb.cells [zA, zB, .string d.out] .solo u5.n := by rw [← hH]; exact set_same _ _
  have n6 : H6.n = u5.n + 1 := by rw [← hH]; rfl
  clear hH
  have oX6 : OwnT h1 H6 xA xB s := oX.pre (q5.trans (q6.trans q7))
  have oZ6 : OwnT H5 H6 zA zB d := oZ.pre q7
  have P6 := P5.trans (q6.trans q7)
  have hMD := MergeDelta_i s d xA xB zA zB _ oX6.rdt oZ6.rdt zs zd (((pb.trans P6).ob _ hg).trans ht) (Nat.lt_of_lt_of_le hg (pb.trans P6).n)
  rw [eW] at hMD
  with_reducible refine CC.mono hMD (fun v u6 hv => ?_)
  with_reducible refine Exists.elim hv (fun gA hv => ?_)
  with_reducible refine Exists.elim hv (fun gB hv => ?_)
  have e1 := hv.1
  have oG := hv.2.1
  have q8 := hv.2.2
  clear hv
  subst e1
  have yGa := oG.one.1
  have yGb := oG.one.2
  have m4 := q4.n
  have m6 := q6.n
  have m8 := q8.n
  have k6' : u6.ob p6 = _ := ((q4.trans (q5.trans (q6.trans (q7.trans q8)))).ob _ M6).trans k6
  have L66 : p6 < u6.n := by omega
  simp (maxSteps := 1000000) -implicitDefEqProofs only [push_cast, seval, k6', rd_of k6', rd1_of k6', L66, yGa, yGb, yWa, yWb]
  generalize hH : ((u6.alloc (AOb.cells [.slice none 0 0, .slice none 0 0, .string ⟨#[]⟩] .solo u6.n)).set u6.n (AOb.cells [gA, gB, .string W.out] .solo u6.n)) = H7
  have q9 : Pre u6 H7 := by rw [← hH]; exact ((Pre.refl _).alloc _).set (Nat.le_refl _) _
  have k9 : H7.ob u6.n = AOb.cells [gA, gB, .string W.out] .solo u6.n := by rw [← hH]; exact set_same _ _
  have n7 : H7.n = u6.n + 1 := by rw [← hH]; rfl
  clear hH
  have pA : Pre h H7 := pb.trans (P6.trans (q8.trans q9))
  have oX7 : OwnT h1 H7 xA xB s := oX6.pre (q8.trans q9)
  have oZ7 : OwnT H5 H7 zA zB d := oZ6.pre (q8.trans q9)
  have oG7 : OwnT H6 H7 gA gB W := oG.pre q9
  have oW7 : OwnT H0 H7 wA wB W := oW.pre (q4.trans (q5.trans (q6.trans (q7.trans (q8.trans q9)))))
  have S7 : H7.ob h.n = _ := ((q4.trans (q5.trans (q6.trans (q7.trans (q8.trans q9))))).ob _ (by omega)).trans S1
  have D7 : H7.ob (h.n + 1) = _ := ((q4.trans (q5.trans (q6.trans (q7.trans (q8.trans q9))))).ob _ (by omega)).trans D1
  have K6 : H7.ob p6 = _ := (q9.ob _ L66).trans k6'
  have K7 : H7.ob u4.n = _ := ((q8.trans q9).ob _ (by omega)).trans ((q7.ob _ L7).trans k7')
  have K8 : H7.ob u5.n = _ := ((q8.trans q9).ob _ (by omega)).trans k8
  have j1 : h.n < H7.n := by omega
  have j2 : h.n + 1 < H7.n := by omega
  have j6 : p6 < H7.n := by omega
  have j7 : u4.n < H7.n := by omega
  have j8 : u5.n < H7.n := by omega
  have j9 : u6.n < H7.n := by omega
  with_reducible refine CD.to (eqStore_r H7 gA gB wA wB W oG7.rdt oW7.rdt zW.sz) ?_
  simp (maxSteps := 1000000) -implicitDefEqProofs only [push_cast, seval, S7, rd_of S7, rd1_of S7, D7, rd_of D7, rd1_of D7, K6, rd_of K6, rd1_of K6, K7, rd_of K7, rd1_of K7, K8, rd_of K8, rd1_of K8, k9, rd_of k9, rd1_of k9, j1, j2, j6, j7, j8, j9]
  refine WC.drawT (by kernel_rfl) (by kernel_rfl) (.q 0 (.q 1 (.a 2 false (.a 3 true (.q 4 (.done)))))) (by kernel_rfl) ?_
  simp (maxSteps := 1000000) -implicitDefEqProofs only [push_cast, seval, S7, rd_of S7, rd1_of S7, D7, rd_of D7, rd1_of D7, K6, rd_of K6, rd1_of K6, K7, rd_of K7, rd1_of K7, K8, rd_of K8, rd1_of K8, k9, rd_of k9, rd1_of k9, j1, j2, j6, j7, j8, j9]
  with_reducible refine CC.mono (toStore_o s A B ca cb _ ⟨hR.vars.pre big pA, hR.cells.pre big pA⟩ zs.sz) (fun v u8 hv => ?_)
  with_reducible refine Exists.elim hv (fun tA hv => ?_)
  with_reducible refine Exists.elim hv (fun tB hv => ?_)
  have e1 := hv.1
  have oT := hv.2.1
  have q10 := hv.2.2
  clear hv
  subst e1
  have S8 : u8.ob h.n = _ := (q10.ob _ j1).trans S7
  have D8 : u8.ob (h.n + 1) = _ := (q10.ob _ j2).trans D7
  have K78 : u8.ob u4.n = _ := (q10.ob _ j7).trans K7
  have K88 : u8.ob u5.n = _ := (q10.ob _ j8).trans K8
  have n8 := q10.n
  have i1 : h.n < u8.n := by omega
  have i2 : h.n + 1 < u8.n := by omega
  have i7 : u4.n < u8.n := by omega
  have i8 : u5.n < u8.n := by omega
  simp (maxSteps := 1000000) -implicitDefEqProofs only [push_cast, seval, S7, rd_of S7, rd1_of S7, D7, rd_of D7, rd1_of D7, K6, rd_of K6, rd1_of K6, K7, rd_of K7, rd1_of K7, K8, rd_of K8, rd1_of K8, k9, rd_of k9, rd1_of k9, j1, j2, j6, j7, j8, j9, S8, rd_of S8, rd1_of S8, D8, rd_of D8, rd1_of D8, K78, rd_of K78, rd1_of K78, K88, rd_of K88, rd1_of K88, i1, i2, i7, i8]
  with_reducible refine CD.to (eqStore_r u8 xA xB tA tB s (oX7.rdt.pre q10) oT.rdt zs.sz) ?_
  simp (maxSteps := 1000000) -implicitDefEqProofs only [push_cast, seval, S8, rd_of S8, rd1_of S8, D8, rd_of D8, rd1_of D8, K78, rd_of K78, rd1_of K78, K88, rd_of K88, rd1_of K88, i1, i2, i7, i8]
  refine WC.drawT (by kernel_rfl) (by kernel_rfl) (.q 0 (.q 1 (.a 2 false (.a 3 true (.q 4 (.done)))))) (by kernel_rfl) ?_
  simp (maxSteps := 1000000) -implicitDefEqProofs only [push_cast, seval, S8, rd_of S8, rd1_of S8, D8, rd_of D8, rd1_of D8, K78, rd_of K78, rd1_of K78, K88, rd_of K88, rd1_of K88, i1, i2, i7, i8]
  with_reducible refine CC.mono (toStore_o d C D cc cd _ ⟨hQ.vars.pre big (pA.trans q10), hQ.cells.pre big (pA.trans q10)⟩ zd.sz) (fun v u9 hv => ?_)
  with_reducible refine Exists.elim hv (fun sA hv => ?_)
  with_reducible refine Exists.elim hv (fun sB hv => ?_)
  have e1 := hv.1
  have oY := hv.2.1
  have q11 := hv.2.2
  clear hv
  subst e1
  have q12 := q10.trans q11
  have S9 : u9.ob h.n = _ := (q12.ob _ j1).trans S7
  have D9 : u9.ob (h.n + 1) = _ := (q12.ob _ j2).trans D7
  have K69 : u9.ob p6 = _ := (q12.ob _ j6).trans K6
  have K79 : u9.ob u4.n = _ := (q12.ob _ j7).trans K7
  have K89 : u9.ob u5.n = _ := (q12.ob _ j8).trans K8
  have K99 : u9.ob u6.n = _ := (q12.ob _ j9).trans k9
  have n9 := q11.n
  have i19 : h.n < u9.n := by omega
  have i29 : h.n + 1 < u9.n := by omega
  have i69 : p6 < u9.n := by omega
  have i79 : u4.n < u9.n := by omega
  have i89 : u5.n < u9.n := by omega
  have i99 : u6.n < u9.n := by omega
  simp (maxSteps := 1000000) -implicitDefEqProofs only [push_cast, seval, S8, rd_of S8, rd1_of S8, D8, rd_of D8, rd1_of D8, K78, rd_of K78, rd1_of K78, K88, rd_of K88, rd1_of K88, i1, i2, i7, i8, S9, rd_of S9, rd1_of S9, D9, rd_of D9, rd1_of D9, K79, rd_of K79, rd1_of K79, K89, rd_of K89, rd1_of K89, i19, i29, i79, i89]
  with_reducible refine CD.to (eqStore_r u9 zA zB sA sB d (oZ7.rdt.pre q12) oY.rdt zd.sz) ?_
  simp (maxSteps := 1000000) -implicitDefEqProofs only [push_cast, seval, S9, rd_of S9, rd1_of S9, D9, rd_of D9, rd1_of D9, K69, rd_of K69, rd1_of K69, K79, rd_of K79, rd1_of K79, K89, rd_of K89, rd1_of K89, K99, rd_of K99, rd1_of K99, i19, i29, i69, i79, i89, i99]
  have rX := fun i e => oX.range (i := i) e
  have rZ := fun i e => oZ.range (i := i) e
  have rG := fun i e => oG.range (i := i) e
  have rW := fun i e => oW.range (i := i) e
  have wvs : s.vars.length + s.cells.length ≤ 1048576 := by simp only [storeW] at ws; omega
  have wvd : d.vars.length + d.cells.length ≤ 1048576 := by simp only [storeW] at wd; omega
  have wvW := zW.nv
  have wcW := zW.nc
  have hM1 := markStore_t h1 u9 xA xB s s.out 1 s.vars.length s.cells.length (oX7.pre q12) rfl rfl (by omega) (by omega) (by omega) (by omega)
  rw [show ((1 : Nat) : Int) = 1 from rfl] at hM1
  with_reducible refine nameN (1 + s.vars.length * 2 + s.cells.length * 3) (fun K1 hK1 => ?_)
  rw [← hK1] at hM1
  with_reducible refine CC.mono hM1 (fun v u10 hv => ?_)
  have e1 := hv.1
  have n10 := hv.2.2.1
  have f10 := hv.2.2.2
  clear hv hM1
  subst e1
  have g10 : ∀ j, j < u9.n → ¬ (h1.n ≤ j ∧ j < u4.n) → live u9 j → u10.ob j = u9.ob j := fun j hj hn hl => f10 j hj (fun e => hn (rX j e)) hl
  have pB : Pre h u9 := pA.trans q12
  have pC : Pre h u10 := ⟨by have := pB.n; omega, fun j hj => (g10 j (by have := pB.n; omega) (by have := pb.n; omega) (.inr (by rw [pB.ob j hj]; exact hlv j))).trans (pB.ob j hj)⟩
  have oZ9 : OwnT H5 u9 zA zB d := oZ7.pre q12
  have oG9 : OwnT H6 u9 gA gB W := oG7.pre q12
  have oW9 : OwnT H0 u9 wA wB W := oW7.pre q12
  have oZ10 : OwnT H5 u10 zA zB d := oZ9.keep n10 (fun i e => g10 i (oZ9.range e).2 (by have h1 := rZ i e; omega) (oZ9.live e))
  have oG10 : OwnT H6 u10 gA gB W := oG9.keep n10 (fun i e => g10 i (oG9.range e).2 (by have h1 := rG i e; omega) (oG9.live e))
  have oW10 : OwnT H0 u10 wA wB W := oW9.keep n10 (fun i e => g10 i (oW9.range e).2 (by have h1 := rW i e; omega) (oW9.live e))
  have S10 : u10.ob h.n = _ := (g10 _ i19 (by omega) (live_solo S9)).trans S9
  have D10 : u10.ob (h.n + 1) = _ := (g10 _ i29 (by omega) (live_solo D9)).trans D9
  have K610 : u10.ob p6 = _ := (g10 _ i69 (by omega) (live_solo K69)).trans K69
  have K810 : u10.ob u5.n = _ := (g10 _ i89 (by omega) (live_solo K89)).trans K89
  have K910 : u10.ob u6.n = _ := (g10 _ i99 (by omega) (live_solo K99)).trans K99
  have t1 : h.n < u10.n := by omega
  have t2 : h.n + 1 < u10.n := by omega
  have t6 : p6 < u10.n := by omega
  have t8 : u5.n < u10.n := by omega
  have t9 : u6.n < u10.n := by omega
  simp (maxSteps := 1000000) -implicitDefEqProofs only [push_cast, seval, S10, rd_of S10, rd1_of S10, D10, rd_of D10, rd1_of D10, K610, rd_of K610, rd1_of K610, K810, rd_of K810, rd1_of K810, K910, rd_of K910, rd1_of K910, t1, t2, t6, t8, t9]
  have hM2 := markStore_t H5 u10 zA zB d d.out K1 d.vars.length d.cells.length oZ10 rfl rfl (by omega) (by omega) (by omega) (by omega)
  with_reducible refine nameN (K1 + d.vars.length * 2 + d.cells.length * 3) (fun K2 hK2 => ?_)
  rw [← hK2] at hM2
  with_reducible refine CC.mono hM2 (fun v u11 hv => ?_)
  have e1 := hv.1
  have n11 := hv.2.2.1
  have f11 := hv.2.2.2
  clear hv hM2
  subst e1
  have g11 : ∀ j, j < u10.n → ¬ (H5.n ≤ j ∧ j < u5.n) → live u10 j → u11.ob j = u10.ob j := fun j hj hn hl => f11 j hj (fun e => hn (rZ j e)) hl
  have pD : Pre h u11 := ⟨by have := pC.n; omega, fun j hj => (g11 j (by have := pC.n; omega) (by have := pb.n; omega) (.inr (by rw [pC.ob j hj]; exact hlv j))).trans (pC.ob j hj)⟩
  have oG11 : OwnT H6 u11 gA gB W := oG10.keep n11 (fun i e => g11 i (oG10.range e).2 (by have h1 := rG i e; omega) (oG10.live e))
  have oW11 : OwnT H0 u11 wA wB W := oW10.keep n11 (fun i e => g11 i (oW10.range e).2 (by have h1 := rW i e; omega) (oW10.live e))
  have S11 : u11.ob h.n = _ := (g11 _ t1 (by omega) (live_solo S10)).trans S10
  have D11 : u11.ob (h.n + 1) = _ := (g11 _ t2 (by omega) (live_solo D10)).trans D10
  have K611 : u11.ob p6 = _ := (g11 _ t6 (by omega) (live_solo K610)).trans K610
  have K911 : u11.ob u6.n = _ := (g11 _ t9 (by omega) (live_solo K910)).trans K910
  have c1 : h.n < u11.n := by omega
  have c2 : h.n + 1 < u11.n := by omega
  have c6 : p6 < u11.n := by omega
  have c9 : u6.n < u11.n := by omega
  have hneg2 : decide ((K2 : Int) < 0) = false := by simp
  simp (maxSteps := 1000000) -implicitDefEqProofs only [push_cast, seval, S11, rd_of S11, rd1_of S11, D11, rd_of D11, rd1_of D11, K611, rd_of K611, rd1_of K611, K911, rd_of K911, rd1_of K911, c1, c2, c6, c9, hneg2]
  with_reducible refine CD.to (eqStore_r u11 gA gB wA wB W oG11.rdt oW11.rdt zW.sz) ?_
  simp (maxSteps := 1000000) -implicitDefEqProofs only [push_cast, seval, S11, rd_of S11, rd1_of S11, D11, rd_of D11, rd1_of D11, K611, rd_of K611, rd1_of K611, K911, rd_of K911, rd1_of K911, c1, c2, c6, c9, hneg2]
  have hM3 := markStore_t H6 u11 gA gB W W.out 1 W.vars.length W.cells.length oG11 rfl rfl (by omega) (by omega) (by omega) (by omega)
  rw [show ((1 : Nat) : Int) = 1 from rfl] at hM3
  with_reducible refine nameN (1 + W.vars.length * 2 + W.cells.length * 3) (fun K3 hK3 => ?_)
  rw [← hK3] at hM3
  with_reducible refine CC.mono hM3 (fun v u12 hv => ?_)
  have e1 := hv.1
  have gM := hv.2.1
  have n12 := hv.2.2.1
  have f12 := hv.2.2.2
  clear hv hM3
  subst e1
  have g12 : ∀ j, j < u11.n → ¬ (H6.n ≤ j ∧ j < u6.n) → live u11 j → u12.ob j = u11.ob j := fun j hj hn hl => f12 j hj (fun e => hn (rG j e)) hl
  have pb9 : Pre h u12 := ⟨by have := pD.n; omega, fun j hj => (g12 j (by have := pD.n; omega) (by have := pb.n; omega) (.inr (by rw [pD.ob j hj]; exact hlv j))).trans (pD.ob j hj)⟩
  have oW12 : OwnT H0 u12 wA wB W := oW11.keep n12 (fun i e => g12 i (oW11.range e).2 (by have h1 := rW i e; omega) (oW11.live e))
  have S12 : u12.ob h.n = _ := (g12 _ c1 (by omega) (live_solo S11)).trans S11
  have D12 : u12.ob (h.n + 1) = _ := (g12 _ c2 (by omega) (live_solo D11)).trans D11
  have K612 : u12.ob p6 = _ := (g12 _ c6 (by omega) (live_solo K611)).trans K611
  have K912 : u12.ob u6.n = _ := (g12 _ c9 (by omega) (live_solo K911)).trans K911
  have b1 : h.n < u12.n := by omega
  have b2 : h.n + 1 < u12.n := by omega
  have b6 : p6 < u12.n := by omega
  have b9 : u6.n < u12.n := by omega
  have hH := fun (h : AH) (o : MkS h gA gB W.vars.length W.cells.length 1) => heldStore_c h gA gB W.out 1 W.vars.length W.cells.length o (by omega) (by omega) (by omega) (by omega)
  rw [show ((1 : Nat) : Int) = 1 from rfl, ← hK3] at hH
  have hneg3 : decide ((K3 : Int) < 0) = false := by simp
  simp (maxSteps := 1000000) -implicitDefEqProofs only [push_cast, seval, S12, rd_of S12, rd1_of S12, D12, rd_of D12, rd1_of D12, K612, rd_of K612, rd1_of K612, K912, rd_of K912, rd1_of K912, b1, b2, b6, b9, hneg3]
  with_reducible refine CD.to (hH _ gM) ?_
  simp (maxSteps := 1000000) -implicitDefEqProofs only [push_cast, seval, S12, rd_of S12, rd1_of S12, D12, rd_of D12, rd1_of D12, K612, rd_of K612, rd1_of K612, K912, rd_of K912, rd1_of K912, b1, b2, b6, b9, hneg3]
  have oS := S12
  have oD := D12
  have lS := b1
  have lD := b2
  refine WC.cutA [13] [75, 76, 77, 78, 79] (fun a : Nat × Value × Value => [.pointer (some ⟨a.1, 0, none⟩)]) (fun a h' => h'.ob a.1 = AOb.cells [a.2.1, a.2.2, .string (mergeD s d).out] .solo a.1 ∧ OwnT u12 h' a.2.1 a.2.2 (mergeD s d) ∧ (∀ j, atBlock a.2.1 j ∨ atBlock a.2.2 j → j ≠ a.1) ∧ Pre u12 h' ∧ u12.n ≤ a.1 ∧ a.1 < h'.n) ?_ ?_
  · refine WC.drawT (by kernel_rfl) (by kernel_rfl) (.q 0 (.q 2 (.b 1 (.b 3 (.b 4 (.a 5 false (.a 6 true (.done))) 5 (.a 4 true (.a 6 true (.done)))) 5 (.a 3 false (.a 4 true (.a 6 true (.done))))) 5 (.a 1 false (.a 3 false (.a 4 true (.a 6 true (.done)))))))) (by kernel_rfl) ?_
    simp (maxSteps := 1000000) -implicitDefEqProofs only [push_cast, seval, oS, rd_of oS, rd1_of oS, oD, rd_of oD, rd1_of oD, lS, lD]
    refine And.intro ?_ ?_
    · with_reducible refine CC.mono (toStore_o s A B ca cb _ ⟨hR.vars.pre big (pb9.trans (Pre.refl _)), hR.cells.pre big (pb9.trans (Pre.refl _))⟩ zs.sz) (fun v u1 hv => ?_)
      with_reducible refine Exists.elim hv (fun vA hv => ?_)
      with_reducible refine Exists.elim hv (fun vB hv => ?_)
      have e1 := hv.1
      have ou1 := hv.2.1
      have qu1 := hv.2.2
      clear hv
      subst e1
      have Pu1 : Pre u12 u1 := ((Pre.refl _).trans qu1)
      have lu1 := Pu1.n
      have Su1 := (Pu1.ob h.n lS).trans oS
      have Du1 := (Pu1.ob (h.n + 1) lD).trans oD
      have LSu1 : h.n < u1.n := by omega
      have LDu1 : h.n + 1 < u1.n := by omega
      have yau1 := ou1.one.1
      have ybu1 := ou1.one.2
      simp (maxSteps := 1000000) -implicitDefEqProofs only [push_cast, seval, oS, rd_of oS, rd1_of oS, oD, rd_of oD, rd1_of oD, lS, lD, Su1, rd_of Su1, rd1_of Su1, Du1, rd_of Du1, rd1_of Du1, LSu1, LDu1, yau1, ybu1]
      refine And.intro ?_ ?_
      · with_reducible refine CC.mono (toStore_o d C D cc cd _ ⟨hQ.vars.pre big (pb9.trans Pu1), hQ.cells.pre big (pb9.trans Pu1)⟩ zd.sz) (fun v u2 hv => ?_)
        with_reducible refine Exists.elim hv (fun wA hv => ?_)
        with_reducible refine Exists.elim hv (fun wB hv => ?_)
        have e1 := hv.1
        have ou2 := hv.2.1
        have qu2 := hv.2.2
        clear hv
        subst e1
        have Pu2 : Pre u12 u2 := (Pu1.trans qu2)
        have lu2 := Pu2.n
        have Su2 := (Pu2.ob h.n lS).trans oS
        have Du2 := (Pu2.ob (h.n + 1) lD).trans oD
        have LSu2 : h.n < u2.n := by omega
        have LDu2 : h.n + 1 < u2.n := by omega
        have yau2 := ou2.one.1
        have ybu2 := ou2.one.2
        simp (maxSteps := 1000000) -implicitDefEqProofs only [push_cast, seval, oS, rd_of oS, rd1_of oS, oD, rd_of oD, rd1_of oD, lS, lD, Su1, rd_of Su1, rd1_of Su1, Du1, rd_of Du1, rd1_of Du1, LSu1, LDu1, yau1, ybu1, Su2, rd_of Su2, rd1_of Su2, Du2, rd_of Du2, rd1_of Du2, LSu2, LDu2, yau2, ybu2]
        refine And.intro ?_ ?_
        · have r1 : RdT u2 vA vB s := ou1.rdt.pre qu2
          with_reducible refine CC.mono (MergeDelta_i s d vA vB wA wB _ (r1) (ou2.rdt) zs zd (Pow_pre (pb9.trans Pu2) hg ht) (Nat.lt_of_lt_of_le hg (pb9.trans Pu2).n)) (fun v u3 hv => ?_)
          with_reducible refine Exists.elim hv (fun tA hv => ?_)
          with_reducible refine Exists.elim hv (fun tB hv => ?_)
          have e1 := hv.1
          have ou3 := hv.2.1
          have qu3 := hv.2.2
          clear hv
          subst e1
          have Pu3 : Pre u12 u3 := (Pu2.trans qu3)
          have lu3 := Pu3.n
          have Su3 := (Pu3.ob h.n lS).trans oS
          have Du3 := (Pu3.ob (h.n + 1) lD).trans oD
          have LSu3 : h.n < u3.n := by omega
          have LDu3 : h.n + 1 < u3.n := by omega
          have yau3 := ou3.one.1
          have ybu3 := ou3.one.2
          simp (maxSteps := 1000000) -implicitDefEqProofs only [push_cast, seval, oS, rd_of oS, rd1_of oS, oD, rd_of oD, rd1_of oD, lS, lD, Su1, rd_of Su1, rd1_of Su1, Du1, rd_of Du1, rd1_of Du1, LSu1, LDu1, yau1, ybu1, Su2, rd_of Su2, rd1_of Su2, Du2, rd_of Du2, rd1_of Du2, LSu2, LDu2, yau2, ybu2, Su3, rd_of Su3, rd1_of Su3, Du3, rd_of Du3, rd1_of Du3, LSu3, LDu3, yau3, ybu3]
          have hX : u12.n ≤ u3.n := lu3
          have bX : ∀ j, atBlock tA j ∨ atBlock tB j → j ≠ u3.n := fun j e => by
            have := (ou3.range e).2
            omega
          exact ⟨(u3.n, tA, tB), by kernel_rfl, ⟨set_same _ _, (ou3.mono lu2).to (Nat.le_succ _) (fun i e => (set_ne _ (bX i e)).trans (alloc_lt _ (ou3.range e).2)), bX, (Pu3.alloc _).set hX _, hX, Nat.lt_succ_self _⟩⟩
        · have r1 : RdT u2 vA vB s := ou1.rdt.pre qu2
          with_reducible refine CC.mono (MergeDelta_i s d vA vB wA wB _ (r1.pre ((Pre.refl u2).alloc _)) (ou2.rdt.pre ((Pre.refl u2).alloc _)) zs zd (Pow_pre (pb9.trans (Pu2.alloc _)) hg ht) (Nat.lt_of_lt_of_le hg (pb9.trans (Pu2.alloc _)).n)) (fun v u3 hv => ?_)
          with_reducible refine Exists.elim hv (fun tA hv => ?_)
          with_reducible refine Exists.elim hv (fun tB hv => ?_)
          have e1 := hv.1
          have ou3 := hv.2.1
          have qu3 := hv.2.2
          clear hv
          subst e1
          have Pu3 : Pre u12 u3 := ((Pu2.alloc _).trans qu3)
          have lu3 := Pu3.n
          have Su3 := (Pu3.ob h.n lS).trans oS
          have Du3 := (Pu3.ob (h.n + 1) lD).trans oD
          have LSu3 : h.n < u3.n := by omega
          have LDu3 : h.n + 1 < u3.n := by omega
          have yau3 := ou3.one.1
          have ybu3 := ou3.one.2
          have Gu3 : u3.ob (u2.n) = AOb.cells [.slice none 0 0, .slice none 0 0, .string ⟨#[]⟩] .solo (u2.n) := (qu3.ob _ (lt_alloc _)).trans (alloc_same _)
          have LGu3 : u2.n < u3.n := Nat.lt_of_lt_of_le (lt_alloc _) qu3.n
          simp (maxSteps := 1000000) -implicitDefEqProofs only [push_cast, seval, oS, rd_of oS, rd1_of oS, oD, rd_of oD, rd1_of oD, lS, lD, Su1, rd_of Su1, rd1_of Su1, Du1, rd_of Du1, rd1_of Du1, LSu1, LDu1, yau1, ybu1, Su2, rd_of Su2, rd1_of Su2, Du2, rd_of Du2, rd1_of Du2, LSu2, LDu2, yau2, ybu2, Gu3, rd_of Gu3, rd1_of Gu3, LGu3, Su3, rd_of Su3, rd1_of Su3, Du3, rd_of Du3, rd1_of Du3, LSu3, LDu3, yau3, ybu3]
          have hX : u12.n ≤ u2.n := lu2
          have bX : ∀ j, atBlock tA j ∨ atBlock tB j → j ≠ u2.n := fun j e => by
            have : u2.n + 1 ≤ j := (ou3.range e).1
            omega
          exact ⟨(u2.n, tA, tB), by kernel_rfl, ⟨set_same _ _, (ou3.mono (Nat.le_succ_of_le lu2)).to (Nat.le_refl _) (fun i e => set_ne _ (bX i e)), bX, (Pu3).set hX _, hX, LGu3⟩⟩
      · with_reducible refine CC.mono (toStore_o d C D cc cd _ ⟨hQ.vars.pre big (pb9.trans (Pu1.alloc _)), hQ.cells.pre big (pb9.trans (Pu1.alloc _))⟩ zd.sz) (fun v u2 hv => ?_)
        with_reducible refine Exists.elim hv (fun wA hv => ?_)
        with_reducible refine Exists.elim hv (fun wB hv => ?_)
        have e1 := hv.1
        have ou2 := hv.2.1
        have qu2 := hv.2.2
        clear hv
        subst e1
        have Pu2 : Pre u12 u2 := ((Pu1.alloc _).trans qu2)
        have lu2 := Pu2.n
        have Su2 := (Pu2.ob h.n lS).trans oS
        have Du2 := (Pu2.ob (h.n + 1) lD).trans oD
        have LSu2 : h.n < u2.n := by omega
        have LDu2 : h.n + 1 < u2.n := by omega
        have yau2 := ou2.one.1
        have ybu2 := ou2.one.2
        have Gu2 : u2.ob (u1.n) = AOb.cells [.slice none 0 0, .slice none 0 0, .string ⟨#[]⟩] .solo (u1.n) := (qu2.ob _ (lt_alloc _)).trans (alloc_same _)
        have LGu2 : u1.n < u2.n := Nat.lt_of_lt_of_le (lt_alloc _) qu2.n
        simp (maxSteps := 1000000) -implicitDefEqProofs only [push_cast, seval, oS, rd_of oS, rd1_of oS, oD, rd_of oD, rd1_of oD, lS, lD, Su1, rd_of Su1, rd1_of Su1, Du1, rd_of Du1, rd1_of Du1, LSu1, LDu1, yau1, ybu1, Gu2, rd_of Gu2, rd1_of Gu2, LGu2, Su2, rd_of Su2, rd1_of Su2, Du2, rd_of Du2, rd1_of Du2, LSu2, LDu2, yau2, ybu2]
        have r1 : RdT u2 vA vB s := ou1.rdt.pre (((Pre.refl u1).alloc _).trans qu2)
        with_reducible refine CC.mono (MergeDelta_i s d vA vB wA wB _ (r1) (ou2.rdt) zs zd (Pow_pre (pb9.trans Pu2) hg ht) (Nat.lt_of_lt_of_le hg (pb9.trans Pu2).n)) (fun v u3 hv => ?_)
        with_reducible refine Exists.elim hv (fun tA hv => ?_)
        with_reducible refine Exists.elim hv (fun tB hv => ?_)
        have e1 := hv.1
        have ou3 := hv.2.1
        have qu3 := hv.2.2
        clear hv
        subst e1
        have Pu3 : Pre u12 u3 := (Pu2.trans qu3)
        have lu3 := Pu3.n
        have Su3 := (Pu3.ob h.n lS).trans oS
        have Du3 := (Pu3.ob (h.n + 1) lD).trans oD
        have LSu3 : h.n < u3.n := by omega
        have LDu3 : h.n + 1 < u3.n := by omega
        have yau3 := ou3.one.1
        have ybu3 := ou3.one.2
        have Gu3 : u3.ob (u1.n) = AOb.cells [.slice none 0 0, .slice none 0 0, .string ⟨#[]⟩] .solo (u1.n) := (qu3.ob _ LGu2).trans Gu2
        have LGu3 : u1.n < u3.n := Nat.lt_of_lt_of_le LGu2 qu3.n
        simp (maxSteps := 1000000) -implicitDefEqProofs only [push_cast, seval, oS, rd_of oS, rd1_of oS, oD, rd_of oD, rd1_of oD, lS, lD, Su1, rd_of Su1, rd1_of Su1, Du1, rd_of Du1, rd1_of Du1, LSu1, LDu1, yau1, ybu1, Gu2, rd_of Gu2, rd1_of Gu2, LGu2, Su2, rd_of Su2, rd1_of Su2, Du2, rd_of Du2, rd1_of Du2, LSu2, LDu2, yau2, ybu2, Gu3, rd_of Gu3, rd1_of Gu3, LGu3, Su3, rd_of Su3, rd1_of Su3, Du3, rd_of Du3, rd1_of Du3, LSu3, LDu3, yau3, ybu3]
        have hX : u12.n ≤ u1.n := lu1
        have bX : ∀ j, atBlock tA j ∨ atBlock tB j → j ≠ u1.n := fun j e => by
          have h1 : u2.n ≤ j := (ou3.range e).1
          have h2 := LGu2
          omega
        exact ⟨(u1.n, tA, tB), by kernel_rfl, ⟨set_same _ _, (ou3.mono (by omega)).to (Nat.le_refl _) (fun i e => set_ne _ (bX i e)), bX, (Pu3).set hX _, hX, LGu3⟩⟩
    · with_reducible refine CC.mono (toStore_o s A B ca cb _ ⟨hR.vars.pre big (pb9.trans ((Pre.refl _).alloc _)), hR.cells.pre big (pb9.trans ((Pre.refl _).alloc _))⟩ zs.sz) (fun v u1 hv => ?_)
      with_reducible refine Exists.elim hv (fun vA hv => ?_)
      with_reducible refine Exists.elim hv (fun vB hv => ?_)
      have e1 := hv.1
      have ou1 := hv.2.1
      have qu1 := hv.2.2
      clear hv
      subst e1
      have Pu1 : Pre u12 u1 := (((Pre.refl _).alloc _).trans qu1)
      have lu1 := Pu1.n
      have Su1 := (Pu1.ob h.n lS).trans oS
      have Du1 := (Pu1.ob (h.n + 1) lD).trans oD
      have LSu1 : h.n < u1.n := by omega
      have LDu1 : h.n + 1 < u1.n := by omega
      have yau1 := ou1.one.1
      have ybu1 := ou1.one.2
      have Gu1 : u1.ob (u12.n) = AOb.cells [.slice none 0 0, .slice none 0 0, .string ⟨#[]⟩] .solo (u12.n) := (qu1.ob _ (lt_alloc _)).trans (alloc_same _)
      have LGu1 : u12.n < u1.n := Nat.lt_of_lt_of_le (lt_alloc _) qu1.n
      simp (maxSteps := 1000000) -implicitDefEqProofs only [push_cast, seval, oS, rd_of oS, rd1_of oS, oD, rd_of oD, rd1_of oD, lS, lD, Gu1, rd_of Gu1, rd1_of Gu1, LGu1, Su1, rd_of Su1, rd1_of Su1, Du1, rd_of Du1, rd1_of Du1, LSu1, LDu1, yau1, ybu1]
      with_reducible refine CC.mono (toStore_o d C D cc cd _ ⟨hQ.vars.pre big (pb9.trans Pu1), hQ.cells.pre big (pb9.trans Pu1)⟩ zd.sz) (fun v u2 hv => ?_)
      with_reducible refine Exists.elim hv (fun wA hv => ?_)
      with_reducible refine Exists.elim hv (fun wB hv => ?_)
      have e1 := hv.1
      have ou2 := hv.2.1
      have qu2 := hv.2.2
      clear hv
      subst e1
      have Pu2 : Pre u12 u2 := (Pu1.trans qu2)
      have lu2 := Pu2.n
      have Su2 := (Pu2.ob h.n lS).trans oS
      have Du2 := (Pu2.ob (h.n + 1) lD).trans oD
      have LSu2 : h.n < u2.n := by omega
      have LDu2 : h.n + 1 < u2.n := by omega
      have yau2 := ou2.one.1
      have ybu2 := ou2.one.2
      have Gu2 : u2.ob (u12.n) = AOb.cells [.slice none 0 0, .slice none 0 0, .string ⟨#[]⟩] .solo (u12.n) := (qu2.ob _ LGu1).trans Gu1
      have LGu2 : u12.n < u2.n := Nat.lt_of_lt_of_le LGu1 qu2.n
      simp (maxSteps := 1000000) -implicitDefEqProofs only [push_cast, seval, oS, rd_of oS, rd1_of oS, oD, rd_of oD, rd1_of oD, lS, lD, Gu1, rd_of Gu1, rd1_of Gu1, LGu1, Su1, rd_of Su1, rd1_of Su1, Du1, rd_of Du1, rd1_of Du1, LSu1, LDu1, yau1, ybu1, Gu2, rd_of Gu2, rd1_of Gu2, LGu2, Su2, rd_of Su2, rd1_of Su2, Du2, rd_of Du2, rd1_of Du2, LSu2, LDu2, yau2, ybu2]
      have r1 : RdT u2 vA vB s := ou1.rdt.pre qu2
      with_reducible refine CC.mono (MergeDelta_i s d vA vB wA wB _ (r1) (ou2.rdt) zs zd (Pow_pre (pb9.trans Pu2) hg ht) (Nat.lt_of_lt_of_le hg (pb9.trans Pu2).n)) (fun v u3 hv => ?_)
      with_reducible refine Exists.elim hv (fun tA hv => ?_)
      with_reducible refine Exists.elim hv (fun tB hv => ?_)
      have e1 := hv.1
      have ou3 := hv.2.1
      have qu3 := hv.2.2
      clear hv
      subst e1
      have Pu3 : Pre u12 u3 := (Pu2.trans qu3)
      have lu3 := Pu3.n
      have Su3 := (Pu3.ob h.n lS).trans oS
      have Du3 := (Pu3.ob (h.n + 1) lD).trans oD
      have LSu3 : h.n < u3.n := by omega
      have LDu3 : h.n + 1 < u3.n := by omega
      have yau3 := ou3.one.1
      have ybu3 := ou3.one.2
      have Gu3 : u3.ob (u12.n) = AOb.cells [.slice none 0 0, .slice none 0 0, .string ⟨#[]⟩] .solo (u12.n) := (qu3.ob _ LGu2).trans Gu2
      have LGu3 : u12.n < u3.n := Nat.lt_of_lt_of_le LGu2 qu3.n
      simp (maxSteps := 1000000) -implicitDefEqProofs only [push_cast, seval, oS, rd_of oS, rd1_of oS, oD, rd_of oD, rd1_of oD, lS, lD, Gu1, rd_of Gu1, rd1_of Gu1, LGu1, Su1, rd_of Su1, rd1_of Su1, Du1, rd_of Du1, rd1_of Du1, LSu1, LDu1, yau1, ybu1, Gu2, rd_of Gu2, rd1_of Gu2, LGu2, Su2, rd_of Su2, rd1_of Su2, Du2, rd_of Du2, rd1_of Du2, LSu2, LDu2, yau2, ybu2, Gu3, rd_of Gu3, rd1_of Gu3, LGu3, Su3, rd_of Su3, rd1_of Su3, Du3, rd_of Du3, rd1_of Du3, LSu3, LDu3, yau3, ybu3]
      have hX : u12.n ≤ u12.n := Nat.le_refl _
      have bX : ∀ j, atBlock tA j ∨ atBlock tB j → j ≠ u12.n := fun j e => by
        have h1 : u2.n ≤ j := (ou3.range e).1
        have h2 := LGu2
        omega
      exact ⟨(u12.n, tA, tB), by kernel_rfl, ⟨set_same _ _, (ou3.mono (Nat.le_trans lu1 (Nat.le_trans qu2.n (Nat.le_refl _)))).to (Nat.le_refl _) (fun i e => set_ne _ (bX i e)), bX, (Pu3).set hX _, hX, LGu3⟩⟩
  intro a g' h13 hJ
  have k13 := hJ.1
  have oH := hJ.2.1
  have P13 := hJ.2.2.2.1
  have M13 := hJ.2.2.2.2.2
  clear hJ
  generalize a.1 = p13 at *
  generalize a.2.1 = hA at *
  generalize a.2.2 = hB at *
  clear a
  rw [eW] at k13 oH
  have K613 : h13.ob p6 = _ := (P13.ob _ b6).trans K612
  have K913 : h13.ob u6.n = _ := (P13.ob _ b9).trans K912
  have l13 := P13.n
  have e6 : p6 < h13.n := by omega
  have e9 : u6.n < h13.n := by omega
  have oW13 : OwnT H0 h13 wA wB W := oW12.pre P13
  have gM13 : MkS h13 gA gB W.vars.length W.cells.length 1 := gM.keep P13.n (fun i e => P13.ob i (by
    obtain ⟨n0, n1, x, y⟩ := gM
    rcases e with e | e
    · exact (x.range e).2
    · exact (y.range e).2))
  simp (maxSteps := 1000000) -implicitDefEqProofs only [push_cast, seval, k13, rd_of k13, rd1_of k13, M13, K613, rd_of K613, rd1_of K613, K913, rd_of K913, rd1_of K913, e6, e9, hneg3]
  with_reducible refine CD.to (eqStore_r h13 hA hB wA wB W oH.rdt oW13.rdt zW.sz) ?_
  simp (maxSteps := 1000000) -implicitDefEqProofs only [push_cast, seval, k13, rd_of k13, rd1_of k13, M13, K613, rd_of K613, rd1_of K613, K913, rd_of K913, rd1_of K913, e6, e9, hneg3]
  with_reducible refine CD.to (hH _ gM13) ?_
  simp (maxSteps := 1000000) -implicitDefEqProofs only [push_cast, seval, k13, rd_of k13, rd1_of k13, M13, K613, rd_of K613, rd1_of K613, K913, rd_of K913, rd1_of K913, e6, e9, hneg3]
end Go.Proofs.YtcggnolnakgkeaaDoor
namespace Go.Proofs.YtcggnolnakgkeaaDoor
open Go Go.Sim Go.Proofs
set_option linter.unusedSimpArgs false
set_option linter.unusedVariables false
set_option maxRecDepth 100000
set_option maxHeartbeats 1000000
theorem nameI (n : Int) {G : Prop} (k : ∀ N, N = n → G) : G := k n rfl
/-- The cursor of a draw: the slice of its bytes, its place, its number. -/
def curO (p : Nat) (S : Value) (i : Nat) (x : Int) : AOb := .cells [S, .int .i64 (i : Nat), .int .i64 x] .solo p
/-- Bytes that are drawn from. -/
structure Bts (p : Nat) (h : AH) (S : Value) (l : List Nat) : Prop where
  sl : ∃ A c, S = .slice A l.length c ∧ ∀ i (hi : i < l.length), ∃ id off, A = some ⟨id, off, none⟩ ∧ id < h.n ∧ id ≠ p ∧ rd h id (off + i * 1) 1 = some [.int .u8 (l[i] : Nat)]
  lt : ∀ n ∈ l, n < 256
  len : l.length ≤ 1048576
/-- A cursor that stands somewhere. -/
def Cur (p : Nat) (S : Value) (l : List Nat) (h : AH) : Prop := ∃ i x, h.ob p = curO p S i x ∧ i ≤ l.length
/-- All that a draw needs. -/
structure Dw (p : Nat) (S : Value) (l : List Nat) (h : AH) : Prop where
  bts : Bts p h S l
  cur : Cur p S l h
  lt : p < h.n
/-- What a draw leaves behind: its cursor moved; all else as it was. -/
structure Dn (p : Nat) (S : Value) (l : List Nat) (h h' : AH) : Prop where
  n : h.n ≤ h'.n
  ob : ∀ j, j < h.n → j ≠ p → h'.ob j = h.ob j
  cur : Cur p S l h'
theorem Dw.refl {p : Nat} {S : Value} {l : List Nat} {h : AH} (d : Dw p S l h) : Dn p S l h h := ⟨Nat.le_refl _, fun _ _ _ => rfl, d.cur⟩
theorem Dn.trans {p : Nat} {S : Value} {l : List Nat} {a b c : AH} (x : Dn p S l a b) (y : Dn p S l b c) : Dn p S l a c := ⟨Nat.le_trans x.n y.n, fun j h1 h2 => (y.ob j (Nat.lt_of_lt_of_le h1 x.n) h2).trans (x.ob j h1 h2), y.cur⟩
theorem Cur.pre {p : Nat} {S : Value} {l : List Nat} {h h' : AH} (d : Cur p S l h) (e : h'.ob p = h.ob p) : Cur p S l h' := by
  obtain ⟨i, x, e', hi⟩ := d
  exact ⟨i, x, e.trans e', hi⟩
theorem Dn.alloc {p : Nat} {S : Value} {l : List Nat} {h h' : AH} (d : Dn p S l h h') (hp : p < h.n) (o : AOb) : Dn p S l h (h'.alloc o) :=
  ⟨Nat.le_trans d.n (le_alloc o), fun j h1 h2 => (alloc_lt o (Nat.lt_of_lt_of_le h1 d.n)).trans (d.ob j h1 h2), d.cur.pre (alloc_lt o (Nat.lt_of_lt_of_le hp d.n))⟩
theorem Dn.set {p : Nat} {S : Value} {l : List Nat} {h h' : AH} (d : Dn p S l h h') (hp : p < h.n) {j : Nat} (hj : h.n ≤ j) (o : AOb) : Dn p S l h (h'.set j o) :=
  ⟨d.n, fun i h1 h2 => (set_ne o (by omega)).trans (d.ob i h1 h2), d.cur.pre (set_ne o (by omega))⟩
theorem Dn.pre {p : Nat} {S : Value} {l : List Nat} {h h' h'' : AH} (d : Dn p S l h h') (hp : p < h.n) (q : Pre h' h'') : Dn p S l h h'' :=
  ⟨Nat.le_trans d.n q.n, fun j h1 h2 => (q.ob j (Nat.lt_of_lt_of_le h1 d.n)).trans (d.ob j h1 h2), d.cur.pre (q.ob p (Nat.lt_of_lt_of_le hp d.n))⟩
theorem Dw.dn {p : Nat} {S : Value} {l : List Nat} {h h' : AH} (d : Dw p S l h) (w : Dn p S l h h') : Dw p S l h' := by
  obtain ⟨A, c, e, r⟩ := d.bts.sl
  refine ⟨⟨⟨A, c, e, fun i hi => ?_⟩, d.bts.lt, d.bts.len⟩, w.cur, Nat.lt_of_lt_of_le d.lt w.n⟩
  obtain ⟨id, off, e1, h1, h2, h3⟩ := r i hi
  exact ⟨id, off, e1, Nat.lt_of_lt_of_le h1 w.n, h2, by rw [← h3, rd_eq, rd_eq, w.ob id h1 h2]⟩
theorem Dw.toDn {p : Nat} {S : Value} {l : List Nat} {h h' : AH} (d : Dw p S l h) (q : Pre h h') : Dn p S l h h' := d.refl.pre d.lt q
theorem Dw.pre {p : Nat} {S : Value} {l : List Nat} {h h' : AH} (d : Dw p S l h) (q : Pre h h') : Dw p S l h' := d.dn (d.toDn q)
def m255 (a : Int) : Nat := (BitVec.ofInt IntKind.i64.bits a &&& BitVec.ofInt IntKind.i64.bits 255).toNat
theorem m255_lt (a : Int) : m255 a < 256 := by
  unfold m255
  rw [BitVec.toNat_and]
  have h2 : (BitVec.ofInt IntKind.i64.bits 255).toNat = 255 := by decide
  rw [h2]
  exact Nat.lt_of_le_of_lt Nat.and_le_right (by omega)
theorem m255_eq (a : Int) : IntKind.i64.wrap (BitVec.ofInt IntKind.i64.bits a &&& BitVec.ofInt IntKind.i64.bits 255).toNat = (m255 a : Nat) := by
  have := m255_lt a
  rw [w64 (by unfold m255 at this; omega) (by unfold m255 at this; omega)]
  rfl
theorem CC.num {f : FuncId} {args : List Value} {h : AH} {p : Nat} {S : Value} {l : List Nat} {Q : Nat → Prop} {K : Value → AH → Prop} (hc : CC Tryd.prog f args h fun v h' => (∃ y : Nat, v = .int .i64 (y : Nat) ∧ Q y) ∧ Dn p S l h h')
    (hk : ∀ (y : Nat) h', Q y → Dn p S l h h' → K (.int .i64 (y : Nat)) h') : CC Tryd.prog f args h K := CC.mono hc (fun v h' ⟨⟨y, e, q⟩, d⟩ => by subst e; exact hk y h' q d)
theorem CC.txt {f : FuncId} {args : List Value} {h : AH} {p : Nat} {S : Value} {l : List Nat} {Q : ByteArray → Prop} {K : Value → AH → Prop} (hc : CC Tryd.prog f args h fun v h' => (∃ y : ByteArray, v = .string y ∧ Q y) ∧ Dn p S l h h')
    (hk : ∀ (y : ByteArray) h', Q y → Dn p S l h h' → K (.string y) h') : CC Tryd.prog f args h K := CC.mono hc (fun v h' ⟨⟨y, e, q⟩, d⟩ => by subst e; exact hk y h' q d)
theorem l01Byte_c (p : Nat) (S : Value) (l : List Nat) (h : AH) (d : Dw p S l h) :
    CC Tryd.prog 75 [.pointer (some ⟨p, 0, none⟩)] h (fun v h' => (∃ y : Nat, v = .int .i64 (y : Nat) ∧ y < 256) ∧ Dn p S l h h') := by
  have hp := d.lt
  obtain ⟨⟨A, c, rfl, hR⟩, hlt', hlen⟩ := d.bts
  obtain ⟨i, x, e, hi⟩ := d.cur
  have dd := d.refl
  have key : ∀ i' x', i' ≤ l.length → Dn p (.slice A l.length c) l h (h.set p (curO p (.slice A l.length c) i' x')) := fun i' x' hi' => ⟨Nat.le_refl _, fun j _ h2 => set_ne _ h2, ⟨i', x', set_same _ _, hi'⟩⟩
  simp only [curO] at e
  refine CC.ofN Tryd.func75 Tryd.ntmps75 Tryd.results75 rfl (by decide) (by kernel_rfl) ?_
  simp (maxSteps := 1000000) -implicitDefEqProofs only [push_cast, seval, e, hp, rd_of e, rd1_of e]
  with_reducible refine nameI (IntKind.i64.wrap (IntKind.i64.wrap (x * 6364136223846793005) + 1442695040888963407)) (fun X hX => ?_)
  rw [← hX]
  refine WC.draw' (by kernel_rfl) (by kernel_rfl) (.q 0 (.q 1 (.q 2 (.q 3 (.q 4 (.q 5 (.q 6 (.q 7 (.q 8 (.q 9 (.q 10 (.q 11 (.q 12 (.done)))))))))))))) (by kernel_rfl) ?_
  simp (maxSteps := 1000000) -implicitDefEqProofs only [push_cast, seval, e, hp, rd_of e, rd1_of e, m255_eq]
  with_reducible refine nameN (m255 (IntKind.i64.wrap ((BitVec.ofInt IntKind.i64.bits (X.fdiv (2 ^ min 33 IntKind.i64.bits)) ^^^ BitVec.ofInt IntKind.i64.bits (X.fdiv (2 ^ min 45 IntKind.i64.bits))).toNat : Nat))) (fun Y hY => ?_)
  have hY2 : Y < 256 := by rw [hY]; exact m255_lt _
  rw [← hY]
  clear hY
  refine WC.draw' (by kernel_rfl) (by kernel_rfl) (.q 0 (.q 1 (.q 2 (.q 3 (.q 4 (.q 5 (.q 6 (.q 7 (.q 8 (.q 9 (.done))))))))))) (by kernel_rfl) ?_
  simp (maxSteps := 1000000) -implicitDefEqProofs only [push_cast, seval, e, hp, rd_of e, rd1_of e, m255_eq]
  with_reducible refine bcase_d (fun hb => ?_) (fun hb => ?_)
  · have hi' : i < l.length := by omega
    have hx := hR i hi'
    with_reducible refine Exists.elim hx (fun id hx => ?_)
    with_reducible refine Exists.elim hx (fun off hx => ?_)
    have eA := hx.1
    have hlt := hx.2.1
    have hne := hx.2.2.1
    have hr := hx.2.2.2
    clear hx
    subst eA
    rw [Nat.mul_one] at hr
    have r0 := rd_1 hr
    have r1 : ∀ O, rd1 (h.set p O) id (off + i * 1) = some (.int .u8 (l[i] : Nat)) := fun O => by
      rw [rd1_eq, set_ne _ hne, ← rd1_eq, Nat.mul_one]; exact r0
    have hlt2 := hlt' l[i] (List.getElem_mem hi')
    refine WC.draw' (by kernel_rfl) (by kernel_rfl) (.q 0 (.q 1 (.q 2 (.q 3 (.q 4 (.q 5 (.q 6 (.q 7 (.q 8 (.q 9 (.q 10 (.q 11 (.q 12 (.q 13 (.q 14 (.done)))))))))))))))) (by kernel_rfl) ?_
    simp (maxSteps := 1000000) -implicitDefEqProofs only [push_cast, seval, e, hp, rd_of e, rd1_of e, m255_eq, hr, r0, r1, hlt, hne]
    refine And.intro (by omega) (And.intro (by omega) ?_)
    rw [wrapSucc (by omega)]
    exact ⟨⟨_, rfl, m255_lt _⟩, key (i + 1) X hi'⟩
  · simp (maxSteps := 1000000) -implicitDefEqProofs only [push_cast, seval]
    exact ⟨⟨Y, rfl, hY2⟩, key i X hi⟩
theorem l01Below_c (p : Nat) (S : Value) (l : List Nat) (n : Int) (h : AH) (d : Dw p S l h) :
    CC Tryd.prog 49 [.pointer (some ⟨p, 0, none⟩), .int .i64 n] h (fun v h' => (∃ y : Nat, v = .int .i64 (y : Nat) ∧ (0 < n → (y : Int) < n) ∧ (n ≤ 0 → y = 0)) ∧ Dn p S l h h') := by
  refine CC.ofN Tryd.func49 Tryd.ntmps49 Tryd.results49 rfl (by decide) (by kernel_rfl) ?_
  simp (maxSteps := 1000000) -implicitDefEqProofs only [push_cast, seval]
  with_reducible refine bcase_d (fun hb => ?_) (fun hb => ?_)
  · simp (maxSteps := 1000000) -implicitDefEqProofs only [push_cast, seval]
    exact ⟨⟨0, rfl, fun e => by omega, fun _ => rfl⟩, d.refl⟩
  have md : ∀ a : Nat, ∃ y : Nat, (a : Int).tmod n = (y : Nat) ∧ (y : Int) < n := fun a => by
    obtain ⟨m, rfl⟩ := Int.eq_ofNat_of_zero_le (show 0 ≤ n by omega)
    refine ⟨a % m, ?_, ?_⟩
    · rw [Int.tmod_eq_emod_of_nonneg (by omega)]; rfl
    · have := Nat.mod_lt a (show 0 < m by omega); omega
  have hn0 : n ≠ 0 := by omega
  simp (maxSteps := 1000000) -implicitDefEqProofs only [push_cast, seval]
  with_reducible refine bcase_d (fun hb2 => ?_) (fun hb2 => ?_)
  · simp (maxSteps := 1000000) -implicitDefEqProofs only [push_cast, seval]
    with_reducible refine CC.num (l01Byte_c p S l _ d) (fun y h1 hy d1 => ?_)
    simp (maxSteps := 1000000) -implicitDefEqProofs only [push_cast, seval]
    refine And.intro hn0 ?_
    obtain ⟨z, ez, hz⟩ := md y
    rw [ez]
    exact ⟨⟨z, rfl, fun _ => hz, fun e => by omega⟩, d1⟩
  · simp (maxSteps := 1000000) -implicitDefEqProofs only [push_cast, seval]
    with_reducible refine CC.num (l01Byte_c p S l _ d) (fun y1 h1 q1 d1 => ?_)
    simp (maxSteps := 1000000) -implicitDefEqProofs only [push_cast, seval]
    with_reducible refine CC.num (l01Byte_c p S l _ (d.dn d1)) (fun y2 h2 q2 d2 => ?_)
    simp (maxSteps := 1000000) -implicitDefEqProofs only [push_cast, seval]
    with_reducible refine CC.num (l01Byte_c p S l _ ((d.dn d1).dn d2)) (fun y3 h3 q3 d3 => ?_)
    simp (maxSteps := 1000000) -implicitDefEqProofs only [push_cast, seval]
    with_reducible refine CC.num (l01Byte_c p S l _ (((d.dn d1).dn d2).dn d3)) (fun y4 h4 q4 d4 => ?_)
    with_reducible refine nameN (y1 * 16777216 + y2 * 65536 + y3 * 256 + y4) (fun Z hZ => ?_)
    have w : IntKind.i64.wrap (IntKind.i64.wrap (IntKind.i64.wrap (IntKind.i64.wrap ((y1 : Int) * 16777216) + IntKind.i64.wrap ((y2 : Int) * 65536)) + IntKind.i64.wrap ((y3 : Int) * 256)) + y4) = (Z : Int) := by
      rw [hZ, w64 (n := (y1 : Int) * 16777216) (by omega) (by omega), w64 (n := (y2 : Int) * 65536) (by omega) (by omega), w64 (n := (y3 : Int) * 256) (by omega) (by omega), w64 (n := (y1 : Int) * 16777216 + (y2 : Int) * 65536) (by omega) (by omega), w64 (n := (y1 : Int) * 16777216 + (y2 : Int) * 65536 + (y3 : Int) * 256) (by omega) (by omega), w64 (by omega) (by omega)]
      omega
    obtain ⟨z, ez, hz⟩ := md Z
    simp (maxSteps := 1000000) -implicitDefEqProofs only [push_cast, seval, w, ez]
    exact And.intro hn0 ⟨⟨z, rfl, fun _ => hz, fun e => by omega⟩, ((d1.trans d2).trans d3).trans d4⟩
end Go.Proofs.YtcggnolnakgkeaaDoor
namespace Go.Proofs.YtcggnolnakgkeaaDoor
open Go Go.Sim Go.Proofs
set_option linter.unusedSimpArgs false
set_option linter.unusedVariables false
set_option maxRecDepth 100000
set_option maxHeartbeats 1000000
theorem CC.bol {f : FuncId} {args : List Value} {h : AH} {p : Nat} {S : Value} {l : List Nat} {K : Value → AH → Prop} (hc : CC Tryd.prog f args h fun v h' => (∃ y : Bool, v = .bool y) ∧ Dn p S l h h')
    (hk : ∀ (y : Bool) h', Dn p S l h h' → K (.bool y) h') : CC Tryd.prog f args h K := CC.mono hc (fun v h' ⟨⟨y, e⟩, d⟩ => by subst e; exact hk y h' d)
def strs (Q : ByteArray → Prop) : List Value → Prop
  | [] => True
  | .string y :: r => Q y ∧ strs Q r
  | _ => False
theorem strs_at {Q : ByteArray → Prop} : ∀ {cs : List Value} {i : Nat}, strs Q cs → i < cs.length → ∃ y, cs[i]? = some (.string y) ∧ Q y
  | .string y :: r, 0, h, _ => ⟨y, rfl, h.1⟩
  | .string y :: r, i + 1, h, hi => strs_at (cs := r) h.2 (by simpa using hi)
theorem l01Pick_c (p : Nat) (S : Value) (l : List Nat) (id n : Nat) (Q : ByteArray → Prop) (cs : List Value) (h : AH) (d : Dw p S l h) (e : h.ob id = .cells cs .solo id) (hc : strs Q cs) (hn : cs.length = n) (h0 : 0 < n) (hlt : id < h.n) :
    CC Tryd.prog 52 [.pointer (some ⟨p, 0, none⟩), .slice (some ⟨id, 0, none⟩) n 1] h (fun v h' => (∃ y : ByteArray, v = .string y ∧ Q y) ∧ Dn p S l h h') := by
  subst hn
  have hne : id ≠ p := fun e' => by
    subst e'
    obtain ⟨i, x, e2, _⟩ := d.cur
    rw [e] at e2
    obtain ⟨A, c, rfl, _⟩ := d.bts.sl
    simp only [curO, AOb.cells.injEq] at e2
    rw [e2.1] at hc
    exact hc
  refine CC.ofN Tryd.func52 Tryd.ntmps52 Tryd.results52 rfl (by decide) (by kernel_rfl) ?_
  simp (maxSteps := 1000000) -implicitDefEqProofs only [push_cast, seval]
  with_reducible refine CC.num (l01Below_c p S l _ _ d) (fun y h1 q d1 => ?_)
  have hy : (y : Int) < cs.length := q.1 (by omega)
  have hy' : y < cs.length := by omega
  have e1 : h1.ob id = _ := (d1.ob id hlt hne).trans e
  have l1 : id < h1.n := Nat.lt_of_lt_of_le hlt d1.n
  have hz := strs_at hc hy'
  with_reducible refine Exists.elim hz (fun z hz => ?_)
  have g1 : rd1 h1 id (y * 1) = some (.string z) := by rw [rd1_of e1, rd1O_cells, Nat.mul_one]; exact hz.1
  have hQ := hz.2
  simp (maxSteps := 1000000) -implicitDefEqProofs only [push_cast, seval, l1, g1]
  refine And.intro (by omega) (And.intro (by omega) ?_)
  exact ⟨⟨z, rfl, hQ⟩, d1⟩
theorem l03Val_c (p : Nat) (S : Value) (l : List Nat) (h : AH) (d : Dw p S l h) :
    CC Tryd.prog 51 [.pointer (some ⟨p, 0, none⟩)] h (fun v h' => (∃ y : ByteArray, v = .string y ∧ y.size ≤ 42) ∧ Dn p S l h h') := by
  refine CC.ofN Tryd.func51 Tryd.ntmps51 Tryd.results51 rfl (by decide) (by kernel_rfl) ?_
  simp (maxSteps := 1000000) -implicitDefEqProofs only [push_cast, seval]
  refine CC.txt (l01Pick_c p S l h.n 16 (fun y => y.size ≤ 42) _ _ (d.pre ((Pre.refl h).alloc _)) (alloc_same _) (by simp only [strs]; decide) rfl (by omega) (lt_alloc _)) (fun y h1 q d1 => ?_)
  simp (maxSteps := 1000000) -implicitDefEqProofs only [push_cast, seval]
  exact ⟨⟨y, rfl, q⟩, (d.toDn ((Pre.refl h).alloc _)).trans d1⟩
theorem l08Name_c (p : Nat) (S : Value) (l : List Nat) (h : AH) (d : Dw p S l h) :
    CC Tryd.prog 50 [.pointer (some ⟨p, 0, none⟩)] h (fun v h' => (∃ y : ByteArray, v = .string y ∧ letters y = true) ∧ Dn p S l h h') := by
  refine CC.ofN Tryd.func50 Tryd.ntmps50 Tryd.results50 rfl (by decide) (by kernel_rfl) ?_
  simp (maxSteps := 1000000) -implicitDefEqProofs only [push_cast, seval]
  refine CC.txt (l01Pick_c p S l h.n 5 (fun y => letters y = true) _ _ (d.pre ((Pre.refl h).alloc _)) (alloc_same _) (by simp only [strs]; decide) rfl (by omega) (lt_alloc _)) (fun y h1 q d1 => ?_)
  simp (maxSteps := 1000000) -implicitDefEqProofs only [push_cast, seval]
  exact ⟨⟨y, rfl, q⟩, (d.toDn ((Pre.refl h).alloc _)).trans d1⟩
theorem letters_size {y : ByteArray} (h : letters y = true) : y.size ≤ 8 := by
  simp only [letters, inB, Bool.and_eq_true, decide_eq_true_eq] at h
  omega
end Go.Proofs.YtcggnolnakgkeaaDoor
namespace Go.Proofs.YtcggnolnakgkeaaDoor
open Go Go.Sim Go.Proofs
set_option linter.unusedSimpArgs false
set_option linter.unusedVariables false
set_option maxRecDepth 100000
set_option maxHeartbeats 1000000
theorem OwnT.zero (h0 h : AH) : OwnT h0 h (.slice none 0 0) (.slice none 0 0) store0 := ⟨Gr.nil _ _ _ _, Gr.nil _ _ _ _, fun i e => e.elim⟩
theorem store0_ok : storeOk store0 = true := by decide
theorem OwnT.dn {p : Nat} {S : Value} {l : List Nat} {h0 h h' : AH} {vA vB : Value} {st : Store} (o : OwnT h0 h vA vB st) (hp : p < h0.n) (d : Dn p S l h h') : OwnT h0 h' vA vB st :=
  o.keep d.n (fun i e => by have := o.range e; exact d.ob i this.2 (by omega))
/-- A drawn store. -/
theorem l08Store_c (p : Nat) (S : Value) (l : List Nat) (h : AH) (d : Dw p S l h) :
    CC Tryd.prog 18 [.pointer (some ⟨p, 0, none⟩)] h (fun v h' => ∃ vA vB st, v = .agg #[vA, vB, .string st.out] ∧ storeOk st = true ∧ OwnT h h' vA vB st ∧ Dn p S l h h') := by
  have hp := d.lt
  have hp2 : p < (⟨h.n + 2, h.ob⟩ : AH).n := by show p < h.n + 2; omega
  refine CC.ofN Tryd.func18 Tryd.ntmps18 Tryd.results18 rfl (by decide) (by kernel_rfl) ?_
  simp (maxSteps := 1000000) -implicitDefEqProofs only [push_cast, seval]
  refine WC.loopA (by kernel_rfl) [4] [6, 7, 8, 9, 10, 11, 12, 13, 14, 15, 16, 17, 18, 19, 20, 21, 22, 23, 24, 25, 26, 27, 28, 29, 30, 31, 32, 33, 34, 35, 36] (fun a : Nat × Value × Value × Store => [.int .i64 (a.1 : Nat)]) (fun a h' => a.1 ≤ 8 ∧ h'.ob h.n = .cells [.slice none 0 0, .slice none 0 0, .string ⟨#[]⟩] .solo h.n ∧ h'.ob (h.n + 1) = .cells [a.2.1, a.2.2.1, .string a.2.2.2.out] .solo (h.n + 1) ∧ storeOk a.2.2.2 = true ∧ OwnT ⟨h.n + 2, h.ob⟩ h' a.2.1 a.2.2.1 a.2.2.2 ∧ Dn p S l h h' ∧ h.n + 2 ≤ h'.n) (fun a => 8 - a.1) (0, .slice none 0 0, .slice none 0 0, store0) (by kernel_rfl) ⟨Nat.zero_le _, (by (try simp (maxSteps := 1000000) -implicitDefEqProofs only [push_cast, seval, rdOb]); try rfl), (by (try simp (maxSteps := 1000000) -implicitDefEqProofs only [push_cast, seval, rdOb]); try rfl), store0_ok, OwnT.zero _ _, ((d.refl.alloc hp _).alloc hp _).set hp (by show h.n ≤ h.n + 1; omega) _, ?_⟩ ?_
  · show h.n + 2 ≤ h.n + 2
    omega
  intro a g h1 hJ
  have hi := hJ.1
  have g0 := hJ.2.1
  have g1 := hJ.2.2.1
  have ok := hJ.2.2.2.1
  have oT := hJ.2.2.2.2.1
  have d1 := hJ.2.2.2.2.2.1
  have n1 := hJ.2.2.2.2.2.2
  clear hJ
  have y1 := oT.one.1
  have y2 := oT.one.2
  have l0 : h.n < h1.n := by omega
  have l1 : h.n + 1 < h1.n := by omega
  simp (maxSteps := 1000000) -implicitDefEqProofs only [push_cast, seval]
  with_reducible refine CC.num (l01Below_c p S l _ _ (d.dn d1)) (fun y h2 q d2 => ?_)
  have hn2 := d2.n
  have f0 : h2.ob h.n = _ := (d2.ob _ l0 (by omega)).trans g0
  have f1 : h2.ob (h.n + 1) = _ := (d2.ob _ l1 (by omega)).trans g1
  have l02 : h.n < h2.n := by omega
  have l12 : h.n + 1 < h2.n := by omega
  have oT2 := oT.dn hp2 d2
  have dw2 := (d.dn d1).dn d2
  simp (maxSteps := 1000000) -implicitDefEqProofs only [push_cast, seval]
  with_reducible refine bcase_d (fun hb => ?_) (fun hb => ?_)
  · simp (maxSteps := 1000000) -implicitDefEqProofs only [push_cast, seval]
    have hy : (y : Int) < 8 := q.1 (by omega)
    with_reducible refine CC.num (l01Below_c p S l _ _ dw2) (fun z h3 q3 d3 => ?_)
    have hn3 := d3.n
    have k0 : h3.ob h.n = _ := (d3.ob _ l02 (by omega)).trans f0
    have k1 : h3.ob (h.n + 1) = _ := (d3.ob _ l12 (by omega)).trans f1
    have l03 : h.n < h3.n := by omega
    have l13 : h.n + 1 < h3.n := by omega
    have oT3 := oT2.dn hp2 d3
    have dw3 := dw2.dn d3
    have db : Dn p S l h h3 := (d1.trans d2).trans d3
    clear oT oT2 f0 f1 g0 g1 d1 d2 d3
    simp (maxSteps := 1000000) -implicitDefEqProofs only [push_cast, seval]
    with_reducible refine bcase_d (fun hb1 => ?_) (fun hb1 => ?_)
    · simp (maxSteps := 1000000) -implicitDefEqProofs only [push_cast, seval]
      refine WC.draw' (by kernel_rfl) (by kernel_rfl) (.q 0 (.q 1 (.q 3 (.a 2 false (.a 4 false (.a 5 false (.a 6 true (.done)))))))) (by kernel_rfl) ?_
      simp (maxSteps := 1000000) -implicitDefEqProofs only [push_cast, seval, k1, rd_of k1, rd1_of k1, l13, y1, y2]
      with_reducible refine CC.txt (l08Name_c p S l _ dw3) (fun nm h4 qn d4 => ?_)
      have m1 : h4.ob (h.n + 1) = _ := (d4.ob _ l13 (by omega)).trans k1
      simp (maxSteps := 1000000) -implicitDefEqProofs only [push_cast, seval, k1, rd_of k1, rd1_of k1, m1, rd_of m1, rd1_of m1, l13, y1, y2]
      have q4 : h4.ob h.n = _ := (d4.ob _ l03 (by omega)).trans k0
      have hn4 := d4.n
      have oT4 := oT3.dn hp2 d4
      with_reducible refine CC.txt (l03Val_c p S l _ (dw3.dn d4)) (fun vl h5 qv d5 => ?_)
      have m5 : h5.ob (h.n + 1) = _ := (d5.ob _ (by omega) (by omega)).trans m1
      have q5 : h5.ob h.n = _ := (d5.ob _ (by omega) (by omega)).trans q4
      have hn5 := d5.n
      have oT5 := oT4.dn hp2 d5
      simp (maxSteps := 1000000) -implicitDefEqProofs only [push_cast, seval, k1, rd_of k1, rd1_of k1, m1, rd_of m1, rd1_of m1, m5, rd_of m5, rd1_of m5, l13, y1, y2]
      have hmx := maxLen_eq
      have ls := letters_size qn
      with_reducible refine CC.mono (SetVar_s a.2.2.2 nm vl _ _ _ oT5.rdt (ok_szB ok) (by omega) (by omega)) (fun v h6 hv => ?_)
      with_reducible refine Exists.elim hv (fun rA hv => ?_)
      with_reducible refine Exists.elim hv (fun rB hv => ?_)
      have e1 := hv.1
      have oN := hv.2.1
      have p6 := hv.2.2
      clear hv
      subst e1
      have hn6 : h5.n ≤ h6.n := p6.n
      have u1 : h6.ob (h.n + 1) = _ := (p6.ob _ (by omega)).trans m5
      have u0 : h6.ob h.n = _ := (p6.ob _ (by omega)).trans q5
      have lu : h.n + 1 < h6.n := by omega
      have y3 := oN.one.1
      have y4 := oN.one.2
      simp (maxSteps := 1000000) -implicitDefEqProofs only [push_cast, seval, k1, rd_of k1, rd1_of k1, m1, rd_of m1, rd1_of m1, m5, rd_of m5, rd1_of m5, u1, rd_of u1, rd1_of u1, l13, y1, y2, y3, y4, lu]
      rw [wrapSucc (by omega)]
      have dN : Dn p S l h (h6.set (h.n + 1) (AOb.cells [rA, rB, Value.string (setV a.2.2.2 nm vl).out] .solo (h.n + 1))) := (((db.trans d4).trans d5).pre hp p6).set hp (by omega) _
      exact ⟨(a.1 + 1, rA, rB, setV a.2.2.2 nm vl), by kernel_rfl, ⟨by show a.1 + 1 ≤ 8; omega, u0, rfl, setV_ok ok qn, (oN.mono (by show h.n + 2 ≤ _; omega)).to (Nat.le_refl _) (fun i e => set_ne _ (by have := oN.range e; omega)), dN, by show h.n + 2 ≤ h6.n; omega⟩, by show 8 - (a.1 + 1) < 8 - a.1; omega⟩
    · simp (maxSteps := 1000000) -implicitDefEqProofs only [push_cast, seval]
      with_reducible refine bcase_d (fun hb2 => ?_) (fun hb2 => ?_)
      · simp (maxSteps := 1000000) -implicitDefEqProofs only [push_cast, seval]
        refine WC.draw' (by kernel_rfl) (by kernel_rfl) (.q 0 (.q 1 (.q 4 (.q 6 (.a 2 false (.a 3 false (.a 5 false (.a 7 false (.a 8 false (.a 9 true (.done))))))))))) (by kernel_rfl) ?_
        simp (maxSteps := 1000000) -implicitDefEqProofs only [push_cast, seval, k1, rd_of k1, rd1_of k1, l13, y1, y2]
        have dA := dw3.toDn ((Pre.refl h3).alloc (AOb.cells [Value.string ⟨#[116]⟩, Value.string ⟨#[117]⟩] .solo h3.n))
        have oA := oT3.alloc (AOb.cells [Value.string ⟨#[116]⟩, Value.string ⟨#[117]⟩] .solo h3.n)
        with_reducible refine CC.txt (l01Pick_c p S l h3.n 2 (fun y => letters y = true) _ _ (dw3.dn dA) (alloc_same _) (by simp only [strs]; decide) rfl (by omega) (lt_alloc _)) (fun nm h4 qn d4 => ?_)
        have hn4 : h3.n + 1 ≤ h4.n := d4.n
        have m4 : h4.ob (h.n + 1) = _ := (d4.ob _ (by show h.n + 1 < h3.n + 1; omega) (by omega)).trans ((alloc_lt _ l13).trans k1)
        have q4 : h4.ob h.n = _ := (d4.ob _ (by show h.n < h3.n + 1; omega) (by omega)).trans ((alloc_lt _ l03).trans k0)
        have oT4 := oA.dn hp2 d4
        have dw4 := (dw3.dn dA).dn d4
        simp (maxSteps := 1000000) -implicitDefEqProofs only [push_cast, seval, k1, rd_of k1, rd1_of k1, m4, rd_of m4, rd1_of m4, l13, y1, y2]
        with_reducible refine CC.txt (l03Val_c p S l _ dw4) (fun ky h5 qk d5 => ?_)
        have hn5 := d5.n
        have m5 : h5.ob (h.n + 1) = _ := (d5.ob _ (by omega) (by omega)).trans m4
        have q5 : h5.ob h.n = _ := (d5.ob _ (by omega) (by omega)).trans q4
        have oT5 := oT4.dn hp2 d5
        simp (maxSteps := 1000000) -implicitDefEqProofs only [push_cast, seval, k1, rd_of k1, rd1_of k1, m4, rd_of m4, rd1_of m4, m5, rd_of m5, rd1_of m5, l13, y1, y2]
        with_reducible refine CC.txt (l03Val_c p S l _ (dw4.dn d5)) (fun vl h6 qv d6 => ?_)
        have hn6 := d6.n
        have m6 : h6.ob (h.n + 1) = _ := (d6.ob _ (by omega) (by omega)).trans m5
        have q6 : h6.ob h.n = _ := (d6.ob _ (by omega) (by omega)).trans q5
        have oT6 := oT5.dn hp2 d6
        simp (maxSteps := 1000000) -implicitDefEqProofs only [push_cast, seval, k1, rd_of k1, rd1_of k1, m4, rd_of m4, rd1_of m4, m5, rd_of m5, rd1_of m5, m6, rd_of m6, rd1_of m6, l13, y1, y2]
        have hmx := maxLen_eq
        have ls := letters_size qn
        with_reducible refine CC.mono (SetCell_s a.2.2.2 nm ky vl _ _ _ oT6.rdt (ok_szB ok) (by omega) (by omega) (by omega)) (fun v h7 hv => ?_)
        with_reducible refine Exists.elim hv (fun rA hv => ?_)
        with_reducible refine Exists.elim hv (fun rB hv => ?_)
        have e1 := hv.1
        have oN := hv.2.1
        have p7 := hv.2.2
        clear hv
        subst e1
        have hn7 : h6.n ≤ h7.n := p7.n
        have u1 : h7.ob (h.n + 1) = _ := (p7.ob _ (by omega)).trans m6
        have u0 : h7.ob h.n = _ := (p7.ob _ (by omega)).trans q6
        have lu : h.n + 1 < h7.n := by omega
        have y3 := oN.one.1
        have y4 := oN.one.2
        simp (maxSteps := 1000000) -implicitDefEqProofs only [push_cast, seval, k1, rd_of k1, rd1_of k1, m4, rd_of m4, rd1_of m4, m5, rd_of m5, rd1_of m5, m6, rd_of m6, rd1_of m6, u1, rd_of u1, rd1_of u1, l13, y1, y2, y3, y4, lu]
        rw [wrapSucc (by omega)]
        have dN : Dn p S l h (h7.set (h.n + 1) (AOb.cells [rA, rB, Value.string (setC a.2.2.2 nm ky vl).out] .solo (h.n + 1))) := (((((db.trans dA).trans d4).trans d5).trans d6).pre hp p7).set hp (by omega) _
        exact ⟨(a.1 + 1, rA, rB, setC a.2.2.2 nm ky vl), by kernel_rfl, ⟨by show a.1 + 1 ≤ 8; omega, u0, rfl, setC_ok ok qn, (oN.mono (by show h.n + 2 ≤ _; omega)).to (Nat.le_refl _) (fun i e => set_ne _ (by have := oN.range e; omega)), dN, by show h.n + 2 ≤ h7.n; omega⟩, by show 8 - (a.1 + 1) < 8 - a.1; omega⟩
      · simp (maxSteps := 1000000) -implicitDefEqProofs only [push_cast, seval]
        refine WC.draw' (by kernel_rfl) (by kernel_rfl) (.q 0 (.q 1 (.a 2 false (.a 3 false (.a 4 true (.done)))))) (by kernel_rfl) ?_
        simp (maxSteps := 1000000) -implicitDefEqProofs only [push_cast, seval, k1, rd_of k1, rd1_of k1, l13, y1, y2]
        with_reducible refine CC.txt (l03Val_c p S l _ dw3) (fun vl h4 qv d4 => ?_)
        have hn4 := d4.n
        have m4 : h4.ob (h.n + 1) = _ := (d4.ob _ (by omega) (by omega)).trans k1
        have q4 : h4.ob h.n = _ := (d4.ob _ (by omega) (by omega)).trans k0
        have oT4 := oT3.dn hp2 d4
        simp (maxSteps := 1000000) -implicitDefEqProofs only [push_cast, seval, k1, rd_of k1, rd1_of k1, m4, rd_of m4, rd1_of m4, l13, y1, y2]
        with_reducible refine CC.mono (Say_s a.2.2.2 vl _ _ _ oT4.rdt (ok_szB ok) (by omega)) (fun v h5 hv => ?_)
        with_reducible refine Exists.elim hv (fun rA hv => ?_)
        with_reducible refine Exists.elim hv (fun rB hv => ?_)
        have e1 := hv.1
        have oN := hv.2.1
        have p5 := hv.2.2
        clear hv
        subst e1
        have hn5 : h4.n ≤ h5.n := p5.n
        have u1 : h5.ob (h.n + 1) = _ := (p5.ob _ (by omega)).trans m4
        have u0 : h5.ob h.n = _ := (p5.ob _ (by omega)).trans q4
        have lu : h.n + 1 < h5.n := by omega
        have y3 := oN.one.1
        have y4 := oN.one.2
        simp (maxSteps := 1000000) -implicitDefEqProofs only [push_cast, seval, k1, rd_of k1, rd1_of k1, m4, rd_of m4, rd1_of m4, u1, rd_of u1, rd1_of u1, l13, y1, y2, y3, y4, lu]
        rw [wrapSucc (by omega)]
        have dN : Dn p S l h (h5.set (h.n + 1) (AOb.cells [rA, rB, Value.string (sayS a.2.2.2 vl).out] .solo (h.n + 1))) := ((db.trans d4).pre hp p5).set hp (by omega) _
        exact ⟨(a.1 + 1, rA, rB, sayS a.2.2.2 vl), by kernel_rfl, ⟨by show a.1 + 1 ≤ 8; omega, u0, rfl, say_ok ok vl, (oN.mono (by show h.n + 2 ≤ _; omega)).to (Nat.le_refl _) (fun i e => set_ne _ (by have := oN.range e; omega)), dN, by show h.n + 2 ≤ h5.n; omega⟩, by show 8 - (a.1 + 1) < 8 - a.1; omega⟩
  · simp (maxSteps := 1000000) -implicitDefEqProofs only [push_cast, seval, f1, rd_of f1, rd1_of f1, l12, y1, y2, f0, rd_of f0, rd1_of f0, l02]
    refine ⟨a.2.1, a.2.2.1, a.2.2.2, rfl, ok, (oT2.mono (by show h.n ≤ h.n + 2; omega)).to (Nat.le_refl _) (fun i e => ?_), ((d1.trans d2)).set hp (Nat.le_refl _) _⟩
    have e2 : h.n + 2 ≤ i ∧ _ := oT2.range e
    exact set_ne _ (by omega)
end Go.Proofs.YtcggnolnakgkeaaDoor
namespace Go.Proofs.YtcggnolnakgkeaaDoor
open Go Go.Sim Go.Proofs
set_option linter.unusedSimpArgs false
set_option linter.unusedVariables false
set_option maxRecDepth 100000
set_option maxHeartbeats 1000000
theorem l01Long_c (n x : Nat) (hn : n < 100000) (hx : x < 256) (h : AH) : CC Tryd.prog 54 [.int .i64 (n : Nat), .int .u8 (x : Nat)] h (fun v h' => (∃ y : ByteArray, v = .string y ∧ y.size = n) ∧ h' = h) := by
  refine CC.quiet (R := fun v => ∃ y : ByteArray, v = .string y ∧ y.size = n) ?_ (fun v ⟨y, e, _⟩ => by subst e; exact low_string _ _)
  refine CC.ofN Tryd.func54 Tryd.ntmps54 Tryd.results54 rfl (by decide) (by kernel_rfl) ?_
  simp (maxSteps := 1000000) -implicitDefEqProofs only [push_cast, seval]
  repeat (with_reducible refine And.intro ?_ ?_; · (first | omega | decide))
  rw [Nat.mul_one]
  refine WC.loopA (by kernel_rfl) [6] [9, 10, 11, 12, 13, 14, 15, 16, 17] (fun a : Nat × List Nat => [.int .i64 (a.1 : Nat)]) (fun a h' => h' = h.alloc (.cells (a.2.map fun b => .int .u8 (b : Nat)) .solo h.n) ∧ a.2.length = n ∧ a.1 ≤ n) (fun a => n - a.1) (0, List.replicate n 0) (by kernel_rfl) ⟨by simp, by simp, Nat.zero_le _⟩ ?_
  intro a g h1 hJ
  have hh := hJ.1
  have hl := hJ.2.1
  have hi := hJ.2.2
  clear hJ
  subst hh
  simp (maxSteps := 1000000) -implicitDefEqProofs only [push_cast, seval]
  with_reducible refine bcase_d (fun hb => ?_) (fun hb => ?_)
  · have hi' : a.1 < n := by omega
    have el : ((a.2.map fun b => Value.int .u8 (b : Nat))).length = n := by rw [List.length_map, hl]
    have ez : a.1 * 1 + 1 ≤ n := by omega
    simp (maxSteps := 1000000) -implicitDefEqProofs only [push_cast, seval, el, ez]
    refine And.intro (by omega) (And.intro (by omega) ?_)
    rw [wrapSucc (by omega)]
    refine ⟨(a.1 + 1, a.2.set a.1 x), by kernel_rfl, ⟨?_, by simp [hl], by show a.1 + 1 ≤ n; omega⟩, by show n - (a.1 + 1) < n - a.1; omega⟩
    rw [alloc_set, List.map_set, Nat.mul_one]
  · have er : rd (h.alloc (.cells (a.2.map fun b => .int .u8 (b : Nat)) .solo h.n)) h.n 0 n = some (a.2.map fun b => .int .u8 (b : Nat)) := by
      rw [rd_alloc_same, rdO_cells, if_pos (by simp [hl])]
      rw [List.drop_zero, List.take_of_length_le (by simp [hl])]
    simp (maxSteps := 1000000) -implicitDefEqProofs only [push_cast, seval, er, toBytes_nat]
    repeat' (first | with_reducible (first | exact Keep.refl _ _ | assumption | exact byte_lt _ _ | apply Keep.alloc | (refine Keep.set ?_ ?_; rotate_left; · omega) | apply Pre.alloc | apply Pre.set | exact Pre.refl _ | exact le_alloc _ | (refine Pre.keep ?_; assumption) | (refine Pre.n ?_; assumption)) | ((with_reducible (first | refine bcase_d (fun hb => ?_) (fun hb => ?_) | refine bcase_mk (fun hb => ?_) (fun hb => ?_))) <;> try simp (maxSteps := 1000000) -implicitDefEqProofs only [push_cast, seval]) | with_reducible refine And.intro ?_ ?_ | omega | (simp only [alloc_n, set_n, kill_n]; omega) | (exfalso; omega))
    exact ⟨_, rfl, by simp [ByteArray.size, hl]⟩
def addV (s : Store) (n : ByteArray) : Store := ⟨s.vars ++ [⟨n, ⟨#[]⟩⟩], s.cells, s.out⟩
def addC (s : Store) (n : ByteArray) : Store := ⟨s.vars, s.cells ++ [⟨n, ⟨#[]⟩, ⟨#[]⟩⟩], s.out⟩
theorem Dn.to {p : Nat} {S : Value} {l : List Nat} {h h' h'' : AH} (d : Dn p S l h h') (hp : p < h.n) (hn : h'.n ≤ h''.n) (e : ∀ i, i < h.n → i ≠ p → h''.ob i = h'.ob i) (ep : h''.ob p = h'.ob p) : Dn p S l h h'' :=
  ⟨Nat.le_trans d.n hn, fun j h1 h2 => (e j h1 h2).trans (d.ob j h1 h2), d.cur.pre ep⟩
/-- A drawn store, right or not. -/
theorem l08Any_c (p : Nat) (S : Value) (l : List Nat) (h : AH) (d : Dw p S l h) :
    CC Tryd.prog 20 [.pointer (some ⟨p, 0, none⟩)] h (fun v h' => ∃ vA vB st, v = .agg #[vA, vB, .string st.out] ∧ SzB st ∧ OwnT h h' vA vB st ∧ Dn p S l h h') := by
  have hp := d.lt
  refine CC.ofN Tryd.func20 Tryd.ntmps20 Tryd.results20 rfl (by decide) (by kernel_rfl) ?_
  simp (maxSteps := 1000000) -implicitDefEqProofs only [push_cast, seval]
  with_reducible refine CC.mono (l08Store_c p S l _ (d.pre ((Pre.refl h).alloc _))) (fun v h1 hv => ?_)
  with_reducible refine Exists.elim hv (fun vA hv => ?_)
  with_reducible refine Exists.elim hv (fun vB hv => ?_)
  with_reducible refine Exists.elim hv (fun st hv => ?_)
  have e1 := hv.1
  have ok := hv.2.1
  have o1 := hv.2.2.1
  have d1 := hv.2.2.2
  clear hv
  subst e1
  have y1 := o1.one.1
  have y2 := o1.one.2
  have n1 : h.n + 1 ≤ h1.n := d1.n
  have g1 : h1.ob h.n = _ := (d1.ob h.n (Nat.lt_succ_self _) (by omega)).trans (alloc_same _)
  have db : Dn p S l h h1 := (d.toDn ((Pre.refl h).alloc _)).trans d1
  simp (maxSteps := 1000000) -implicitDefEqProofs only [push_cast, seval, y1, y2]
  with_reducible refine CC.mono (l08Copy_c st vA vB _ o1.rdt (ok_szB ok).sz) (fun v h2 hv => ?_)
  with_reducible refine Exists.elim hv (fun rA hv => ?_)
  with_reducible refine Exists.elim hv (fun rB hv => ?_)
  have e1 := hv.1
  have o2 := hv.2.1
  have p2 := hv.2.2
  clear hv
  subst e1
  have n2 := p2.n
  have g2 : h2.ob h.n = _ := (p2.ob h.n (by omega)).trans g1
  have y3 := o2.one.1
  have y4 := o2.one.2
  simp (maxSteps := 1000000) -implicitDefEqProofs only [push_cast, seval, y3, y4]
  have pa : Pre h2 ((h2.alloc (AOb.cells [.slice none 0 0, .slice none 0 0, .string ⟨#[]⟩] .solo h2.n)).set h2.n (AOb.cells [rA, rB, .string st.out] .solo h2.n)) := ((Pre.refl h2).alloc _).set (Nat.le_refl _) _
  have db3 := (db.pre hp p2).pre hp pa
  have dw3 := d.dn db3
  with_reducible refine CC.num (l01Below_c p S l _ _ dw3) (fun y h3 q3 d3 => ?_)
  have n3 : h2.n + 1 ≤ h3.n := d3.n
  have g3 : h3.ob h.n = _ := (d3.ob h.n (by show h.n < h2.n + 1; omega) (by omega)).trans ((set_ne _ (by omega)).trans ((alloc_lt _ (by omega)).trans g2))
  have k3 : h3.ob h2.n = AOb.cells [rA, rB, .string st.out] .solo h2.n := (d3.ob h2.n (Nat.lt_succ_self _) (by omega)).trans (set_same _ _)
  have o3 : OwnT h1 h3 rA rB st := (o2.pre pa).dn (by omega) d3
  have l3 : h.n < h3.n := by omega
  have m3 : h2.n < h3.n := by omega
  have dwx := dw3.dn d3
  have dbx := db3.trans d3
  have lo : ∀ i, (atBlock rA i ∨ atBlock rB i) → i < h2.n := fun i e => (o2.range e).2
  clear g1 g2 o2 d1 db db3 dw3 d3 pa
  simp (maxSteps := 1000000) -implicitDefEqProofs only [push_cast, seval, k3, rd_of k3, rd1_of k3, m3]
  with_reducible refine bcase_d (fun hb => ?_) (fun hb => ?_)
  · simp (maxSteps := 1000000) -implicitDefEqProofs only [push_cast, seval, k3, rd_of k3, rd1_of k3, m3]
    refine WC.draw' (by kernel_rfl) (by kernel_rfl) (.q 0 (.q 1 (.q 2 (.a 3 false (.a 4 false (.q 5 (.a 6 false (.a 7 false (.q 8 (.a 9 true (.done))))))))))) (by kernel_rfl) ?_
    simp (maxSteps := 1000000) -implicitDefEqProofs only [push_cast, seval, k3, rd_of k3, rd1_of k3, m3, y3, y4]
    have dA := dwx.toDn ((Pre.refl h3).alloc (AOb.cells [Value.string ⟨#[97]⟩, Value.string ⟨#[122, 122]⟩, Value.string ⟨#[49]⟩] .solo h3.n))
    have oA := o3.alloc (AOb.cells [Value.string ⟨#[97]⟩, Value.string ⟨#[122, 122]⟩, Value.string ⟨#[49]⟩] .solo h3.n)
    with_reducible refine CC.txt (l01Pick_c p S l h3.n 3 (fun y => y.size ≤ 2) _ _ (dwx.dn dA) (alloc_same _) (by simp only [strs]; decide) rfl (by omega) (lt_alloc _)) (fun nm h4 qn d4 => ?_)
    have n4 : h3.n + 1 ≤ h4.n := d4.n
    have k4 : h4.ob h2.n = _ := (d4.ob _ (by show h2.n < h3.n + 1; omega) (by omega)).trans ((alloc_lt _ m3).trans k3)
    have g4 : h4.ob h.n = _ := (d4.ob _ (by show h.n < h3.n + 1; omega) (by omega)).trans ((alloc_lt _ l3).trans g3)
    have o4 := oA.dn (by omega) d4
    have m4 : h2.n < h4.n := by omega
    simp (maxSteps := 1000000) -implicitDefEqProofs only [push_cast, seval, k3, rd_of k3, rd1_of k3, k4, rd_of k4, rd1_of k4, m3, m4, y3, y4]
    have hl : ((st.vars.map Var.enc).flatten).length = st.vars.length * 2 := flat_len (k := 2) _ (fun _ => rfl)
    have zst := ok_szB ok
    have zl := zst.nv
    refine Gr.app1 (h0 := ⟨h1.n, h4.ob⟩) si24 (by decide) (by decide) (notInt_sl und24) o4.a ⟨by show h1.n ≤ h4.n; omega, fun _ _ => rfl⟩ rfl (by rw [hl]; omega) (by decide) (fun h5 gr ow p' hn' he => ?_)
    rw [hl, Nat.mul_div_cancel _ (by decide : 0 < 2)] at gr ow ⊢
    have n5 : h5.n = h4.n + 2 := hn'
    have k5 : h5.ob h2.n = _ := (he _ m4 (fun e => by have := lo _ (.inl e); omega)).trans k4
    have g5 : h5.ob h.n = _ := (he _ (by omega) (fun e => by have := o4.a.range e; omega)).trans g4
    have m5 : h2.n < h5.n := by omega
    have l5 : h.n < h5.n := by omega
    have lm : h.n < h2.n := by omega
    simp (maxSteps := 1000000) -implicitDefEqProofs only [push_cast, seval, k3, rd_of k3, rd1_of k3, k4, rd_of k4, rd1_of k4, k5, rd_of k5, rd1_of k5, g5, rd_of g5, rd1_of g5, m3, m4, m5, l5, y3, y4, lm]
    have ec : ((addV st nm).vars.map Var.enc).flatten = (st.vars.map Var.enc).flatten ++ [.string nm, .string ⟨#[]⟩] := by
      show ((st.vars ++ [_]).map Var.enc).flatten = _
      rw [flat_snoc]; rfl
    refine ⟨_, rB, addV st nm, rfl, ⟨fun x hx => by
      rcases List.mem_append.1 hx with hx | hx
      · exact zst.vars x hx
      · simp only [List.mem_singleton] at hx; subst hx; exact ⟨by show nm.size ≤ _; omega, by show (0 : Nat) ≤ _; omega⟩, zst.cells, zst.out, by show (st.vars ++ [_]).length ≤ _; rw [storeOk_iff] at ok; have := ok.2.2.2.2.1; simp; omega, zst.nc⟩, ⟨.inr ⟨_, _, _, rfl, by omega, by rw [ec]; exact (ow.same (set_ne _ (by omega)) (Nat.le_refl _)).same (set_ne _ (by omega)) (Nat.le_refl _)⟩, (o4.b.mono (by omega)).keep (by show h4.n ≤ h5.n; omega) (fun i e => ?_), fun i e e2 => ?_⟩, ?_⟩
    · have r1 := o4.b.range e
      have r2 := lo _ (.inr e)
      rw [set_ne _ (by omega), set_ne _ (by omega)]
      exact he i r1.2 (fun e' => o4.ne i e' e)
    · have r1 := o4.b.range e2
      simp only [atBlock] at e
      omega
    · exact (((dbx.alloc hp _).trans d4).to hp (by omega) (fun i a b => he i (by have : h.n ≤ h4.n := by omega
                                                                                 omega) (fun e => by have := o4.a.range e; omega)) (he p (by omega) (fun e => by have := o4.a.range e; omega)) |>.set hp (by omega) _).set hp (Nat.le_refl _) _
  · simp (maxSteps := 1000000) -implicitDefEqProofs only [push_cast, seval]
    with_reducible refine bcase_d (fun hb1 => ?_) (fun hb1 => ?_)
    · simp (maxSteps := 1000000) -implicitDefEqProofs only [push_cast, seval, k3, rd_of k3, rd1_of k3, m3]
      refine WC.draw' (by kernel_rfl) (by kernel_rfl) (.q 0 (.q 1 (.q 2 (.a 3 false (.a 4 false (.q 5 (.a 6 false (.a 7 false (.q 8 (.a 9 true (.done))))))))))) (by kernel_rfl) ?_
      simp (maxSteps := 1000000) -implicitDefEqProofs only [push_cast, seval, k3, rd_of k3, rd1_of k3, m3, y3, y4]
      have dA := dwx.toDn ((Pre.refl h3).alloc (AOb.cells [Value.string ⟨#[97]⟩, Value.string ⟨#[122, 122]⟩, Value.string ⟨#[]⟩] .solo h3.n))
      have oA := o3.alloc (AOb.cells [Value.string ⟨#[97]⟩, Value.string ⟨#[122, 122]⟩, Value.string ⟨#[]⟩] .solo h3.n)
      with_reducible refine CC.txt (l01Pick_c p S l h3.n 3 (fun y => y.size ≤ 2) _ _ (dwx.dn dA) (alloc_same _) (by simp only [strs]; decide) rfl (by omega) (lt_alloc _)) (fun nm h4 qn d4 => ?_)
      have n4 : h3.n + 1 ≤ h4.n := d4.n
      have k4 : h4.ob h2.n = _ := (d4.ob _ (by show h2.n < h3.n + 1; omega) (by omega)).trans ((alloc_lt _ m3).trans k3)
      have g4 : h4.ob h.n = _ := (d4.ob _ (by show h.n < h3.n + 1; omega) (by omega)).trans ((alloc_lt _ l3).trans g3)
      have o4 := oA.dn (by omega) d4
      have m4 : h2.n < h4.n := by omega
      simp (maxSteps := 1000000) -implicitDefEqProofs only [push_cast, seval, k3, rd_of k3, rd1_of k3, k4, rd_of k4, rd1_of k4, m3, m4, y3, y4]
      have hl : ((st.cells.map Cell.enc).flatten).length = st.cells.length * 3 := flat_len (k := 3) _ (fun _ => rfl)
      have zst := ok_szB ok
      have zl := zst.nc
      refine Gr.app1 (h0 := ⟨h1.n, h4.ob⟩) si25 (by decide) (by decide) (notInt_sl und25) o4.b ⟨by show h1.n ≤ h4.n; omega, fun _ _ => rfl⟩ rfl (by rw [hl]; omega) (by decide) (fun h5 gr ow p' hn' he => ?_)
      rw [hl, Nat.mul_div_cancel _ (by decide : 0 < 3)] at gr ow ⊢
      have n5 : h5.n = h4.n + 2 := hn'
      have k5 : h5.ob h2.n = _ := (he _ m4 (fun e => by have := lo _ (.inr e); omega)).trans k4
      have g5 : h5.ob h.n = _ := (he _ (by omega) (fun e => by have := o4.b.range e; omega)).trans g4
      have m5 : h2.n < h5.n := by omega
      have l5 : h.n < h5.n := by omega
      have lm : h.n < h2.n := by omega
      simp (maxSteps := 1000000) -implicitDefEqProofs only [push_cast, seval, k3, rd_of k3, rd1_of k3, k4, rd_of k4, rd1_of k4, k5, rd_of k5, rd1_of k5, g5, rd_of g5, rd1_of g5, m3, m4, m5, l5, y3, y4, lm]
      have ec : ((addC st nm).cells.map Cell.enc).flatten = (st.cells.map Cell.enc).flatten ++ [.string nm, .string ⟨#[]⟩, .string ⟨#[]⟩] := by
        show ((st.cells ++ [_]).map Cell.enc).flatten = _
        rw [flat_snoc]; rfl
      refine ⟨rA, _, addC st nm, rfl, ⟨zst.vars, fun x hx => by
        rcases List.mem_append.1 hx with hx | hx
        · exact zst.cells x hx
        · simp only [List.mem_singleton] at hx; subst hx; exact ⟨by show nm.size ≤ _; omega, by show (0 : Nat) ≤ _; omega, by show (0 : Nat) ≤ _; omega⟩, zst.out, zst.nv, by show (st.cells ++ [_]).length ≤ _; rw [storeOk_iff] at ok; have := ok.2.2.2.2.2.1; simp; omega⟩, ⟨(o4.a.mono (by omega)).keep (by show h4.n ≤ h5.n; omega) (fun i e => ?_), .inr ⟨_, _, _, rfl, by omega, by rw [ec]; exact (ow.same (set_ne _ (by omega)) (Nat.le_refl _)).same (set_ne _ (by omega)) (Nat.le_refl _)⟩, fun i e e2 => ?_⟩, ?_⟩
      · have r1 := o4.a.range e
        have r2 := lo _ (.inl e)
        rw [set_ne _ (by omega), set_ne _ (by omega)]
        exact he i r1.2 (fun e' => o4.ne i e e')
      · have r1 := o4.a.range e
        simp only [atBlock] at e2
        omega
      · exact (((dbx.alloc hp _).trans d4).to hp (by omega) (fun i a b => he i (by have : h.n ≤ h4.n := by omega
                                                                                   omega) (fun e => by have := o4.b.range e; omega)) (he p (by omega) (fun e => by have := o4.b.range e; omega)) |>.set hp (by omega) _).set hp (Nat.le_refl _) _
    · simp (maxSteps := 1000000) -implicitDefEqProofs only [push_cast, seval]
      with_reducible refine bcase_d (fun hb2 => ?_) (fun hb2 => ?_)
      · simp (maxSteps := 1000000) -implicitDefEqProofs only [push_cast, seval]
        with_reducible refine CC.num (l01Below_c p S l _ _ dwx) (fun z h4 q4 d4 => ?_)
        have hz : (z : Int) < 2 := q4.1 (by omega)
        have n4 := d4.n
        have k4 : h4.ob h2.n = _ := (d4.ob _ m3 (by omega)).trans k3
        have g4 : h4.ob h.n = _ := (d4.ob _ l3 (by omega)).trans g3
        have o4 := o3.dn (by omega) d4
        have m4 : h2.n < h4.n := by omega
        have l4 : h.n < h4.n := by omega
        have lm : h.n < h2.n := by omega
        with_reducible refine nameN (3000 + z) (fun Z hZ => ?_)
        have w : IntKind.i64.wrap (3000 + (z : Int)) = (Z : Int) := by rw [hZ, w64 (by omega) (by omega)]; omega
        have hL := l01Long_c Z 65 (by omega) (by omega) h4
        rw [show ((65 : Nat) : Int) = 65 from rfl] at hL
        simp (maxSteps := 1000000) -implicitDefEqProofs only [push_cast, seval, w]
        with_reducible refine CC.mono hL (fun v h5 hv => ?_)
        have eh := hv.2
        have hy := hv.1
        clear hv
        subst eh
        with_reducible refine Exists.elim hy (fun t ht => ?_)
        have e1 := ht.1
        have ts := ht.2
        subst e1
        simp (maxSteps := 1000000) -implicitDefEqProofs only [push_cast, seval, k3, rd_of k3, rd1_of k3, k4, rd_of k4, rd1_of k4, g4, rd_of g4, rd1_of g4, m3, m4, l4, y3, y4, lm]
        have zst := ok_szB ok
        refine ⟨rA, rB, ⟨st.vars, st.cells, t⟩, rfl, ⟨zst.vars, zst.cells, by show t.size ≤ _; omega, zst.nv, zst.nc⟩, ⟨(o4.a.mono (by omega)).keep (Nat.le_refl _) (fun i e => ?_), (o4.b.mono (by omega)).keep (Nat.le_refl _) (fun i e => ?_), o4.ne⟩, ((dbx.trans d4).set hp (by omega) _).set hp (Nat.le_refl _) _⟩
        · have r1 := o4.a.range e
          have r2 := lo _ (.inl e)
          rw [set_ne _ (by omega), set_ne _ (by omega)]
        · have r1 := o4.b.range e
          have r2 := lo _ (.inr e)
          rw [set_ne _ (by omega), set_ne _ (by omega)]
      · simp (maxSteps := 1000000) -implicitDefEqProofs only [push_cast, seval]
        with_reducible refine bcase_d (fun hb3 => ?_) (fun hb3 => ?_)
        · simp (maxSteps := 1000000) -implicitDefEqProofs only [push_cast, seval]
          have hsh := o3.rdt.vars.rde (fun _ => rfl)
          with_reducible refine Exists.elim hsh (fun A0 hsh => ?_)
          with_reducible refine Exists.elim hsh (fun cA0 hsh => ?_)
          have erA := hsh.1
          refine WC.loopA (by kernel_rfl) [] [40, 41, 42, 43, 44, 45, 46, 47, 48, 49, 50, 51, 52, 53, 54, 55, 56, 57, 58, 59, 60, 61, 62, 63, 64, 65, 66, 67] (fun a : Option Addr × Nat × Store => []) (fun a h' => h'.ob h.n = .cells [.slice none 0 0, .slice none 0 0, .string ⟨#[]⟩] .solo h.n ∧ h'.ob h2.n = .cells [.slice a.1 a.2.2.vars.length a.2.1, rB, .string st.out] .solo h2.n ∧ a.2.2.cells = st.cells ∧ a.2.2.out = st.out ∧ SzB a.2.2 ∧ OwnT h1 h' (.slice a.1 a.2.2.vars.length a.2.1) rB a.2.2 ∧ (∀ i, atBlock (.slice a.1 a.2.2.vars.length a.2.1) i ∨ atBlock rB i → i ≠ h2.n) ∧ Dn p S l h h' ∧ h3.n ≤ h'.n) (fun a => 62 - a.2.2.vars.length) (A0, cA0, st) (by kernel_rfl) ⟨g3, by rw [← erA]; exact k3, rfl, rfl, ok_szB ok, by rw [← erA]; exact o3, fun i e => by rw [← erA] at e; have := lo i e; omega, dbx, Nat.le_refl _⟩ ?_
          intro a g h4 hJ
          have g4 := hJ.1
          have k4 := hJ.2.1
          have ec := hJ.2.2.1
          have eo := hJ.2.2.2.1
          have zs := hJ.2.2.2.2.1
          have o4 := hJ.2.2.2.2.2.1
          have ln := hJ.2.2.2.2.2.2.1
          have d4 := hJ.2.2.2.2.2.2.2.1
          have n4 := hJ.2.2.2.2.2.2.2.2
          clear hJ
          have l4 : h.n < h4.n := by omega
          have m4 : h2.n < h4.n := by omega
          have lm : h.n < h2.n := by omega
          have znv := zs.nv
          generalize hnV : a.2.2.vars.length = nV at *
          refine WC.draw' (by kernel_rfl) (by kernel_rfl) (.q 0 (.q 1 (.q 2 (.q 3 (.a 4 false (.q 5 (.q 6 (.done)))))))) (by kernel_rfl) ?_
          simp (maxSteps := 1000000) -implicitDefEqProofs only [push_cast, seval, g4, rd_of g4, rd1_of g4, k4, rd_of k4, rd1_of k4, l4, m4, y4]
          with_reducible refine CC.num (l01Below_c p S l _ _ (d.dn d4)) (fun z h5 q5 d5 => ?_)
          have hz : (z : Int) < 3 := q5.1 (by omega)
          have n5 := d5.n
          have k5 : h5.ob h2.n = _ := (d5.ob _ m4 (by omega)).trans k4
          have g5 : h5.ob h.n = _ := (d5.ob _ l4 (by omega)).trans g4
          have o5 := o4.dn (by omega) d5
          have m5 : h2.n < h5.n := by omega
          have l5 : h.n < h5.n := by omega
          have w : IntKind.i64.wrap (59 + (z : Int)) = 59 + (z : Int) := by rw [w64 (by omega) (by omega)]
          simp (maxSteps := 1000000) -implicitDefEqProofs only [push_cast, seval, k4, rd_of k4, rd1_of k4, k5, rd_of k5, rd1_of k5, w]
          with_reducible refine bcase_d (fun hb4 => ?_) (fun hb4 => ?_)
          · have hv61 : nV ≤ 60 := by omega
            simp (maxSteps := 1000000) -implicitDefEqProofs only [push_cast, seval, k5, rd_of k5, rd1_of k5, m5]
            refine And.intro (by show 2 + 2 < 4611686018427387904; omega) ?_
            have z2 : ∀ x y : UInt8, (ByteArray.mk #[122, 122] ++ ByteArray.mk #[x, y]).size = 4 := fun x y => by rw [ByteArray.size_append]; rfl
            generalize hX : (ByteArray.mk #[122, 122] ++ ByteArray.mk #[UInt8.ofNat (IntKind.u8.wrap (IntKind.i64.wrap (97 + IntKind.i64.wrap ((nV : Int).tdiv 26)))).toNat, UInt8.ofNat (IntKind.u8.wrap (IntKind.i64.wrap (97 + (nV : Int).tmod 26))).toNat]) = nm
            have hnm : nm.size = 4 := by rw [← hX]; exact z2 _ _
            generalize Value.int IntKind.u8 (IntKind.u8.wrap (IntKind.i64.wrap (97 + IntKind.i64.wrap ((nV : Int).tdiv 26)))) = X1
            generalize Value.int IntKind.u8 (IntKind.u8.wrap (IntKind.i64.wrap (97 + (nV : Int).tmod 26))) = X2
            have hl : ((a.2.2.vars.map Var.enc).flatten).length = nV * 2 := by rw [← hnV]; exact flat_len (k := 2) _ (fun _ => rfl)
            have g5' : (h5.alloc (AOb.cells [X1, X2] .solo h5.n)).ob h.n = _ := (alloc_lt _ l5).trans g5
            have k5' : (h5.alloc (AOb.cells [X1, X2] .solo h5.n)).ob h2.n = _ := (alloc_lt _ m5).trans k5
            have o5' := o5.alloc (AOb.cells [X1, X2] .solo h5.n)
            have d5' := (d4.trans d5).alloc hp (AOb.cells [X1, X2] .solo h5.n)
            have n5' : (h5.alloc (AOb.cells [X1, X2] .solo h5.n)).n = h5.n + 1 := rfl
            rw [show h5.n + 1 = (h5.alloc (AOb.cells [X1, X2] .solo h5.n)).n from rfl]
            generalize h5.alloc (AOb.cells [X1, X2] .solo h5.n) = h6 at *
            refine Gr.app1 (h0 := ⟨h1.n, h6.ob⟩) si24 (by decide) (by decide) (notInt_sl und24) o5'.a ⟨by show h1.n ≤ h6.n; omega, fun _ _ => rfl⟩ rfl (by rw [hl]; omega) (by decide) (fun h7 gr ow p' hn' he => ?_)
            rw [hl, Nat.mul_div_cancel _ (by decide : 0 < 2)] at gr ow ⊢
            have n7 : h7.n = h6.n + 2 := hn'
            have k7 : h7.ob h2.n = _ := (he _ (by omega) (fun e => ln _ (.inl e) rfl)).trans k5'
            have g7 : h7.ob h.n = _ := (he _ (by omega) (fun e => by have := o5'.a.range e; omega)).trans g5'
            have m7 : h2.n < h7.n := by omega
            simp (maxSteps := 1000000) -implicitDefEqProofs only [push_cast, seval, k5, rd_of k5, rd1_of k5, k7, rd_of k7, rd1_of k7, m5, m7]
            have ecn : ((addV a.2.2 nm).vars.map Var.enc).flatten = (a.2.2.vars.map Var.enc).flatten ++ [.string nm, .string ⟨#[]⟩] := by
              show ((a.2.2.vars ++ [_]).map Var.enc).flatten = _
              rw [flat_snoc]; rfl
            have evl : (addV a.2.2 nm).vars.length = nV + 1 := by show (a.2.2.vars ++ [_]).length = _; rw [List.length_append, hnV]; rfl
            refine ⟨(some ⟨h6.n + 1, 0, none⟩, 2, addV a.2.2 nm), ⟨(set_ne _ (by omega)).trans g7, by rw [evl], ec, eo, ⟨fun x hx => ?_, zs.cells, zs.out, by rw [evl]; omega, zs.nc⟩, ?_, fun i e => ?_, ?_, by show h3.n ≤ h7.n; omega⟩, by show 62 - (addV a.2.2 nm).vars.length < 62 - nV; rw [evl]; omega⟩
            · rcases List.mem_append.1 hx with hx | hx
              · exact zs.vars x hx
              · simp only [List.mem_singleton] at hx; subst hx; exact ⟨by show nm.size ≤ _; omega, by show (0 : Nat) ≤ _; omega⟩
            · rw [evl]
              refine ⟨.inr ⟨_, _, _, rfl, by omega, by rw [ecn]; exact ow.same (set_ne _ (by omega)) (Nat.le_refl _)⟩, o5'.b.keep (by show h6.n ≤ h7.n; omega) (fun i e => ?_), fun i e e2 => ?_⟩
              · have r1 := o5'.b.range e
                rw [set_ne _ (ln i (.inr e))]
                exact he i r1.2 (fun e' => o5'.ne i e' e)
              · have r1 := o5'.b.range e2
                simp only [atBlock] at e
                omega
            · rcases e with e | e
              · simp only [atBlock] at e
                omega
              · exact ln i (.inr e)
            · exact (d5'.to hp (by omega) (fun i a b => he i (by omega) (fun e => by have := o5'.a.range e; omega)) (he p (by omega) (fun e => by have := o5'.a.range e; omega))).set hp (by omega) _
          · simp (maxSteps := 1000000) -implicitDefEqProofs only [push_cast, seval, g5, rd_of g5, rd1_of g5, k5, rd_of k5, rd1_of k5, l5, m5, lm, y4]
            refine ⟨_, rB, a.2.2, by rw [eo], zs, ⟨(o5.a.mono (by omega)).keep (Nat.le_refl _) (fun i e => ?_), (o5.b.mono (by omega)).keep (Nat.le_refl _) (fun i e => ?_), o5.ne⟩, (d4.trans d5).set hp (Nat.le_refl _) _⟩
            · have r1 := o5.a.range e
              exact set_ne _ (by omega)
            · have r1 := o5.b.range e
              exact set_ne _ (by omega)
        · simp (maxSteps := 1000000) -implicitDefEqProofs only [push_cast, seval, g3, rd_of g3, rd1_of g3, k3, rd_of k3, rd1_of k3, l3, m3, y3, y4]
          have lm : h.n < h2.n := by omega
          have zst := ok_szB ok
          refine ⟨rA, rB, st, rfl, zst, ⟨(o3.a.mono (by omega)).keep (Nat.le_refl _) (fun i e => ?_), (o3.b.mono (by omega)).keep (Nat.le_refl _) (fun i e => ?_), o3.ne⟩, dbx.set hp (Nat.le_refl _) _⟩
          · have r1 := o3.a.range e
            exact set_ne _ (by omega)
          · have r1 := o3.b.range e
            exact set_ne _ (by omega)
end Go.Proofs.YtcggnolnakgkeaaDoor
namespace Go.Proofs.YtcggnolnakgkeaaDoor
open Go Go.Sim Go.Proofs
set_option linter.unusedSimpArgs false
set_option linter.unusedVariables false
set_option maxRecDepth 100000
set_option maxHeartbeats 1000000
/-- A right store of no more than so many. -/
structure OkB (n : Nat) (s : Store) : Prop where
  ok : storeOk s = true
  len : s.vars.length ≤ n ∧ s.cells.length ≤ n
theorem store0_okB : OkB 0 store0 := ⟨by decide, by decide, by decide⟩
theorem OkB.mono {n m : Nat} {s : Store} (o : OkB n s) (h : n ≤ m) : OkB m s := ⟨o.1, Nat.le_trans o.2.1 h, Nat.le_trans o.2.2 h⟩
theorem filt_two {α : Type} (p q : α → Bool) (h : ∀ x, p x = true → q x = true → False) : ∀ l : List α, (l.filter p).length + (l.filter q).length ≤ l.length
  | [] => by simp
  | x :: r => by
    have ih := filt_two p q h r
    cases hp : p x <;> cases hq : q x <;> simp [List.filter, hp, hq] <;> first | omega | exact (h x hp hq).elim
theorem newV_len (l : List Var) (n v : ByteArray) : (newV l n v).length ≤ l.length + 1 := by
  have := filt_two (vLt n) (vGt n) (fun x h1 h2 => by
    have := ltB_trans h1 h2
    rw [ltB_irr] at this; cases this) l
  simp only [newV, List.length_append, List.length_cons, List.length_nil]; omega
theorem newC_len (l : List Cell) (y : Cell) : (newC l y).length ≤ l.length + 1 := by
  have := filt_two (cLt y) (cGt y) (fun x h1 h2 => cLess_irr _ (cLess_trans (of_decide_eq_true h1) (of_decide_eq_true h2))) l
  simp only [newC, List.length_append, List.length_cons, List.length_nil]; omega
theorem setV_len (s : Store) (n v : ByteArray) : (setV s n v).vars.length ≤ s.vars.length + 1 := by
  unfold setV; split
  · exact newV_len _ _ _
  · omega
theorem setC_len (s : Store) (n k v : ByteArray) : (setC s n k v).cells.length ≤ s.cells.length + 1 := by
  unfold setC; split
  · exact newC_len _ _
  · omega
theorem setV_cells (s : Store) (n v : ByteArray) : (setV s n v).cells = s.cells := by unfold setV; split <;> rfl
theorem setC_vars (s : Store) (n k v : ByteArray) : (setC s n k v).vars = s.vars := by unfold setC; split <;> rfl
theorem OkB.setV {m : Nat} {s : Store} (o : OkB m s) {n v : ByteArray} (hn : letters n = true) : OkB (m + 1) (setV s n v) := by
  have h1 := setV_len s n v
  have h2 := o.2.1
  have h3 := o.2.2
  exact ⟨setV_ok o.1 hn, by omega, by rw [setV_cells]; omega⟩
theorem OkB.setC {m : Nat} {s : Store} (o : OkB m s) {n k v : ByteArray} (hn : letters n = true) : OkB (m + 1) (setC s n k v) := by
  have h1 := setC_len s n k v
  have h2 := o.2.1
  have h3 := o.2.2
  exact ⟨setC_ok o.1 hn, by rw [setC_vars]; omega, by omega⟩
theorem OkB.say {m : Nat} {s : Store} (o : OkB m s) (line : ByteArray) : OkB (m + 1) (sayS s line) := by
  have h2 := o.2.1
  have h3 := o.2.2
  exact ⟨say_ok o.1 line, by show s.vars.length ≤ _; omega, by show s.cells.length ≤ _; omega⟩
/-- A drawn store. -/
theorem l08Store_b (p : Nat) (S : Value) (l : List Nat) (h : AH) (d : Dw p S l h) :
    CC Tryd.prog 18 [.pointer (some ⟨p, 0, none⟩)] h (fun v h' => ∃ vA vB st, v = .agg #[vA, vB, .string st.out] ∧ OkB 8 st ∧ OwnT h h' vA vB st ∧ Dn p S l h h') := by
  have hp := d.lt
  have hp2 : p < (⟨h.n + 2, h.ob⟩ : AH).n := by show p < h.n + 2; omega
  refine CC.ofN Tryd.func18 Tryd.ntmps18 Tryd.results18 rfl (by decide) (by kernel_rfl) ?_
  simp (maxSteps := 1000000) -implicitDefEqProofs only [push_cast, seval]
  refine WC.loopA (by kernel_rfl) [4] [6, 7, 8, 9, 10, 11, 12, 13, 14, 15, 16, 17, 18, 19, 20, 21, 22, 23, 24, 25, 26, 27, 28, 29, 30, 31, 32, 33, 34, 35, 36] (fun a : Nat × Value × Value × Store => [.int .i64 (a.1 : Nat)]) (fun a h' => a.1 ≤ 8 ∧ h'.ob h.n = .cells [.slice none 0 0, .slice none 0 0, .string ⟨#[]⟩] .solo h.n ∧ h'.ob (h.n + 1) = .cells [a.2.1, a.2.2.1, .string a.2.2.2.out] .solo (h.n + 1) ∧ OkB a.1 a.2.2.2 ∧ OwnT ⟨h.n + 2, h.ob⟩ h' a.2.1 a.2.2.1 a.2.2.2 ∧ Dn p S l h h' ∧ h.n + 2 ≤ h'.n) (fun a => 8 - a.1) (0, .slice none 0 0, .slice none 0 0, store0) (by kernel_rfl) ⟨Nat.zero_le _, (by (try simp (maxSteps := 1000000) -implicitDefEqProofs only [push_cast, seval, rdOb]); try rfl), (by (try simp (maxSteps := 1000000) -implicitDefEqProofs only [push_cast, seval, rdOb]); try rfl), store0_okB, OwnT.zero _ _, ((d.refl.alloc hp _).alloc hp _).set hp (by show h.n ≤ h.n + 1; omega) _, ?_⟩ ?_
  · show h.n + 2 ≤ h.n + 2
    omega
  intro a g h1 hJ
  have hi := hJ.1
  have g0 := hJ.2.1
  have g1 := hJ.2.2.1
  have ok := hJ.2.2.2.1
  have oT := hJ.2.2.2.2.1
  have d1 := hJ.2.2.2.2.2.1
  have n1 := hJ.2.2.2.2.2.2
  clear hJ
  have y1 := oT.one.1
  have y2 := oT.one.2
  have l0 : h.n < h1.n := by omega
  have l1 : h.n + 1 < h1.n := by omega
  simp (maxSteps := 1000000) -implicitDefEqProofs only [push_cast, seval]
  with_reducible refine CC.num (l01Below_c p S l _ _ (d.dn d1)) (fun y h2 q d2 => ?_)
  have hn2 := d2.n
  have f0 : h2.ob h.n = _ := (d2.ob _ l0 (by omega)).trans g0
  have f1 : h2.ob (h.n + 1) = _ := (d2.ob _ l1 (by omega)).trans g1
  have l02 : h.n < h2.n := by omega
  have l12 : h.n + 1 < h2.n := by omega
  have oT2 := oT.dn hp2 d2
  have dw2 := (d.dn d1).dn d2
  simp (maxSteps := 1000000) -implicitDefEqProofs only [push_cast, seval]
  with_reducible refine bcase_d (fun hb => ?_) (fun hb => ?_)
  · simp (maxSteps := 1000000) -implicitDefEqProofs only [push_cast, seval]
    have hy : (y : Int) < 8 := q.1 (by omega)
    with_reducible refine CC.num (l01Below_c p S l _ _ dw2) (fun z h3 q3 d3 => ?_)
    have hn3 := d3.n
    have k0 : h3.ob h.n = _ := (d3.ob _ l02 (by omega)).trans f0
    have k1 : h3.ob (h.n + 1) = _ := (d3.ob _ l12 (by omega)).trans f1
    have l03 : h.n < h3.n := by omega
    have l13 : h.n + 1 < h3.n := by omega
    have oT3 := oT2.dn hp2 d3
    have dw3 := dw2.dn d3
    have db : Dn p S l h h3 := (d1.trans d2).trans d3
    clear oT oT2 f0 f1 g0 g1 d1 d2 d3
    simp (maxSteps := 1000000) -implicitDefEqProofs only [push_cast, seval]
    with_reducible refine bcase_d (fun hb1 => ?_) (fun hb1 => ?_)
    · simp (maxSteps := 1000000) -implicitDefEqProofs only [push_cast, seval]
      refine WC.draw' (by kernel_rfl) (by kernel_rfl) (.q 0 (.q 1 (.q 3 (.a 2 false (.a 4 false (.a 5 false (.a 6 true (.done)))))))) (by kernel_rfl) ?_
      simp (maxSteps := 1000000) -implicitDefEqProofs only [push_cast, seval, k1, rd_of k1, rd1_of k1, l13, y1, y2]
      with_reducible refine CC.txt (l08Name_c p S l _ dw3) (fun nm h4 qn d4 => ?_)
      have m1 : h4.ob (h.n + 1) = _ := (d4.ob _ l13 (by omega)).trans k1
      simp (maxSteps := 1000000) -implicitDefEqProofs only [push_cast, seval, k1, rd_of k1, rd1_of k1, m1, rd_of m1, rd1_of m1, l13, y1, y2]
      have q4 : h4.ob h.n = _ := (d4.ob _ l03 (by omega)).trans k0
      have hn4 := d4.n
      have oT4 := oT3.dn hp2 d4
      with_reducible refine CC.txt (l03Val_c p S l _ (dw3.dn d4)) (fun vl h5 qv d5 => ?_)
      have m5 : h5.ob (h.n + 1) = _ := (d5.ob _ (by omega) (by omega)).trans m1
      have q5 : h5.ob h.n = _ := (d5.ob _ (by omega) (by omega)).trans q4
      have hn5 := d5.n
      have oT5 := oT4.dn hp2 d5
      simp (maxSteps := 1000000) -implicitDefEqProofs only [push_cast, seval, k1, rd_of k1, rd1_of k1, m1, rd_of m1, rd1_of m1, m5, rd_of m5, rd1_of m5, l13, y1, y2]
      have hmx := maxLen_eq
      have ls := letters_size qn
      with_reducible refine CC.mono (SetVar_s a.2.2.2 nm vl _ _ _ oT5.rdt (ok_szB ok.1) (by omega) (by omega)) (fun v h6 hv => ?_)
      with_reducible refine Exists.elim hv (fun rA hv => ?_)
      with_reducible refine Exists.elim hv (fun rB hv => ?_)
      have e1 := hv.1
      have oN := hv.2.1
      have p6 := hv.2.2
      clear hv
      subst e1
      have hn6 : h5.n ≤ h6.n := p6.n
      have u1 : h6.ob (h.n + 1) = _ := (p6.ob _ (by omega)).trans m5
      have u0 : h6.ob h.n = _ := (p6.ob _ (by omega)).trans q5
      have lu : h.n + 1 < h6.n := by omega
      have y3 := oN.one.1
      have y4 := oN.one.2
      simp (maxSteps := 1000000) -implicitDefEqProofs only [push_cast, seval, k1, rd_of k1, rd1_of k1, m1, rd_of m1, rd1_of m1, m5, rd_of m5, rd1_of m5, u1, rd_of u1, rd1_of u1, l13, y1, y2, y3, y4, lu]
      rw [wrapSucc (by omega)]
      have dN : Dn p S l h (h6.set (h.n + 1) (AOb.cells [rA, rB, Value.string (setV a.2.2.2 nm vl).out] .solo (h.n + 1))) := (((db.trans d4).trans d5).pre hp p6).set hp (by omega) _
      exact ⟨(a.1 + 1, rA, rB, setV a.2.2.2 nm vl), by kernel_rfl, ⟨by show a.1 + 1 ≤ 8; omega, u0, rfl, OkB.setV ok qn, (oN.mono (by show h.n + 2 ≤ _; omega)).to (Nat.le_refl _) (fun i e => set_ne _ (by have := oN.range e; omega)), dN, by show h.n + 2 ≤ h6.n; omega⟩, by show 8 - (a.1 + 1) < 8 - a.1; omega⟩
    · simp (maxSteps := 1000000) -implicitDefEqProofs only [push_cast, seval]
      with_reducible refine bcase_d (fun hb2 => ?_) (fun hb2 => ?_)
      · simp (maxSteps := 1000000) -implicitDefEqProofs only [push_cast, seval]
        refine WC.draw' (by kernel_rfl) (by kernel_rfl) (.q 0 (.q 1 (.q 4 (.q 6 (.a 2 false (.a 3 false (.a 5 false (.a 7 false (.a 8 false (.a 9 true (.done))))))))))) (by kernel_rfl) ?_
        simp (maxSteps := 1000000) -implicitDefEqProofs only [push_cast, seval, k1, rd_of k1, rd1_of k1, l13, y1, y2]
        have dA := dw3.toDn ((Pre.refl h3).alloc (AOb.cells [Value.string ⟨#[116]⟩, Value.string ⟨#[117]⟩] .solo h3.n))
        have oA := oT3.alloc (AOb.cells [Value.string ⟨#[116]⟩, Value.string ⟨#[117]⟩] .solo h3.n)
        with_reducible refine CC.txt (l01Pick_c p S l h3.n 2 (fun y => letters y = true) _ _ (dw3.dn dA) (alloc_same _) (by simp only [strs]; decide) rfl (by omega) (lt_alloc _)) (fun nm h4 qn d4 => ?_)
        have hn4 : h3.n + 1 ≤ h4.n := d4.n
        have m4 : h4.ob (h.n + 1) = _ := (d4.ob _ (by show h.n + 1 < h3.n + 1; omega) (by omega)).trans ((alloc_lt _ l13).trans k1)
        have q4 : h4.ob h.n = _ := (d4.ob _ (by show h.n < h3.n + 1; omega) (by omega)).trans ((alloc_lt _ l03).trans k0)
        have oT4 := oA.dn hp2 d4
        have dw4 := (dw3.dn dA).dn d4
        simp (maxSteps := 1000000) -implicitDefEqProofs only [push_cast, seval, k1, rd_of k1, rd1_of k1, m4, rd_of m4, rd1_of m4, l13, y1, y2]
        with_reducible refine CC.txt (l03Val_c p S l _ dw4) (fun ky h5 qk d5 => ?_)
        have hn5 := d5.n
        have m5 : h5.ob (h.n + 1) = _ := (d5.ob _ (by omega) (by omega)).trans m4
        have q5 : h5.ob h.n = _ := (d5.ob _ (by omega) (by omega)).trans q4
        have oT5 := oT4.dn hp2 d5
        simp (maxSteps := 1000000) -implicitDefEqProofs only [push_cast, seval, k1, rd_of k1, rd1_of k1, m4, rd_of m4, rd1_of m4, m5, rd_of m5, rd1_of m5, l13, y1, y2]
        with_reducible refine CC.txt (l03Val_c p S l _ (dw4.dn d5)) (fun vl h6 qv d6 => ?_)
        have hn6 := d6.n
        have m6 : h6.ob (h.n + 1) = _ := (d6.ob _ (by omega) (by omega)).trans m5
        have q6 : h6.ob h.n = _ := (d6.ob _ (by omega) (by omega)).trans q5
        have oT6 := oT5.dn hp2 d6
        simp (maxSteps := 1000000) -implicitDefEqProofs only [push_cast, seval, k1, rd_of k1, rd1_of k1, m4, rd_of m4, rd1_of m4, m5, rd_of m5, rd1_of m5, m6, rd_of m6, rd1_of m6, l13, y1, y2]
        have hmx := maxLen_eq
        have ls := letters_size qn
        with_reducible refine CC.mono (SetCell_s a.2.2.2 nm ky vl _ _ _ oT6.rdt (ok_szB ok.1) (by omega) (by omega) (by omega)) (fun v h7 hv => ?_)
        with_reducible refine Exists.elim hv (fun rA hv => ?_)
        with_reducible refine Exists.elim hv (fun rB hv => ?_)
        have e1 := hv.1
        have oN := hv.2.1
        have p7 := hv.2.2
        clear hv
        subst e1
        have hn7 : h6.n ≤ h7.n := p7.n
        have u1 : h7.ob (h.n + 1) = _ := (p7.ob _ (by omega)).trans m6
        have u0 : h7.ob h.n = _ := (p7.ob _ (by omega)).trans q6
        have lu : h.n + 1 < h7.n := by omega
        have y3 := oN.one.1
        have y4 := oN.one.2
        simp (maxSteps := 1000000) -implicitDefEqProofs only [push_cast, seval, k1, rd_of k1, rd1_of k1, m4, rd_of m4, rd1_of m4, m5, rd_of m5, rd1_of m5, m6, rd_of m6, rd1_of m6, u1, rd_of u1, rd1_of u1, l13, y1, y2, y3, y4, lu]
        rw [wrapSucc (by omega)]
        have dN : Dn p S l h (h7.set (h.n + 1) (AOb.cells [rA, rB, Value.string (setC a.2.2.2 nm ky vl).out] .solo (h.n + 1))) := (((((db.trans dA).trans d4).trans d5).trans d6).pre hp p7).set hp (by omega) _
        exact ⟨(a.1 + 1, rA, rB, setC a.2.2.2 nm ky vl), by kernel_rfl, ⟨by show a.1 + 1 ≤ 8; omega, u0, rfl, OkB.setC ok qn, (oN.mono (by show h.n + 2 ≤ _; omega)).to (Nat.le_refl _) (fun i e => set_ne _ (by have := oN.range e; omega)), dN, by show h.n + 2 ≤ h7.n; omega⟩, by show 8 - (a.1 + 1) < 8 - a.1; omega⟩
      · simp (maxSteps := 1000000) -implicitDefEqProofs only [push_cast, seval]
        refine WC.draw' (by kernel_rfl) (by kernel_rfl) (.q 0 (.q 1 (.a 2 false (.a 3 false (.a 4 true (.done)))))) (by kernel_rfl) ?_
        simp (maxSteps := 1000000) -implicitDefEqProofs only [push_cast, seval, k1, rd_of k1, rd1_of k1, l13, y1, y2]
        with_reducible refine CC.txt (l03Val_c p S l _ dw3) (fun vl h4 qv d4 => ?_)
        have hn4 := d4.n
        have m4 : h4.ob (h.n + 1) = _ := (d4.ob _ (by omega) (by omega)).trans k1
        have q4 : h4.ob h.n = _ := (d4.ob _ (by omega) (by omega)).trans k0
        have oT4 := oT3.dn hp2 d4
        simp (maxSteps := 1000000) -implicitDefEqProofs only [push_cast, seval, k1, rd_of k1, rd1_of k1, m4, rd_of m4, rd1_of m4, l13, y1, y2]
        with_reducible refine CC.mono (Say_s a.2.2.2 vl _ _ _ oT4.rdt (ok_szB ok.1) (by omega)) (fun v h5 hv => ?_)
        with_reducible refine Exists.elim hv (fun rA hv => ?_)
        with_reducible refine Exists.elim hv (fun rB hv => ?_)
        have e1 := hv.1
        have oN := hv.2.1
        have p5 := hv.2.2
        clear hv
        subst e1
        have hn5 : h4.n ≤ h5.n := p5.n
        have u1 : h5.ob (h.n + 1) = _ := (p5.ob _ (by omega)).trans m4
        have u0 : h5.ob h.n = _ := (p5.ob _ (by omega)).trans q4
        have lu : h.n + 1 < h5.n := by omega
        have y3 := oN.one.1
        have y4 := oN.one.2
        simp (maxSteps := 1000000) -implicitDefEqProofs only [push_cast, seval, k1, rd_of k1, rd1_of k1, m4, rd_of m4, rd1_of m4, u1, rd_of u1, rd1_of u1, l13, y1, y2, y3, y4, lu]
        rw [wrapSucc (by omega)]
        have dN : Dn p S l h (h5.set (h.n + 1) (AOb.cells [rA, rB, Value.string (sayS a.2.2.2 vl).out] .solo (h.n + 1))) := ((db.trans d4).pre hp p5).set hp (by omega) _
        exact ⟨(a.1 + 1, rA, rB, sayS a.2.2.2 vl), by kernel_rfl, ⟨by show a.1 + 1 ≤ 8; omega, u0, rfl, OkB.say ok vl, (oN.mono (by show h.n + 2 ≤ _; omega)).to (Nat.le_refl _) (fun i e => set_ne _ (by have := oN.range e; omega)), dN, by show h.n + 2 ≤ h5.n; omega⟩, by show 8 - (a.1 + 1) < 8 - a.1; omega⟩
  · simp (maxSteps := 1000000) -implicitDefEqProofs only [push_cast, seval, f1, rd_of f1, rd1_of f1, l12, y1, y2, f0, rd_of f0, rd1_of f0, l02]
    refine ⟨a.2.1, a.2.2.1, a.2.2.2, rfl, ok.mono hi, (oT2.mono (by show h.n ≤ h.n + 2; omega)).to (Nat.le_refl _) (fun i e => ?_), ((d1.trans d2)).set hp (Nat.le_refl _) _⟩
    have e2 : h.n + 2 ≤ i ∧ _ := oT2.range e
    exact set_ne _ (by omega)
end Go.Proofs.YtcggnolnakgkeaaDoor
namespace Go.Proofs.YtcggnolnakgkeaaDoor
open Go Go.Sim Go.Proofs
set_option linter.unusedSimpArgs false
set_option linter.unusedVariables false
set_option maxRecDepth 100000
set_option maxHeartbeats 1000000
structure SzN (s : Store) : Prop where
  sz : SzB s
  c9 : s.cells.length ≤ 9
theorem SzN.of {s : Store} (z : SzB s) (h : s.cells.length ≤ 9) : SzN s := ⟨z, h⟩
/-- A drawn store, right or not. -/
theorem l08Any_b (p : Nat) (S : Value) (l : List Nat) (h : AH) (d : Dw p S l h) :
    CC Tryd.prog 20 [.pointer (some ⟨p, 0, none⟩)] h (fun v h' => ∃ vA vB st, v = .agg #[vA, vB, .string st.out] ∧ SzN st ∧ OwnT h h' vA vB st ∧ Dn p S l h h') := by
  have hp := d.lt
  refine CC.ofN Tryd.func20 Tryd.ntmps20 Tryd.results20 rfl (by decide) (by kernel_rfl) ?_
  simp (maxSteps := 1000000) -implicitDefEqProofs only [push_cast, seval]
  with_reducible refine CC.mono (l08Store_b p S l _ (d.pre ((Pre.refl h).alloc _))) (fun v h1 hv => ?_)
  with_reducible refine Exists.elim hv (fun vA hv => ?_)
  with_reducible refine Exists.elim hv (fun vB hv => ?_)
  with_reducible refine Exists.elim hv (fun st hv => ?_)
  have e1 := hv.1
  have okB := hv.2.1
  have ok := okB.1
  have c8 := okB.2.2
  have o1 := hv.2.2.1
  have d1 := hv.2.2.2
  clear hv
  subst e1
  have y1 := o1.one.1
  have y2 := o1.one.2
  have n1 : h.n + 1 ≤ h1.n := d1.n
  have g1 : h1.ob h.n = _ := (d1.ob h.n (Nat.lt_succ_self _) (by omega)).trans (alloc_same _)
  have db : Dn p S l h h1 := (d.toDn ((Pre.refl h).alloc _)).trans d1
  simp (maxSteps := 1000000) -implicitDefEqProofs only [push_cast, seval, y1, y2]
  with_reducible refine CC.mono (l08Copy_c st vA vB _ o1.rdt (ok_szB ok).sz) (fun v h2 hv => ?_)
  with_reducible refine Exists.elim hv (fun rA hv => ?_)
  with_reducible refine Exists.elim hv (fun rB hv => ?_)
  have e1 := hv.1
  have o2 := hv.2.1
  have p2 := hv.2.2
  clear hv
  subst e1
  have n2 := p2.n
  have g2 : h2.ob h.n = _ := (p2.ob h.n (by omega)).trans g1
  have y3 := o2.one.1
  have y4 := o2.one.2
  simp (maxSteps := 1000000) -implicitDefEqProofs only [push_cast, seval, y3, y4]
  have pa : Pre h2 ((h2.alloc (AOb.cells [.slice none 0 0, .slice none 0 0, .string ⟨#[]⟩] .solo h2.n)).set h2.n (AOb.cells [rA, rB, .string st.out] .solo h2.n)) := ((Pre.refl h2).alloc _).set (Nat.le_refl _) _
  have db3 := (db.pre hp p2).pre hp pa
  have dw3 := d.dn db3
  with_reducible refine CC.num (l01Below_c p S l _ _ dw3) (fun y h3 q3 d3 => ?_)
  have n3 : h2.n + 1 ≤ h3.n := d3.n
  have g3 : h3.ob h.n = _ := (d3.ob h.n (by show h.n < h2.n + 1; omega) (by omega)).trans ((set_ne _ (by omega)).trans ((alloc_lt _ (by omega)).trans g2))
  have k3 : h3.ob h2.n = AOb.cells [rA, rB, .string st.out] .solo h2.n := (d3.ob h2.n (Nat.lt_succ_self _) (by omega)).trans (set_same _ _)
  have o3 : OwnT h1 h3 rA rB st := (o2.pre pa).dn (by omega) d3
  have l3 : h.n < h3.n := by omega
  have m3 : h2.n < h3.n := by omega
  have dwx := dw3.dn d3
  have dbx := db3.trans d3
  have lo : ∀ i, (atBlock rA i ∨ atBlock rB i) → i < h2.n := fun i e => (o2.range e).2
  clear g1 g2 o2 d1 db db3 dw3 d3 pa
  simp (maxSteps := 1000000) -implicitDefEqProofs only [push_cast, seval, k3, rd_of k3, rd1_of k3, m3]
  with_reducible refine bcase_d (fun hb => ?_) (fun hb => ?_)
  · simp (maxSteps := 1000000) -implicitDefEqProofs only [push_cast, seval, k3, rd_of k3, rd1_of k3, m3]
    refine WC.draw' (by kernel_rfl) (by kernel_rfl) (.q 0 (.q 1 (.q 2 (.a 3 false (.a 4 false (.q 5 (.a 6 false (.a 7 false (.q 8 (.a 9 true (.done))))))))))) (by kernel_rfl) ?_
    simp (maxSteps := 1000000) -implicitDefEqProofs only [push_cast, seval, k3, rd_of k3, rd1_of k3, m3, y3, y4]
    have dA := dwx.toDn ((Pre.refl h3).alloc (AOb.cells [Value.string ⟨#[97]⟩, Value.string ⟨#[122, 122]⟩, Value.string ⟨#[49]⟩] .solo h3.n))
    have oA := o3.alloc (AOb.cells [Value.string ⟨#[97]⟩, Value.string ⟨#[122, 122]⟩, Value.string ⟨#[49]⟩] .solo h3.n)
    with_reducible refine CC.txt (l01Pick_c p S l h3.n 3 (fun y => y.size ≤ 2) _ _ (dwx.dn dA) (alloc_same _) (by simp only [strs]; decide) rfl (by omega) (lt_alloc _)) (fun nm h4 qn d4 => ?_)
    have n4 : h3.n + 1 ≤ h4.n := d4.n
    have k4 : h4.ob h2.n = _ := (d4.ob _ (by show h2.n < h3.n + 1; omega) (by omega)).trans ((alloc_lt _ m3).trans k3)
    have g4 : h4.ob h.n = _ := (d4.ob _ (by show h.n < h3.n + 1; omega) (by omega)).trans ((alloc_lt _ l3).trans g3)
    have o4 := oA.dn (by omega) d4
    have m4 : h2.n < h4.n := by omega
    simp (maxSteps := 1000000) -implicitDefEqProofs only [push_cast, seval, k3, rd_of k3, rd1_of k3, k4, rd_of k4, rd1_of k4, m3, m4, y3, y4]
    have hl : ((st.vars.map Var.enc).flatten).length = st.vars.length * 2 := flat_len (k := 2) _ (fun _ => rfl)
    have zst := ok_szB ok
    have zl := zst.nv
    refine Gr.app1 (h0 := ⟨h1.n, h4.ob⟩) si24 (by decide) (by decide) (notInt_sl und24) o4.a ⟨by show h1.n ≤ h4.n; omega, fun _ _ => rfl⟩ rfl (by rw [hl]; omega) (by decide) (fun h5 gr ow p' hn' he => ?_)
    rw [hl, Nat.mul_div_cancel _ (by decide : 0 < 2)] at gr ow ⊢
    have n5 : h5.n = h4.n + 2 := hn'
    have k5 : h5.ob h2.n = _ := (he _ m4 (fun e => by have := lo _ (.inl e); omega)).trans k4
    have g5 : h5.ob h.n = _ := (he _ (by omega) (fun e => by have := o4.a.range e; omega)).trans g4
    have m5 : h2.n < h5.n := by omega
    have l5 : h.n < h5.n := by omega
    have lm : h.n < h2.n := by omega
    simp (maxSteps := 1000000) -implicitDefEqProofs only [push_cast, seval, k3, rd_of k3, rd1_of k3, k4, rd_of k4, rd1_of k4, k5, rd_of k5, rd1_of k5, g5, rd_of g5, rd1_of g5, m3, m4, m5, l5, y3, y4, lm]
    have ec : ((addV st nm).vars.map Var.enc).flatten = (st.vars.map Var.enc).flatten ++ [.string nm, .string ⟨#[]⟩] := by
      show ((st.vars ++ [_]).map Var.enc).flatten = _
      rw [flat_snoc]; rfl
    refine ⟨_, rB, addV st nm, rfl, SzN.of ⟨fun x hx => by
      rcases List.mem_append.1 hx with hx | hx
      · exact zst.vars x hx
      · simp only [List.mem_singleton] at hx; subst hx; exact ⟨by show nm.size ≤ _; omega, by show (0 : Nat) ≤ _; omega⟩, zst.cells, zst.out, by show (st.vars ++ [_]).length ≤ _; rw [storeOk_iff] at ok; have := ok.2.2.2.2.1; simp; omega, zst.nc⟩ (by show st.cells.length ≤ 9; omega), ⟨.inr ⟨_, _, _, rfl, by omega, by rw [ec]; exact (ow.same (set_ne _ (by omega)) (Nat.le_refl _)).same (set_ne _ (by omega)) (Nat.le_refl _)⟩, (o4.b.mono (by omega)).keep (by show h4.n ≤ h5.n; omega) (fun i e => ?_), fun i e e2 => ?_⟩, ?_⟩
    · have r1 := o4.b.range e
      have r2 := lo _ (.inr e)
      rw [set_ne _ (by omega), set_ne _ (by omega)]
      exact he i r1.2 (fun e' => o4.ne i e' e)
    · have r1 := o4.b.range e2
      simp only [atBlock] at e
      omega
    · exact (((dbx.alloc hp _).trans d4).to hp (by omega) (fun i a b => he i (by have : h.n ≤ h4.n := by omega
                                                                                 omega) (fun e => by have := o4.a.range e; omega)) (he p (by omega) (fun e => by have := o4.a.range e; omega)) |>.set hp (by omega) _).set hp (Nat.le_refl _) _
  · simp (maxSteps := 1000000) -implicitDefEqProofs only [push_cast, seval]
    with_reducible refine bcase_d (fun hb1 => ?_) (fun hb1 => ?_)
    · simp (maxSteps := 1000000) -implicitDefEqProofs only [push_cast, seval, k3, rd_of k3, rd1_of k3, m3]
      refine WC.draw' (by kernel_rfl) (by kernel_rfl) (.q 0 (.q 1 (.q 2 (.a 3 false (.a 4 false (.q 5 (.a 6 false (.a 7 false (.q 8 (.a 9 true (.done))))))))))) (by kernel_rfl) ?_
      simp (maxSteps := 1000000) -implicitDefEqProofs only [push_cast, seval, k3, rd_of k3, rd1_of k3, m3, y3, y4]
      have dA := dwx.toDn ((Pre.refl h3).alloc (AOb.cells [Value.string ⟨#[97]⟩, Value.string ⟨#[122, 122]⟩, Value.string ⟨#[]⟩] .solo h3.n))
      have oA := o3.alloc (AOb.cells [Value.string ⟨#[97]⟩, Value.string ⟨#[122, 122]⟩, Value.string ⟨#[]⟩] .solo h3.n)
      with_reducible refine CC.txt (l01Pick_c p S l h3.n 3 (fun y => y.size ≤ 2) _ _ (dwx.dn dA) (alloc_same _) (by simp only [strs]; decide) rfl (by omega) (lt_alloc _)) (fun nm h4 qn d4 => ?_)
      have n4 : h3.n + 1 ≤ h4.n := d4.n
      have k4 : h4.ob h2.n = _ := (d4.ob _ (by show h2.n < h3.n + 1; omega) (by omega)).trans ((alloc_lt _ m3).trans k3)
      have g4 : h4.ob h.n = _ := (d4.ob _ (by show h.n < h3.n + 1; omega) (by omega)).trans ((alloc_lt _ l3).trans g3)
      have o4 := oA.dn (by omega) d4
      have m4 : h2.n < h4.n := by omega
      simp (maxSteps := 1000000) -implicitDefEqProofs only [push_cast, seval, k3, rd_of k3, rd1_of k3, k4, rd_of k4, rd1_of k4, m3, m4, y3, y4]
      have hl : ((st.cells.map Cell.enc).flatten).length = st.cells.length * 3 := flat_len (k := 3) _ (fun _ => rfl)
      have zst := ok_szB ok
      have zl := zst.nc
      refine Gr.app1 (h0 := ⟨h1.n, h4.ob⟩) si25 (by decide) (by decide) (notInt_sl und25) o4.b ⟨by show h1.n ≤ h4.n; omega, fun _ _ => rfl⟩ rfl (by rw [hl]; omega) (by decide) (fun h5 gr ow p' hn' he => ?_)
      rw [hl, Nat.mul_div_cancel _ (by decide : 0 < 3)] at gr ow ⊢
      have n5 : h5.n = h4.n + 2 := hn'
      have k5 : h5.ob h2.n = _ := (he _ m4 (fun e => by have := lo _ (.inr e); omega)).trans k4
      have g5 : h5.ob h.n = _ := (he _ (by omega) (fun e => by have := o4.b.range e; omega)).trans g4
      have m5 : h2.n < h5.n := by omega
      have l5 : h.n < h5.n := by omega
      have lm : h.n < h2.n := by omega
      simp (maxSteps := 1000000) -implicitDefEqProofs only [push_cast, seval, k3, rd_of k3, rd1_of k3, k4, rd_of k4, rd1_of k4, k5, rd_of k5, rd1_of k5, g5, rd_of g5, rd1_of g5, m3, m4, m5, l5, y3, y4, lm]
      have ec : ((addC st nm).cells.map Cell.enc).flatten = (st.cells.map Cell.enc).flatten ++ [.string nm, .string ⟨#[]⟩, .string ⟨#[]⟩] := by
        show ((st.cells ++ [_]).map Cell.enc).flatten = _
        rw [flat_snoc]; rfl
      refine ⟨rA, _, addC st nm, rfl, SzN.of ⟨zst.vars, fun x hx => by
        rcases List.mem_append.1 hx with hx | hx
        · exact zst.cells x hx
        · simp only [List.mem_singleton] at hx; subst hx; exact ⟨by show nm.size ≤ _; omega, by show (0 : Nat) ≤ _; omega, by show (0 : Nat) ≤ _; omega⟩, zst.out, zst.nv, by show (st.cells ++ [_]).length ≤ _; rw [storeOk_iff] at ok; have := ok.2.2.2.2.2.1; simp; omega⟩ (by show (st.cells ++ [_]).length ≤ 9; simp; omega), ⟨(o4.a.mono (by omega)).keep (by show h4.n ≤ h5.n; omega) (fun i e => ?_), .inr ⟨_, _, _, rfl, by omega, by rw [ec]; exact (ow.same (set_ne _ (by omega)) (Nat.le_refl _)).same (set_ne _ (by omega)) (Nat.le_refl _)⟩, fun i e e2 => ?_⟩, ?_⟩
      · have r1 := o4.a.range e
        have r2 := lo _ (.inl e)
        rw [set_ne _ (by omega), set_ne _ (by omega)]
        exact he i r1.2 (fun e' => o4.ne i e e')
      · have r1 := o4.a.range e
        simp only [atBlock] at e2
        omega
      · exact (((dbx.alloc hp _).trans d4).to hp (by omega) (fun i a b => he i (by have : h.n ≤ h4.n := by omega
                                                                                   omega) (fun e => by have := o4.b.range e; omega)) (he p (by omega) (fun e => by have := o4.b.range e; omega)) |>.set hp (by omega) _).set hp (Nat.le_refl _) _
    · simp (maxSteps := 1000000) -implicitDefEqProofs only [push_cast, seval]
      with_reducible refine bcase_d (fun hb2 => ?_) (fun hb2 => ?_)
      · simp (maxSteps := 1000000) -implicitDefEqProofs only [push_cast, seval]
        with_reducible refine CC.num (l01Below_c p S l _ _ dwx) (fun z h4 q4 d4 => ?_)
        have hz : (z : Int) < 2 := q4.1 (by omega)
        have n4 := d4.n
        have k4 : h4.ob h2.n = _ := (d4.ob _ m3 (by omega)).trans k3
        have g4 : h4.ob h.n = _ := (d4.ob _ l3 (by omega)).trans g3
        have o4 := o3.dn (by omega) d4
        have m4 : h2.n < h4.n := by omega
        have l4 : h.n < h4.n := by omega
        have lm : h.n < h2.n := by omega
        with_reducible refine nameN (3000 + z) (fun Z hZ => ?_)
        have w : IntKind.i64.wrap (3000 + (z : Int)) = (Z : Int) := by rw [hZ, w64 (by omega) (by omega)]; omega
        have hL := l01Long_c Z 65 (by omega) (by omega) h4
        rw [show ((65 : Nat) : Int) = 65 from rfl] at hL
        simp (maxSteps := 1000000) -implicitDefEqProofs only [push_cast, seval, w]
        with_reducible refine CC.mono hL (fun v h5 hv => ?_)
        have eh := hv.2
        have hy := hv.1
        clear hv
        subst eh
        with_reducible refine Exists.elim hy (fun t ht => ?_)
        have e1 := ht.1
        have ts := ht.2
        subst e1
        simp (maxSteps := 1000000) -implicitDefEqProofs only [push_cast, seval, k3, rd_of k3, rd1_of k3, k4, rd_of k4, rd1_of k4, g4, rd_of g4, rd1_of g4, m3, m4, l4, y3, y4, lm]
        have zst := ok_szB ok
        refine ⟨rA, rB, ⟨st.vars, st.cells, t⟩, rfl, SzN.of ⟨zst.vars, zst.cells, by show t.size ≤ _; omega, zst.nv, zst.nc⟩ (by show st.cells.length ≤ 9; omega), ⟨(o4.a.mono (by omega)).keep (Nat.le_refl _) (fun i e => ?_), (o4.b.mono (by omega)).keep (Nat.le_refl _) (fun i e => ?_), o4.ne⟩, ((dbx.trans d4).set hp (by omega) _).set hp (Nat.le_refl _) _⟩
        · have r1 := o4.a.range e
          have r2 := lo _ (.inl e)
          rw [set_ne _ (by omega), set_ne _ (by omega)]
        · have r1 := o4.b.range e
          have r2 := lo _ (.inr e)
          rw [set_ne _ (by omega), set_ne _ (by omega)]
      · simp (maxSteps := 1000000) -implicitDefEqProofs only [push_cast, seval]
        with_reducible refine bcase_d (fun hb3 => ?_) (fun hb3 => ?_)
        · simp (maxSteps := 1000000) -implicitDefEqProofs only [push_cast, seval]
          have hsh := o3.rdt.vars.rde (fun _ => rfl)
          with_reducible refine Exists.elim hsh (fun A0 hsh => ?_)
          with_reducible refine Exists.elim hsh (fun cA0 hsh => ?_)
          have erA := hsh.1
          refine WC.loopA (by kernel_rfl) [] [40, 41, 42, 43, 44, 45, 46, 47, 48, 49, 50, 51, 52, 53, 54, 55, 56, 57, 58, 59, 60, 61, 62, 63, 64, 65, 66, 67] (fun a : Option Addr × Nat × Store => []) (fun a h' => h'.ob h.n = .cells [.slice none 0 0, .slice none 0 0, .string ⟨#[]⟩] .solo h.n ∧ h'.ob h2.n = .cells [.slice a.1 a.2.2.vars.length a.2.1, rB, .string st.out] .solo h2.n ∧ a.2.2.cells = st.cells ∧ a.2.2.out = st.out ∧ SzB a.2.2 ∧ OwnT h1 h' (.slice a.1 a.2.2.vars.length a.2.1) rB a.2.2 ∧ (∀ i, atBlock (.slice a.1 a.2.2.vars.length a.2.1) i ∨ atBlock rB i → i ≠ h2.n) ∧ Dn p S l h h' ∧ h3.n ≤ h'.n) (fun a => 62 - a.2.2.vars.length) (A0, cA0, st) (by kernel_rfl) ⟨g3, by rw [← erA]; exact k3, rfl, rfl, ok_szB ok, by rw [← erA]; exact o3, fun i e => by rw [← erA] at e; have := lo i e; omega, dbx, Nat.le_refl _⟩ ?_
          intro a g h4 hJ
          have g4 := hJ.1
          have k4 := hJ.2.1
          have ec := hJ.2.2.1
          have eo := hJ.2.2.2.1
          have zs := hJ.2.2.2.2.1
          have o4 := hJ.2.2.2.2.2.1
          have ln := hJ.2.2.2.2.2.2.1
          have d4 := hJ.2.2.2.2.2.2.2.1
          have n4 := hJ.2.2.2.2.2.2.2.2
          clear hJ
          have l4 : h.n < h4.n := by omega
          have m4 : h2.n < h4.n := by omega
          have lm : h.n < h2.n := by omega
          have znv := zs.nv
          generalize hnV : a.2.2.vars.length = nV at *
          refine WC.draw' (by kernel_rfl) (by kernel_rfl) (.q 0 (.q 1 (.q 2 (.q 3 (.a 4 false (.q 5 (.q 6 (.done)))))))) (by kernel_rfl) ?_
          simp (maxSteps := 1000000) -implicitDefEqProofs only [push_cast, seval, g4, rd_of g4, rd1_of g4, k4, rd_of k4, rd1_of k4, l4, m4, y4]
          with_reducible refine CC.num (l01Below_c p S l _ _ (d.dn d4)) (fun z h5 q5 d5 => ?_)
          have hz : (z : Int) < 3 := q5.1 (by omega)
          have n5 := d5.n
          have k5 : h5.ob h2.n = _ := (d5.ob _ m4 (by omega)).trans k4
          have g5 : h5.ob h.n = _ := (d5.ob _ l4 (by omega)).trans g4
          have o5 := o4.dn (by omega) d5
          have m5 : h2.n < h5.n := by omega
          have l5 : h.n < h5.n := by omega
          have w : IntKind.i64.wrap (59 + (z : Int)) = 59 + (z : Int) := by rw [w64 (by omega) (by omega)]
          simp (maxSteps := 1000000) -implicitDefEqProofs only [push_cast, seval, k4, rd_of k4, rd1_of k4, k5, rd_of k5, rd1_of k5, w]
          with_reducible refine bcase_d (fun hb4 => ?_) (fun hb4 => ?_)
          · have hv61 : nV ≤ 60 := by omega
            simp (maxSteps := 1000000) -implicitDefEqProofs only [push_cast, seval, k5, rd_of k5, rd1_of k5, m5]
            refine And.intro (by show 2 + 2 < 4611686018427387904; omega) ?_
            have z2 : ∀ x y : UInt8, (ByteArray.mk #[122, 122] ++ ByteArray.mk #[x, y]).size = 4 := fun x y => by rw [ByteArray.size_append]; rfl
            generalize hX : (ByteArray.mk #[122, 122] ++ ByteArray.mk #[UInt8.ofNat (IntKind.u8.wrap (IntKind.i64.wrap (97 + IntKind.i64.wrap ((nV : Int).tdiv 26)))).toNat, UInt8.ofNat (IntKind.u8.wrap (IntKind.i64.wrap (97 + (nV : Int).tmod 26))).toNat]) = nm
            have hnm : nm.size = 4 := by rw [← hX]; exact z2 _ _
            generalize Value.int IntKind.u8 (IntKind.u8.wrap (IntKind.i64.wrap (97 + IntKind.i64.wrap ((nV : Int).tdiv 26)))) = X1
            generalize Value.int IntKind.u8 (IntKind.u8.wrap (IntKind.i64.wrap (97 + (nV : Int).tmod 26))) = X2
            have hl : ((a.2.2.vars.map Var.enc).flatten).length = nV * 2 := by rw [← hnV]; exact flat_len (k := 2) _ (fun _ => rfl)
            have g5' : (h5.alloc (AOb.cells [X1, X2] .solo h5.n)).ob h.n = _ := (alloc_lt _ l5).trans g5
            have k5' : (h5.alloc (AOb.cells [X1, X2] .solo h5.n)).ob h2.n = _ := (alloc_lt _ m5).trans k5
            have o5' := o5.alloc (AOb.cells [X1, X2] .solo h5.n)
            have d5' := (d4.trans d5).alloc hp (AOb.cells [X1, X2] .solo h5.n)
            have n5' : (h5.alloc (AOb.cells [X1, X2] .solo h5.n)).n = h5.n + 1 := rfl
            rw [show h5.n + 1 = (h5.alloc (AOb.cells [X1, X2] .solo h5.n)).n from rfl]
            generalize h5.alloc (AOb.cells [X1, X2] .solo h5.n) = h6 at *
            refine Gr.app1 (h0 := ⟨h1.n, h6.ob⟩) si24 (by decide) (by decide) (notInt_sl und24) o5'.a ⟨by show h1.n ≤ h6.n; omega, fun _ _ => rfl⟩ rfl (by rw [hl]; omega) (by decide) (fun h7 gr ow p' hn' he => ?_)
            rw [hl, Nat.mul_div_cancel _ (by decide : 0 < 2)] at gr ow ⊢
            have n7 : h7.n = h6.n + 2 := hn'
            have k7 : h7.ob h2.n = _ := (he _ (by omega) (fun e => ln _ (.inl e) rfl)).trans k5'
            have g7 : h7.ob h.n = _ := (he _ (by omega) (fun e => by have := o5'.a.range e; omega)).trans g5'
            have m7 : h2.n < h7.n := by omega
            simp (maxSteps := 1000000) -implicitDefEqProofs only [push_cast, seval, k5, rd_of k5, rd1_of k5, k7, rd_of k7, rd1_of k7, m5, m7]
            have ecn : ((addV a.2.2 nm).vars.map Var.enc).flatten = (a.2.2.vars.map Var.enc).flatten ++ [.string nm, .string ⟨#[]⟩] := by
              show ((a.2.2.vars ++ [_]).map Var.enc).flatten = _
              rw [flat_snoc]; rfl
            have evl : (addV a.2.2 nm).vars.length = nV + 1 := by show (a.2.2.vars ++ [_]).length = _; rw [List.length_append, hnV]; rfl
            refine ⟨(some ⟨h6.n + 1, 0, none⟩, 2, addV a.2.2 nm), ⟨(set_ne _ (by omega)).trans g7, by rw [evl], ec, eo, ⟨fun x hx => ?_, zs.cells, zs.out, by rw [evl]; omega, zs.nc⟩, ?_, fun i e => ?_, ?_, by show h3.n ≤ h7.n; omega⟩, by show 62 - (addV a.2.2 nm).vars.length < 62 - nV; rw [evl]; omega⟩
            · rcases List.mem_append.1 hx with hx | hx
              · exact zs.vars x hx
              · simp only [List.mem_singleton] at hx; subst hx; exact ⟨by show nm.size ≤ _; omega, by show (0 : Nat) ≤ _; omega⟩
            · rw [evl]
              refine ⟨.inr ⟨_, _, _, rfl, by omega, by rw [ecn]; exact ow.same (set_ne _ (by omega)) (Nat.le_refl _)⟩, o5'.b.keep (by show h6.n ≤ h7.n; omega) (fun i e => ?_), fun i e e2 => ?_⟩
              · have r1 := o5'.b.range e
                rw [set_ne _ (ln i (.inr e))]
                exact he i r1.2 (fun e' => o5'.ne i e' e)
              · have r1 := o5'.b.range e2
                simp only [atBlock] at e
                omega
            · rcases e with e | e
              · simp only [atBlock] at e
                omega
              · exact ln i (.inr e)
            · exact (d5'.to hp (by omega) (fun i a b => he i (by omega) (fun e => by have := o5'.a.range e; omega)) (he p (by omega) (fun e => by have := o5'.a.range e; omega))).set hp (by omega) _
          · simp (maxSteps := 1000000) -implicitDefEqProofs only [push_cast, seval, g5, rd_of g5, rd1_of g5, k5, rd_of k5, rd1_of k5, l5, m5, lm, y4]
            refine ⟨_, rB, a.2.2, by rw [eo], SzN.of zs (by rw [ec]; omega), ⟨(o5.a.mono (by omega)).keep (Nat.le_refl _) (fun i e => ?_), (o5.b.mono (by omega)).keep (Nat.le_refl _) (fun i e => ?_), o5.ne⟩, (d4.trans d5).set hp (Nat.le_refl _) _⟩
            · have r1 := o5.a.range e
              exact set_ne _ (by omega)
            · have r1 := o5.b.range e
              exact set_ne _ (by omega)
        · simp (maxSteps := 1000000) -implicitDefEqProofs only [push_cast, seval, g3, rd_of g3, rd1_of g3, k3, rd_of k3, rd1_of k3, l3, m3, y3, y4]
          have lm : h.n < h2.n := by omega
          have zst := ok_szB ok
          refine ⟨rA, rB, st, rfl, SzN.of zst (by omega), ⟨(o3.a.mono (by omega)).keep (Nat.le_refl _) (fun i e => ?_), (o3.b.mono (by omega)).keep (Nat.le_refl _) (fun i e => ?_), o3.ne⟩, dbx.set hp (Nat.le_refl _) _⟩
          · have r1 := o3.a.range e
            exact set_ne _ (by omega)
          · have r1 := o3.b.range e
            exact set_ne _ (by omega)
end Go.Proofs.YtcggnolnakgkeaaDoor
namespace Go.Proofs.YtcggnolnakgkeaaDoor
open Go Go.Sim Go.Proofs
set_option linter.unusedSimpArgs false
set_option linter.unusedVariables false
set_option maxRecDepth 100000
set_option maxHeartbeats 1000000
theorem Var.dec (a b : Var) : (decide (a.name = b.name) && decide (a.val = b.val)) = decide (a = b) := by
  obtain ⟨a1, a2⟩ := a; obtain ⟨b1, b2⟩ := b
  simp [Var.mk.injEq]
theorem Cell.dec (a b : Cell) : (decide (a.name = b.name) && (decide (a.key = b.key) && decide (a.val = b.val))) = decide (a = b) := by
  obtain ⟨a1, a2, a3⟩ := a; obtain ⟨b1, b2, b3⟩ := b
  simp [Cell.mk.injEq]
theorem SameStore_s (s t : Store) (vA vB wA wB : Value) (h : AH) (rs : RdT h vA vB s) (rt : RdT h wA wB t) (zs : Sz s) (zt : Sz t) :
    CD Tryd.prog 9 [.agg #[vA, vB, .string s.out], .agg #[wA, wB, .string t.out]] h (.bool (decide (s = t))) h := by
  obtain ⟨A, B, ca, cb, rfl, rfl, hs⟩ := rs.rds
  obtain ⟨C, D, cc, cd, rfl, rfl, ht⟩ := rt.rds
  refine CD.withBig (fun big => ?_)
  refine CD.quiet ?_ (low_bool _ _)
  have hA := hs.vars
  have hB := hs.cells
  have hC := ht.vars
  have hD := ht.cells
  have nv := zs.nv
  have nc := zs.nc
  refine CC.ofN Tryd.func9 Tryd.ntmps9 Tryd.results9 rfl (by decide) (by kernel_rfl) ?_
  simp (maxSteps := 1000000) -implicitDefEqProofs only [push_cast, seval]
  with_reducible refine bcase_d (fun hb => ?_) (fun hb => ?_)
  rotate_left
  · simp (maxSteps := 1000000) -implicitDefEqProofs only [push_cast, seval]
    repeat' (first | with_reducible (first | exact Keep.refl _ _ | assumption | exact byte_lt _ _ | apply Keep.alloc | (refine Keep.set ?_ ?_; rotate_left; · omega) | apply Pre.alloc | apply Pre.set | exact Pre.refl _ | exact le_alloc _ | (refine Pre.keep ?_; assumption) | (refine Pre.n ?_; assumption)) | ((with_reducible (first | refine bcase_d (fun hb => ?_) (fun hb => ?_) | refine bcase_mk (fun hb => ?_) (fun hb => ?_))) <;> try simp (maxSteps := 1000000) -implicitDefEqProofs only [push_cast, seval]) | with_reducible refine And.intro ?_ ?_ | omega | (simp only [alloc_n, set_n, kill_n]; omega) | (exfalso; omega))
    have : s ≠ t := fun e => hb (by rw [e])
    simp [this]
  have elv : s.vars.length = t.vars.length := by omega
  simp (maxSteps := 1000000) -implicitDefEqProofs only [push_cast, seval]
  with_reducible refine bcase_d (fun hb => ?_) (fun hb => ?_)
  rotate_left
  · simp (maxSteps := 1000000) -implicitDefEqProofs only [push_cast, seval]
    repeat' (first | with_reducible (first | exact Keep.refl _ _ | assumption | exact byte_lt _ _ | apply Keep.alloc | (refine Keep.set ?_ ?_; rotate_left; · omega) | apply Pre.alloc | apply Pre.set | exact Pre.refl _ | exact le_alloc _ | (refine Pre.keep ?_; assumption) | (refine Pre.n ?_; assumption)) | ((with_reducible (first | refine bcase_d (fun hb => ?_) (fun hb => ?_) | refine bcase_mk (fun hb => ?_) (fun hb => ?_))) <;> try simp (maxSteps := 1000000) -implicitDefEqProofs only [push_cast, seval]) | with_reducible refine And.intro ?_ ?_ | omega | (simp only [alloc_n, set_n, kill_n]; omega) | (exfalso; omega))
    have : s ≠ t := fun e => hb (by rw [e])
    simp [this]
  have elc : s.cells.length = t.cells.length := by omega
  simp (maxSteps := 1000000) -implicitDefEqProofs only [push_cast, seval]
  with_reducible refine bcase_d (fun hb => ?_) (fun hb => ?_)
  rotate_left
  · simp (maxSteps := 1000000) -implicitDefEqProofs only [push_cast, seval]
    repeat' (first | with_reducible (first | exact Keep.refl _ _ | assumption | exact byte_lt _ _ | apply Keep.alloc | (refine Keep.set ?_ ?_; rotate_left; · omega) | apply Pre.alloc | apply Pre.set | exact Pre.refl _ | exact le_alloc _ | (refine Pre.keep ?_; assumption) | (refine Pre.n ?_; assumption)) | ((with_reducible (first | refine bcase_d (fun hb => ?_) (fun hb => ?_) | refine bcase_mk (fun hb => ?_) (fun hb => ?_))) <;> try simp (maxSteps := 1000000) -implicitDefEqProofs only [push_cast, seval]) | with_reducible refine And.intro ?_ ?_ | omega | (simp only [alloc_n, set_n, kill_n]; omega) | (exfalso; omega))
    have : s ≠ t := fun e => hb (by rw [e])
    simp [this]
  have eo : s.out = t.out := hb
  simp (maxSteps := 1000000) -implicitDefEqProofs only [push_cast, seval]
  refine WC.loopA (by kernel_rfl) [5] [4, 30, 31, 32, 33, 34, 35, 36, 37, 38, 39, 40, 41, 42, 43, 44, 45, 46, 47] (fun a : Nat => [.int .i64 (a : Nat)]) (fun a h' => a ≤ s.vars.length ∧ s.vars.take a = t.vars.take a ∧ Pre ((h.alloc (AOb.cells [Value.slice A s.vars.length ca, Value.slice B s.cells.length cb, Value.string s.out] Stat.solo h.n)).alloc (AOb.cells [Value.slice C t.vars.length cc, Value.slice D t.cells.length cd, Value.string t.out] Stat.solo (h.n + 1))) h') (fun a => s.vars.length - a) 0 (by kernel_rfl) ⟨Nat.zero_le _, by simp, Pre.refl _⟩ ?_
  intro a g0 h0 hJ
  have hi := hJ.1
  have he := hJ.2.1
  have hp := hJ.2.2
  clear hJ
  have p0 : Pre h h0 := (((Pre.refl h).alloc _).alloc _).trans hp
  have o0 : h0.ob h.n = _ := (hp.ob _ (by show h.n < h.n + 2; omega)).trans (by (try simp (maxSteps := 1000000) -implicitDefEqProofs only [push_cast, seval, rdOb]); try rfl)
  have q0 : h0.ob (h.n + 1) = _ := (hp.ob _ (by show h.n + 1 < h.n + 2; omega)).trans (by (try simp (maxSteps := 1000000) -implicitDefEqProofs only [push_cast, seval, rdOb]); try rfl)
  have l0 : h.n < h0.n := by have := hp.n; have : h.n + 2 ≤ h0.n := this; omega
  have m0 : h.n + 1 < h0.n := by have := hp.n; have : h.n + 2 ≤ h0.n := this; omega
  simp (maxSteps := 1000000) -implicitDefEqProofs only [push_cast, seval, o0, rd_of o0, rd1_of o0, q0, rd_of q0, rd1_of q0, l0, m0]
  with_reducible refine bcase_d (fun hb => ?_) (fun hb => ?_)
  · have hi' : a < s.vars.length := by omega
    have hj' : a < t.vars.length := by omega
    with_reducible refine hA.use big p0 hi' (fun id off eA hlt hr => ?_)
    with_reducible refine hC.use big p0 hj' (fun id2 off2 eB hlt2 hr2 => ?_)
    subst eA
    subst eB
    simp only [Var.enc] at hr hr2
    simp (maxSteps := 1000000) -implicitDefEqProofs only [push_cast, seval, hr, hlt, hr2, hlt2, o0, rd_of o0, rd1_of o0, q0, rd_of q0, rd1_of q0, l0, m0]
    refine WC.draw' (by kernel_rfl) (by kernel_rfl) (.q 0 (.q 1 (.q 2 (.q 3 (.q 4 (.q 5 (.q 6 (.q 7 (.q 8 (.q 9 (.q 10 (.done)))))))))))) (by kernel_rfl) ?_
    simp (maxSteps := 1000000) -implicitDefEqProofs only [push_cast, seval, hr, hlt, hr2, hlt2, o0, rd_of o0, rd1_of o0, q0, rd_of q0, rd1_of q0, l0, m0]
    refine And.intro (by omega) (And.intro (by omega) (And.intro (by omega) (And.intro (by omega) ?_)))
    rw [Var.dec]
    with_reducible refine bcase_d (fun hb2 => ?_) (fun hb2 => ?_)
    · simp (maxSteps := 1000000) -implicitDefEqProofs only [push_cast, seval]
      rw [wrapSucc (by omega)]
      exact ⟨a + 1, by kernel_rfl, ⟨by show a + 1 ≤ s.vars.length; omega, take_next he hi' hj' hb2, hp⟩, by show s.vars.length - (a + 1) < s.vars.length - a; omega⟩
    · simp (maxSteps := 1000000) -implicitDefEqProofs only [push_cast, seval]
      repeat' (first | with_reducible (first | exact Keep.refl _ _ | assumption | exact byte_lt _ _ | apply Keep.alloc | (refine Keep.set ?_ ?_; rotate_left; · omega) | apply Pre.alloc | apply Pre.set | exact Pre.refl _ | exact le_alloc _ | (refine Pre.keep ?_; assumption) | (refine Pre.n ?_; assumption)) | ((with_reducible (first | refine bcase_d (fun hb => ?_) (fun hb => ?_) | refine bcase_mk (fun hb => ?_) (fun hb => ?_))) <;> try simp (maxSteps := 1000000) -implicitDefEqProofs only [push_cast, seval]) | with_reducible refine And.intro ?_ ?_ | omega | (simp only [alloc_n, set_n, kill_n]; omega) | (exfalso; omega))
      have : s ≠ t := fun e => by subst e; exact hb2 rfl
      simp [this]
  · have ea : a = s.vars.length := by omega
    subst ea
    have ev := take_full he elv
    simp (maxSteps := 1000000) -implicitDefEqProofs only [push_cast, seval, o0, rd_of o0, rd1_of o0, q0, rd_of q0, rd1_of q0, l0, m0]
    refine WC.loopA (by kernel_rfl) [6] [4, 48, 49, 50, 51, 52, 53, 54, 55, 56, 57, 58, 59, 60, 61, 62, 63, 64, 65] (fun a : Nat => [.int .i64 (a : Nat)]) (fun a h' => a ≤ s.cells.length ∧ s.cells.take a = t.cells.take a ∧ Pre (h0) h') (fun a => s.cells.length - a) 0 (by kernel_rfl) ⟨Nat.zero_le _, by simp, Pre.refl _⟩ ?_
    intro a g1 h1 hJ
    have hi := hJ.1
    have he := hJ.2.1
    have hp1 := hJ.2.2
    clear hJ
    have p1 : Pre h h1 := p0.trans hp1
    have o1 : h1.ob h.n = _ := (hp1.ob _ (l0)).trans o0
    have q1 : h1.ob (h.n + 1) = _ := (hp1.ob _ (m0)).trans q0
    have l1 : h.n < h1.n := by have := hp1.n; omega
    have m1 : h.n + 1 < h1.n := by have := hp1.n; omega
    simp (maxSteps := 1000000) -implicitDefEqProofs only [push_cast, seval, o1, rd_of o1, rd1_of o1, q1, rd_of q1, rd1_of q1, l1, m1]
    with_reducible refine bcase_d (fun hb => ?_) (fun hb => ?_)
    · have hi' : a < s.cells.length := by omega
      have hj' : a < t.cells.length := by omega
      with_reducible refine hB.use big p1 hi' (fun id off eA hlt hr => ?_)
      with_reducible refine hD.use big p1 hj' (fun id2 off2 eB hlt2 hr2 => ?_)
      subst eA
      subst eB
      simp only [Cell.enc] at hr hr2
      simp (maxSteps := 1000000) -implicitDefEqProofs only [push_cast, seval, hr, hlt, hr2, hlt2, o1, rd_of o1, rd1_of o1, q1, rd_of q1, rd1_of q1, l1, m1]
      refine WC.draw' (by kernel_rfl) (by kernel_rfl) (.q 0 (.q 1 (.q 2 (.q 3 (.q 4 (.q 5 (.q 6 (.q 7 (.q 8 (.q 9 (.q 10 (.done)))))))))))) (by kernel_rfl) ?_
      simp (maxSteps := 1000000) -implicitDefEqProofs only [push_cast, seval, hr, hlt, hr2, hlt2, o1, rd_of o1, rd1_of o1, q1, rd_of q1, rd1_of q1, l1, m1]
      refine And.intro (by omega) (And.intro (by omega) (And.intro (by omega) (And.intro (by omega) ?_)))
      rw [Cell.dec]
      with_reducible refine bcase_d (fun hb2 => ?_) (fun hb2 => ?_)
      · simp (maxSteps := 1000000) -implicitDefEqProofs only [push_cast, seval]
        rw [wrapSucc (by omega)]
        exact ⟨a + 1, by kernel_rfl, ⟨by show a + 1 ≤ s.cells.length; omega, take_next he hi' hj' hb2, hp1⟩, by show s.cells.length - (a + 1) < s.cells.length - a; omega⟩
      · simp (maxSteps := 1000000) -implicitDefEqProofs only [push_cast, seval]
        repeat' (first | with_reducible (first | exact Keep.refl _ _ | assumption | exact byte_lt _ _ | apply Keep.alloc | (refine Keep.set ?_ ?_; rotate_left; · omega) | apply Pre.alloc | apply Pre.set | exact Pre.refl _ | exact le_alloc _ | (refine Pre.keep ?_; assumption) | (refine Pre.n ?_; assumption)) | ((with_reducible (first | refine bcase_d (fun hb => ?_) (fun hb => ?_) | refine bcase_mk (fun hb => ?_) (fun hb => ?_))) <;> try simp (maxSteps := 1000000) -implicitDefEqProofs only [push_cast, seval]) | with_reducible refine And.intro ?_ ?_ | omega | (simp only [alloc_n, set_n, kill_n]; omega) | (exfalso; omega))
        have : s ≠ t := fun e => by subst e; exact hb2 rfl
        simp [this]
    · have ea : a = s.cells.length := by omega
      subst ea
      have ec := take_full he elc
      simp (maxSteps := 1000000) -implicitDefEqProofs only [push_cast, seval, o1, rd_of o1, rd1_of o1, q1, rd_of q1, rd1_of q1, l1, m1]
      repeat' (first | with_reducible (first | exact Keep.refl _ _ | assumption | exact byte_lt _ _ | apply Keep.alloc | (refine Keep.set ?_ ?_; rotate_left; · omega) | apply Pre.alloc | apply Pre.set | exact Pre.refl _ | exact le_alloc _ | (refine Pre.keep ?_; assumption) | (refine Pre.n ?_; assumption)) | ((with_reducible (first | refine bcase_d (fun hb => ?_) (fun hb => ?_) | refine bcase_mk (fun hb => ?_) (fun hb => ?_))) <;> try simp (maxSteps := 1000000) -implicitDefEqProofs only [push_cast, seval]) | with_reducible refine And.intro ?_ ?_ | omega | (simp only [alloc_n, set_n, kill_n]; omega) | (exfalso; omega))
      have : s = t := by obtain ⟨a1, a2, a3⟩ := s; obtain ⟨b1, b2, b3⟩ := t; simp_all
      simp [this]
end Go.Proofs.YtcggnolnakgkeaaDoor
namespace Go.Proofs.YtcggnolnakgkeaaDoor
open Go Go.Sim Go.Proofs
set_option linter.unusedSimpArgs false
set_option linter.unusedVariables false
/-! A store comes back from its text. -/
theorem sh_at (p t q : ByteArray) (ht : t.size ≤ 20000) : shT (p ++ short t ++ q) (p.size, false) = t ∧ shN (p ++ short t ++ q) (p.size, false) = ((p ++ short t).size, false) := by
  have h := rs_back p t q ht
  have e : (p ++ short t).size = p.size + (vt (t.size : Nat)).size + t.size := by rw [ByteArray.size_append, short, ByteArray.size_append]; omega
  constructor
  · simp only [shT, Bool.false_eq_true, if_false, h.1]; exact h.2
  · simp only [shN, Bool.false_eq_true, if_false, h.1, nxT, Option.isNone_some, e]
theorem ct_at (p q : ByteArray) (n most : Nat) (hn : n ≤ most) (hm : most ≤ 1000000000) : ctM (p ++ vt (n : Nat) ++ q) most (p.size, false) = n ∧ ctN (p ++ vt (n : Nat) ++ q) most (p.size, false) = ((p ++ vt (n : Nat)).size, false) := by
  have h := rv_back p q n (by omega)
  constructor
  · simp only [ctM, ctV, Bool.false_eq_true, if_false, h, oN]
    rw [if_neg (by omega), Int.toNat_natCast]
  · simp only [ctN, Bool.false_eq_true, if_false, h, oN, nxN, Option.isNone_some, Bool.false_or, ByteArray.size_append]
    rw [decide_eq_false (by omega)]
theorem itV_at (p q : ByteArray) (l : List Var) (hl : ∀ x ∈ l, x.name.size ≤ 20000 ∧ x.val.size ≤ 20000) : ∀ i, i ≤ l.length → itV (p ++ cat (l.map Var.txt) ++ q) (p.size, false) i = (((p ++ cat ((l.take i).map Var.txt)).size, false), l.take i)
  | 0, _ => by simp [itV, cat, app_empty]
  | i + 1, hi => by
    have hi' : i < l.length := by omega
    have ih := itV_at p q l hl i (by omega)
    have hs := cat_split Var.txt hi'
    have hz := hl _ (List.getElem_mem hi')
    generalize hA : p ++ cat ((l.take i).map Var.txt) = A at ih
    generalize hB : cat ((l.drop (i + 1)).map Var.txt) ++ q = B
    have e1 : p ++ cat (l.map Var.txt) ++ q = A ++ short l[i].name ++ (short l[i].val ++ B) := by
      rw [hs, ← hA, ← hB, Var.txt]; simp only [app_assoc]
    have e2 : p ++ cat (l.map Var.txt) ++ q = (A ++ short l[i].name) ++ short l[i].val ++ B := by rw [e1, app_assoc]
    have r1 := sh_at A l[i].name (short l[i].val ++ B) hz.1
    have r2 := sh_at (A ++ short l[i].name) l[i].val B hz.2
    rw [← e1] at r1
    rw [← e2] at r2
    rw [itV, ih]
    simp only
    rw [r1.1, r1.2, r2.1, r2.2, List.take_add_one, List.getElem?_eq_getElem hi']
    simp only [Option.toList_some, List.map_append, List.map_cons, List.map_nil, cat_snoc, Var.txt, app_assoc, hA]
theorem itC_at (p q : ByteArray) (l : List Cell) (hl : ∀ x ∈ l, x.name.size ≤ 20000 ∧ x.key.size ≤ 20000 ∧ x.val.size ≤ 20000) : ∀ i, i ≤ l.length → itC (p ++ cat (l.map Cell.txt) ++ q) (p.size, false) i = (((p ++ cat ((l.take i).map Cell.txt)).size, false), l.take i)
  | 0, _ => by simp [itC, cat, app_empty]
  | i + 1, hi => by
    have hi' : i < l.length := by omega
    have ih := itC_at p q l hl i (by omega)
    have hs := cat_split Cell.txt hi'
    have hz := hl _ (List.getElem_mem hi')
    generalize hA : p ++ cat ((l.take i).map Cell.txt) = A at ih
    generalize hB : cat ((l.drop (i + 1)).map Cell.txt) ++ q = B
    have e1 : p ++ cat (l.map Cell.txt) ++ q = A ++ short l[i].name ++ (short l[i].key ++ short l[i].val ++ B) := by
      rw [hs, ← hA, ← hB, Cell.txt]; simp only [app_assoc]
    have e2 : p ++ cat (l.map Cell.txt) ++ q = (A ++ short l[i].name) ++ short l[i].key ++ (short l[i].val ++ B) := by rw [e1]; simp only [app_assoc]
    have e3 : p ++ cat (l.map Cell.txt) ++ q = (A ++ short l[i].name ++ short l[i].key) ++ short l[i].val ++ B := by rw [e1]; simp only [app_assoc]
    have r1 := sh_at A l[i].name (short l[i].key ++ short l[i].val ++ B) hz.1
    have r2 := sh_at (A ++ short l[i].name) l[i].key (short l[i].val ++ B) hz.2.1
    have r3 := sh_at (A ++ short l[i].name ++ short l[i].key) l[i].val B hz.2.2
    rw [← e1] at r1
    rw [← e2] at r2
    rw [← e3] at r3
    rw [itC, ih]
    simp only
    rw [r1.1, r1.2, r2.1, r2.2, r3.1, r3.2, List.take_add_one, List.getElem?_eq_getElem hi']
    simp only [Option.toList_some, List.map_append, List.map_cons, List.map_nil, cat_snoc, Cell.txt, app_assoc, hA]
theorem read_back {s : Store} (h : storeOk s = true) : iOk (storeT s) = true ∧ iStore (storeT s) = s := by
  have ho := h
  rw [storeOk_iff] at h
  obtain ⟨h1, h2, h3, h4, h5, h6, h7⟩ := h
  have ls : ∀ y, letters y = true → y.size ≤ 8 := fun y hy => by
    simp only [letters, inB, Bool.and_eq_true, decide_eq_true_eq] at hy
    omega
  have zv : ∀ x ∈ s.vars, x.name.size ≤ 20000 ∧ x.val.size ≤ 20000 := fun x hx => by have := h1 x hx; have := ls _ this.1; omega
  have zc : ∀ x ∈ s.cells, x.name.size ≤ 20000 ∧ x.key.size ≤ 20000 ∧ x.val.size ≤ 20000 := fun x hx => by have := h3 x hx; have := ls _ this.1; omega
  generalize hT : storeT s = T
  have e0 : T = vt (s.vars.length : Nat) ++ cat (s.vars.map Var.txt) ++ vt (s.cells.length : Nat) ++ cat (s.cells.map Cell.txt) ++ short s.out := by rw [← hT, storeT, varsT_all, cellsT_all]
  have em : ∀ x : ByteArray, (⟨#[]⟩ : ByteArray) ++ x = x := fun x => by
    have h0 : (⟨#[]⟩ : ByteArray) = ByteArray.empty := rfl
    rw [h0]; simp
  have c1 := ct_at ⟨#[]⟩ (cat (s.vars.map Var.txt) ++ vt (s.cells.length : Nat) ++ cat (s.cells.map Cell.txt) ++ short s.out) s.vars.length 60 h5 (by omega)
  rw [em, show vt (s.vars.length : Nat) ++ (cat (s.vars.map Var.txt) ++ vt (s.cells.length : Nat) ++ cat (s.cells.map Cell.txt) ++ short s.out) = T from by rw [e0]; simp only [app_assoc]] at c1
  have v1 := itV_at (vt (s.vars.length : Nat)) (vt (s.cells.length : Nat) ++ cat (s.cells.map Cell.txt) ++ short s.out) s.vars zv s.vars.length (Nat.le_refl _)
  rw [show vt (s.vars.length : Nat) ++ cat (s.vars.map Var.txt) ++ (vt (s.cells.length : Nat) ++ cat (s.cells.map Cell.txt) ++ short s.out) = T from by rw [e0]; simp only [app_assoc], List.take_length] at v1
  have eL : iL T = (((vt (s.vars.length : Nat) ++ cat (s.vars.map Var.txt)).size, false), s.vars) := by
    rw [iL]
    have a1 : ctN T 60 (0, false) = ((vt (s.vars.length : Nat)).size, false) := c1.2
    have a2 : ctM T 60 (0, false) = s.vars.length := c1.1
    rw [a1, a2, v1]
  have c2 := ct_at (vt (s.vars.length : Nat) ++ cat (s.vars.map Var.txt)) (cat (s.cells.map Cell.txt) ++ short s.out) s.cells.length 2000 h6 (by omega)
  rw [show vt (s.vars.length : Nat) ++ cat (s.vars.map Var.txt) ++ vt (s.cells.length : Nat) ++ (cat (s.cells.map Cell.txt) ++ short s.out) = T from by rw [e0]; simp only [app_assoc]] at c2
  have w1 := itC_at (vt (s.vars.length : Nat) ++ cat (s.vars.map Var.txt) ++ vt (s.cells.length : Nat)) (short s.out) s.cells zc s.cells.length (Nat.le_refl _)
  rw [show vt (s.vars.length : Nat) ++ cat (s.vars.map Var.txt) ++ vt (s.cells.length : Nat) ++ cat (s.cells.map Cell.txt) ++ short s.out = T from e0.symm, List.take_length] at w1
  have eC : iC T = (((vt (s.vars.length : Nat) ++ cat (s.vars.map Var.txt) ++ vt (s.cells.length : Nat) ++ cat (s.cells.map Cell.txt)).size, false), s.cells) := by
    rw [iC, eL]
    simp only
    have a1 := c2.2
    have a2 := c2.1
    rw [show ((2000 : Nat) : Int) = 2000 from rfl] at a1 a2
    rw [a1, a2, w1]
  have t1 := sh_at (vt (s.vars.length : Nat) ++ cat (s.vars.map Var.txt) ++ vt (s.cells.length : Nat) ++ cat (s.cells.map Cell.txt)) s.out ⟨#[]⟩ (by omega)
  rw [app_empty, ← e0] at t1
  have eS : iStore T = s := by rw [iStore, eL, eC]; simp only; rw [t1.1]
  refine ⟨?_, eS⟩
  rw [iOk, eS, eC]
  simp only
  rw [t1.2, ho]
  simp
theorem storeT_inj {a b : Store} (ha : storeOk a = true) (hb : storeOk b = true) (e : storeT a = storeT b) : a = b := by
  rw [← (read_back ha).2, ← (read_back hb).2, e]
end Go.Proofs.YtcggnolnakgkeaaDoor
namespace Go.Proofs.YtcggnolnakgkeaaDoor
open Go Go.Sim Go.Proofs
set_option linter.unusedSimpArgs false
set_option linter.unusedVariables false
set_option maxRecDepth 100000
set_option maxHeartbeats 1000000
def byV (n : Nat) : List Value := [.int .u8 (n : Nat)]
theorem byte_wf {n : Int} (h : (Lit.int .u8 n).wf = true) : 0 ≤ n ∧ n < 256 := by
  have e1 : IntKind.u8.min = 0 := by decide
  have e2 : IntKind.u8.max = 255 := by decide
  simp [Lit.wf, e1, e2] at h
  omega
theorem big_c (A : Option Addr) (n c : Nat) (h : AH) : CD Tryd.prog 5 [.slice A n c] h (.bool (decide ((1048576 : Int) < n))) h := by
  refine CD.quiet ?_ (low_bool _ _)
  refine CC.ofN Tryd.func5 Tryd.ntmps5 Tryd.results5 rfl (by decide) (by kernel_rfl) ?_
  simp (maxSteps := 1000000) -implicitDefEqProofs only [push_cast, seval]
  repeat' (first | with_reducible (first | exact Keep.refl _ _ | assumption | exact byte_lt _ _ | apply Keep.alloc | (refine Keep.set ?_ ?_; rotate_left; · omega) | apply Pre.alloc | apply Pre.set | exact Pre.refl _ | exact le_alloc _ | (refine Pre.keep ?_; assumption) | (refine Pre.n ?_; assumption)) | ((with_reducible (first | refine bcase_d (fun hb => ?_) (fun hb => ?_) | refine bcase_mk (fun hb => ?_) (fun hb => ?_))) <;> try simp (maxSteps := 1000000) -implicitDefEqProofs only [push_cast, seval]) | with_reducible refine And.intro ?_ ?_ | omega | (simp only [alloc_n, set_n, kill_n]; omega) | (exfalso; omega))
theorem l01New_c (A : Option Addr) (c : Nat) (l : List Nat) (h : AH) (hR : RdE h A 1 byV l) (big : Big h) (hl : ∀ n ∈ l, n < 256) (hn : l.length ≤ 1048576) :
    CC Tryd.prog 19 [.slice A l.length c] h (fun v h' => v = .pointer (some ⟨h.n, 0, none⟩) ∧ Dw h.n (.slice A l.length c) l h' ∧ Pre h h') := by
  refine CC.ofN Tryd.func19 Tryd.ntmps19 Tryd.results19 rfl (by decide) (by kernel_rfl) ?_
  simp (maxSteps := 1000000) -implicitDefEqProofs only [push_cast, seval]
  refine WC.loopA (by kernel_rfl) [3, 4] [8, 9, 10, 11, 12, 13, 14, 15, 16, 17, 18, 19, 20, 21, 22, 23, 24, 25, 26, 27] (fun a : Nat × Int => [.int .i64 a.2, .int .i64 (a.1 : Nat)]) (fun a h' => a.1 ≤ l.length ∧ h' = h) (fun a => l.length - a.1) (0, IntKind.i64.wrap (38001 + (l.length : Int))) (by kernel_rfl) ⟨Nat.zero_le _, rfl⟩ ?_
  intro a g h1 hJ
  have hi := hJ.1
  have hh := hJ.2
  clear hJ
  subst hh
  have fin : ∀ x : Int, Dw h1.n (.slice A l.length c) l (h1.alloc (.cells [.slice A l.length c, .int .i64 0, .int .i64 x] .solo h1.n)) := fun x =>
    ⟨⟨⟨A, c, rfl, fun i hi => by
      obtain ⟨id, off, e, hr⟩ := hR i hi
      have hlt := big.lt hr
      exact ⟨id, off, e, Nat.lt_of_lt_of_le hlt (le_alloc _), by omega, by rw [rd_alloc_lt _ hlt]; exact hr⟩⟩, hl, hn⟩, ⟨0, x, alloc_same _, Nat.zero_le _⟩, lt_alloc _⟩
  simp (maxSteps := 1000000) -implicitDefEqProofs only [push_cast, seval]
  with_reducible refine bcase_d (fun hb => ?_) (fun hb => ?_)
  · simp (maxSteps := 1000000) -implicitDefEqProofs only [push_cast, seval]
    with_reducible refine bcase_d (fun hb2 => ?_) (fun hb2 => ?_)
    · have hi' : a.1 < l.length := by omega
      with_reducible refine hR.use big (Pre.refl _) hi' (fun id off eA hlt hr => ?_)
      subst eA
      simp only [byV] at hr
      have r0 := rd_1 hr
      simp (maxSteps := 1000000) -implicitDefEqProofs only [push_cast, seval, hr, r0, hlt]
      refine And.intro (by omega) (And.intro (by omega) ?_)
      rw [wrapSucc (by omega)]
      refine ⟨(a.1 + 1, IntKind.i64.wrap (BitVec.ofInt IntKind.i64.bits (IntKind.i64.wrap (IntKind.i64.wrap (IntKind.i64.wrap (a.2 * 131) + IntKind.i64.wrap (l[a.1] : Nat)) + 7)) &&& BitVec.ofInt IntKind.i64.bits 1073741823).toNat), by kernel_rfl, by show a.1 + 1 ≤ l.length; omega, by show l.length - (a.1 + 1) < l.length - a.1; omega⟩
    · simp (maxSteps := 1000000) -implicitDefEqProofs only [push_cast, seval]
      exact ⟨fin _, (Pre.refl _).alloc _⟩
  · simp (maxSteps := 1000000) -implicitDefEqProofs only [push_cast, seval]
    exact ⟨fin _, (Pre.refl _).alloc _⟩
end Go.Proofs.YtcggnolnakgkeaaDoor
namespace Go.Proofs.YtcggnolnakgkeaaDoor
open Go Go.Sim Go.Proofs
set_option linter.unusedSimpArgs false
set_option linter.unusedVariables false
set_option maxRecDepth 100000
set_option maxHeartbeats 1000000
theorem OwnT.out {h0 h : AH} {vA vB : Value} {st : Store} (o : OwnT h0 h vA vB st) (u : ByteArray) : OwnT h0 h vA vB ⟨st.vars, st.cells, u⟩ := ⟨o.a, o.b, o.ne⟩
end Go.Proofs.YtcggnolnakgkeaaDoor
namespace Go.Proofs.YtcggnolnakgkeaaDoor
open Go Go.Sim Go.Proofs
set_option linter.unusedSimpArgs false
set_option linter.unusedVariables false
set_option maxRecDepth 100000
set_option maxHeartbeats 1000000
theorem StoreOk_i_t (s : Store) (vA vB : Value) (h : AH) (r : RdT h vA vB s) (zs : Sz s) : CD Tryd.prog 12 [.agg #[vA, vB, .string s.out]] h (.bool (storeOk s)) h := by
  obtain ⟨A, B, ca, cb, rfl, rfl, hs⟩ := r.rds
  exact StoreOk_i s A B ca cb h hs zs
theorem StoreOk_s_t (s : Store) (vA vB : Value) (h : AH) (r : RdT h vA vB s) (zs : Sz s) : CD Tryd.prog 8 [.agg #[vA, vB, .string s.out]] h (.bool (storeOk s)) h := by
  obtain ⟨A, B, ca, cb, rfl, rfl, hs⟩ := r.rds
  exact StoreOk_s s A B ca cb h hs zs
end Go.Proofs.YtcggnolnakgkeaaDoor
/- Stores that are put together: whichever two first, it is the same. Conditions: those that each theorem names. -/
set_option linter.unusedSimpArgs false
set_option linter.unusedVariables false
namespace Go.Sim
/-! ### numbers told, and read -/
theorem numL_app : ∀ (l r : List UInt8) (a : Nat), (∀ c ∈ l, figB c = true) → numL a (l ++ r) = numL (numL a l) r
  | [], r, a, _ => rfl
  | c :: l, r, a, h => by
    have hc := h c (by simp)
    rw [List.cons_append, numL, numL, if_pos hc, if_pos hc]
    exact numL_app l r _ (fun x hx => h x (by simp [hx]))
theorem fig_of {d : Nat} (h : d < 10) : figB (UInt8.ofNat (48 + d)) = true ∧ (UInt8.ofNat (48 + d)).toNat = 48 + d := by
  have e : (UInt8.ofNat (48 + d)).toNat = 48 + d := by simp; omega
  exact ⟨by simp only [figB, e, Bool.and_eq_true, decide_eq_true_eq]; omega, e⟩
theorem dec_figs (n : Nat) : ∀ c ∈ Lib.decDigits n, figB c = true := by
  induction n using Nat.strongRecOn with
  | _ n ih =>
    intro c hc
    rw [Lib.decDigits] at hc
    split at hc
    · rename_i h
      simp only [List.mem_singleton] at hc
      subst hc
      exact (fig_of h).1
    · rcases List.mem_append.1 hc with hc | hc
      · exact ih (n / 10) (by omega) c hc
      · simp only [List.mem_singleton] at hc
        subst hc
        exact (fig_of (Nat.mod_lt _ (by decide))).1
theorem numL_dec (n : Nat) (hn : n < 1000000) : numL 0 (Lib.decDigits n) = n := by
  induction n using Nat.strongRecOn with
  | _ n ih =>
    rw [Lib.decDigits]
    split
    · rename_i h
      rw [numL, if_pos (fig_of h).1, (fig_of h).2, numL]
      rw [Nat.mod_eq_of_lt (by omega)]; omega
    · rename_i h
      have hd : n % 10 < 10 := Nat.mod_lt _ (by decide)
      rw [numL_app _ _ _ (dec_figs _), ih (n / 10) (by omega) (by omega), numL, if_pos (fig_of hd).1, (fig_of hd).2, numL]
      rw [Nat.mod_eq_of_lt (by omega)]; omega
theorem trim_figs : ∀ {l : List UInt8}, (∀ c ∈ l, figB c = true) → Lib.trimLeftB l 32 = l
  | [], _ => rfl
  | c :: l, h => by
    have hc := h c (by simp)
    have : c ≠ 32 := fun e => by subst e; simp [figB] at hc
    simp [Lib.trimLeftB, this]
theorem numOf_dec {n : Nat} (hn : n < 1000000) : numOf (decB n) = n := by
  unfold numOf decB
  rw [List.toList_toArray, trim_figs (dec_figs n)]
  exact numL_dec n hn
theorem numOf_addT (a b : ByteArray) : numOf (addT a b) = (numOf a + numOf b) % 1000000 := numOf_dec (Nat.mod_lt _ (by decide))
theorem numOf_none : numOf ⟨#[]⟩ = 0 := by decide
theorem addT_assoc (a b c : ByteArray) : addT (addT a b) c = addT a (addT b c) := by
  unfold addT
  rw [show numOf (decB ((numOf a + numOf b) % 1000000)) = _ from numOf_addT a b, show numOf (decB ((numOf b + numOf c) % 1000000)) = _ from numOf_addT b c]
  congr 1
  omega
theorem addT_none (a b : ByteArray) : addT a (addT ⟨#[]⟩ b) = addT a b := by
  unfold addT
  rw [show numOf (decB ((numOf ⟨#[]⟩ + numOf b) % 1000000)) = _ from numOf_addT ⟨#[]⟩ b, numOf_none]
  congr 1
  omega
theorem cutB_addT (a b : ByteArray) : cutB (addT a b) = addT a b := by
  have := addT_size a b
  unfold cutB
  rw [if_neg (by omega)]
/-! ### lists in order -/
structure Kd (α K : Type) where
  key : α → K
  val : α → ByteArray
  mkk : K → ByteArray → α
  lt : K → K → Bool
  kmk : ∀ k v, key (mkk k v) = k
  vmk : ∀ k v, val (mkk k v) = v
  irr : ∀ a, lt a a = false
  tr : ∀ a b c, lt a b = true → lt b c = true → lt a c = true
  tri : ∀ a b, lt a b = false → lt b a = false → a = b
  ext : ∀ a b, key a = key b → val a = val b → a = b
theorem Kd.ne_of_lt {α K : Type} (D : Kd α K) {a b : K} (h : D.lt a b = true) : b ≠ a := fun e => by rw [e, D.irr] at h; cases h
section
variable {α K : Type} [DecidableEq K] (D : Kd α K)
def Kd.lk (k : K) : List α → Option ByteArray
  | [] => none
  | x :: r => if D.key x = k then some (D.val x) else Kd.lk k r
theorem Kd.lk_cons (k : K) (x : α) (r : List α) : D.lk k (x :: r) = if D.key x = k then some (D.val x) else D.lk k r := rfl
theorem Kd.lk_nil (k : K) : D.lk k [] = none := rfl
def Kd.ins (l : List α) (y : α) : List α := l.filter (fun x => D.lt (D.key x) (D.key y)) ++ [y] ++ l.filter (fun x => D.lt (D.key y) (D.key x))
def Kd.srt (l : List α) : Prop := l.Pairwise fun a b => D.lt (D.key a) (D.key b) = true
def Kd.step (l : List α) (x : α) : List α := D.ins l (D.mkk (D.key x) (addT ((D.lk (D.key x) l).getD ⟨#[]⟩) (D.val x)))
def Kd.mrg (s l : List α) : List α := l.foldl D.step s
theorem Kd.lk_app (k : K) : ∀ a b : List α, D.lk k (a ++ b) = (D.lk k a).or (D.lk k b)
  | [], b => rfl
  | x :: a, b => by
    rw [List.cons_append, D.lk_cons, D.lk_cons, Kd.lk_app k a b]
    split <;> rfl
theorem Kd.lk_filter (k : K) (p : α → Bool) (c : Bool) (h : ∀ x, D.key x = k → p x = c) : ∀ l : List α, D.lk k (l.filter p) = if c = true then D.lk k l else none
  | [] => by cases c <;> rfl
  | x :: r => by
    have ih := Kd.lk_filter k p c h r
    by_cases e : D.key x = k
    · have hp := h x e
      cases c with
      | true => rw [List.filter_cons_of_pos hp]; simp [D.lk_cons, e]
      | false => rw [List.filter_cons_of_neg (by rw [hp]; decide), ih]; rfl
    · cases hp : p x with
      | true => rw [List.filter_cons_of_pos hp, D.lk_cons, D.lk_cons, if_neg e, if_neg e]; exact ih
      | false => rw [List.filter_cons_of_neg (by rw [hp]; decide), D.lk_cons, if_neg e]; exact ih
theorem Kd.lk_ins (l : List α) (y : α) (k : K) : D.lk k (D.ins l y) = if k = D.key y then some (D.val y) else D.lk k l := by
  unfold Kd.ins
  rw [D.lk_app, D.lk_app]
  by_cases e : k = D.key y
  · rw [if_pos e, D.lk_filter k _ false (fun x hx => by rw [hx, e]; exact D.irr _), D.lk_cons, if_pos e.symm]; rfl
  · rw [if_neg e]
    have hy : D.lk k [y] = none := by rw [D.lk_cons, if_neg (fun x => e x.symm), D.lk_nil]
    rw [hy, D.lk_filter k _ (D.lt k (D.key y)) (fun x hx => by rw [hx]), D.lk_filter k _ (D.lt (D.key y) k) (fun x hx => by rw [hx])]
    cases h1 : D.lt k (D.key y) with
    | true =>
      have h2 : D.lt (D.key y) k = false := by
        cases h2 : D.lt (D.key y) k with
        | false => rfl
        | true => have := D.tr _ _ _ h1 h2; rw [D.irr] at this; cases this
      rw [h2]
      simp
    | false =>
      cases h2 : D.lt (D.key y) k with
      | true => simp
      | false => exact absurd (D.tri _ _ h1 h2) e
theorem Kd.lk_none {k : K} : ∀ {l : List α}, (∀ x ∈ l, D.key x ≠ k) → D.lk k l = none
  | [], _ => rfl
  | x :: r, h => by
    rw [D.lk_cons, if_neg (h x (List.mem_cons_self ..))]
    exact Kd.lk_none (l := r) (fun y hy => h y (List.mem_cons_of_mem _ hy))
theorem Kd.srt_eq : ∀ {l m : List α}, D.srt l → D.srt m → (∀ k, D.lk k l = D.lk k m) → l = m
  | [], [], _, _, _ => rfl
  | [], y :: q, _, _, h => by have := h (D.key y); rw [D.lk_nil, D.lk_cons, if_pos rfl] at this; cases this
  | x :: r, [], _, _, h => by have := h (D.key x); rw [D.lk_cons, if_pos rfl, D.lk_nil] at this; cases this
  | x :: r, y :: q, hl, hm, h => by
    have hl' := List.pairwise_cons.1 hl
    have hm' := List.pairwise_cons.1 hm
    have hx := h (D.key x)
    have hy := h (D.key y)
    have n1 : D.lt (D.key x) (D.key y) = false := by
      cases e : D.lt (D.key x) (D.key y) with
      | false => rfl
      | true =>
        rw [D.lk_cons, if_pos rfl, D.lk_none (l := y :: q) (fun z hz => by
          rcases List.mem_cons.1 hz with rfl | hz
          · exact D.ne_of_lt e
          · exact D.ne_of_lt (D.tr _ _ _ e (hm'.1 z hz)))] at hx
        cases hx
    have n2 : D.lt (D.key y) (D.key x) = false := by
      cases e : D.lt (D.key y) (D.key x) with
      | false => rfl
      | true =>
        rw [D.lk_none (l := x :: r) (fun z hz => by
          rcases List.mem_cons.1 hz with rfl | hz
          · exact D.ne_of_lt e
          · exact D.ne_of_lt (D.tr _ _ _ e (hl'.1 z hz))), D.lk_cons, if_pos rfl] at hy
        cases hy
    have ek := D.tri _ _ n1 n2
    rw [D.lk_cons, if_pos rfl, D.lk_cons, if_pos ek.symm] at hx
    have exy := D.ext x y ek (Option.some.inj hx)
    subst exy
    congr 1
    refine Kd.srt_eq hl'.2 hm'.2 (fun k => ?_)
    by_cases e : D.key x = k
    · rw [← e, D.lk_none (fun z hz => D.ne_of_lt (hl'.1 z hz)), D.lk_none (fun z hz => D.ne_of_lt (hm'.1 z hz))]
    · have := h k
      rw [D.lk_cons, if_neg e, D.lk_cons, if_neg e] at this
      exact this
theorem Kd.srt_step {l : List α} (h : D.srt l) (x : α) : D.srt (D.step l x) :=
  srt_new (R := fun a b => D.lt (D.key a) (D.key b) = true) (fun a b c => D.tr _ _ _) h _ _ _ (fun x hx => hx) (fun x hx => hx)
theorem Kd.srt_mrg (l : List α) : ∀ {s : List α}, D.srt s → D.srt (D.mrg s l) := by
  induction l with
  | nil => intro s h; exact h
  | cons x r ih => intro s h; exact ih (D.srt_step h x)
theorem Kd.lk_mrg : ∀ {l : List α}, D.srt l → ∀ (s : List α) (k : K), D.lk k (D.mrg s l) = match D.lk k l with | some w => some (addT ((D.lk k s).getD ⟨#[]⟩) w) | none => D.lk k s
  | [], _, s, k => rfl
  | y :: r, h, s, k => by
    have h' := List.pairwise_cons.1 h
    have ih := Kd.lk_mrg h'.2 (D.step s y) k
    have e1 : D.mrg s (y :: r) = D.mrg (D.step s y) r := rfl
    have e2 : D.lk k (D.step s y) = if k = D.key y then some (addT ((D.lk (D.key y) s).getD ⟨#[]⟩) (D.val y)) else D.lk k s := by
      unfold Kd.step
      rw [D.lk_ins, D.kmk, D.vmk]
    rw [e1, ih, D.lk_cons]
    by_cases e : D.key y = k
    · subst e
      rw [if_pos rfl, D.lk_none (l := r) (fun z hz => D.ne_of_lt (h'.1 z hz)), e2, if_pos rfl]
    · rw [if_neg e, e2, if_neg (fun x => e x.symm)]
theorem Kd.assoc {a x y : List α} (ha : D.srt a) (hx : D.srt x) (hy : D.srt y) : D.mrg (D.mrg a x) y = D.mrg a (D.mrg (D.mrg [] x) y) := by
  have s0 : D.srt ([] : List α) := List.Pairwise.nil
  have s1 := D.srt_mrg y (D.srt_mrg x s0)
  refine D.srt_eq (D.srt_mrg _ (D.srt_mrg _ ha)) (D.srt_mrg _ ha) (fun k => ?_)
  have n : D.lk k ([] : List α) = none := rfl
  rw [D.lk_mrg hy, D.lk_mrg hx, D.lk_mrg s1, D.lk_mrg hy, D.lk_mrg hx, n]
  cases h1 : D.lk k x with
  | none =>
    cases h2 : D.lk k y with
    | none => rfl
    | some w => simp [addT_none]
  | some u =>
    cases h2 : D.lk k y with
    | none => simp [addT_none]
    | some w =>
      simp only [Option.getD_some, Option.getD_none]
      rw [addT_assoc, addT_assoc, addT_none]
theorem Kd.step_len (l : List α) (x : α) : (D.step l x).length ≤ l.length + 1 := by
  have two : ∀ (p q : α → Bool), (∀ x, p x = true → q x = true → False) → ∀ l : List α, (l.filter p).length + (l.filter q).length ≤ l.length := by
    intro p q h l
    induction l with
    | nil => simp
    | cons z r ih =>
      cases hp : p z <;> cases hq : q z <;> simp [List.filter, hp, hq] <;> first | omega | exact (h z hp hq).elim
  have := two (fun z => D.lt (D.key z) (D.key (D.mkk (D.key x) (addT ((D.lk (D.key x) l).getD ⟨#[]⟩) (D.val x))))) (fun z => D.lt (D.key (D.mkk (D.key x) (addT ((D.lk (D.key x) l).getD ⟨#[]⟩) (D.val x)))) (D.key z)) (fun z h1 h2 => by
    have := D.tr _ _ _ h1 h2
    rw [D.irr] at this; cases this) l
  simp only [Kd.step, Kd.ins, List.length_append, List.length_cons, List.length_nil]; omega
theorem Kd.mrg_len (l : List α) : ∀ s : List α, (D.mrg s l).length ≤ s.length + l.length := by
  induction l with
  | nil => intro s; exact Nat.le_refl _
  | cons x r ih =>
    intro s
    have h1 := ih (D.step s x)
    have h2 := D.step_len s x
    have : D.mrg s (x :: r) = D.mrg (D.step s x) r := rfl
    rw [this]
    simp only [List.length_cons]
    omega
end
theorem ltB_tri (a b : ByteArray) (h1 : ltB a b = false) (h2 : ltB b a = false) : a = b := by
  have := gtB a b
  rw [show Op.bytesLess a.toList b.toList = false from h1, Bool.false_or, h2] at this
  simpa using this
def kdV : Kd Var ByteArray where
  key := Var.name
  val := Var.val
  mkk := fun k v => ⟨k, v⟩
  lt := ltB
  kmk := fun _ _ => rfl
  vmk := fun _ _ => rfl
  irr := ltB_irr
  tr := fun a b c => ltB_trans
  tri := ltB_tri
  ext := fun a b h1 h2 => by cases a; cases b; simp_all
def cellK (k : ByteArray × ByteArray) (v : ByteArray) : Cell := ⟨k.1, k.2, v⟩
theorem cellCmp_tri (a b : Cell) (h1 : ¬ cellCmp a b < 0) (h2 : ¬ cellCmp b a < 0) : a.name = b.name ∧ a.key = b.key := by
  have k : ∀ x y : Cell, cellCmp x y < 0 ↔ (ltB x.name y.name = true ∨ x.name = y.name ∧ ltB x.key y.key = true) := fun x y => by
    have := cellCmp_lt x y
    rw [show (cellCmp x y < 0) = (decide (cellCmp x y < 0) = true) from by simp, this]
    simp
  rw [k] at h1 h2
  have e : a.name = b.name := ltB_tri _ _ (by cases h : ltB a.name b.name <;> simp_all) (by cases h : ltB b.name a.name <;> simp_all)
  refine ⟨e, ltB_tri _ _ ?_ ?_⟩
  · cases h : ltB a.key b.key with
    | false => rfl
    | true => exact (h1 (.inr ⟨e, h⟩)).elim
  · cases h : ltB b.key a.key with
    | false => rfl
    | true => exact (h2 (.inr ⟨e.symm, h⟩)).elim
def kdC : Kd Cell (ByteArray × ByteArray) where
  key := fun x => (x.name, x.key)
  val := Cell.val
  mkk := cellK
  lt := fun a b => decide (cellCmp (cellK a ⟨#[]⟩) (cellK b ⟨#[]⟩) < 0)
  kmk := fun _ _ => rfl
  vmk := fun _ _ => rfl
  irr := fun a => decide_eq_false (cLess_irr _)
  tr := fun a b c h1 h2 => decide_eq_true (cLess_trans (of_decide_eq_true h1) (of_decide_eq_true h2))
  tri := fun a b h1 h2 => by
    have := cellCmp_tri _ _ (of_decide_eq_false h1) (of_decide_eq_false h2)
    exact Prod.ext this.1 this.2
  ext := fun a b h1 h2 => by cases a; cases b; simp_all
theorem varIn_lk (n : ByteArray) : ∀ l : List Var, varIn n l = (kdV.lk n l).getD ⟨#[]⟩
  | [] => rfl
  | x :: r => by
    rw [varIn, kdV.lk_cons]
    show _ = (if x.name = n then some x.val else kdV.lk n r).getD _
    split
    · rfl
    · exact varIn_lk n r
theorem cellIn_lk (n k : ByteArray) : ∀ l : List Cell, cellIn n k l = (kdC.lk (n, k) l).getD ⟨#[]⟩
  | [] => rfl
  | x :: r => by
    rw [cellIn, kdC.lk_cons]
    show _ = (if (x.name, x.key) = (n, k) then some x.val else kdC.lk (n, k) r).getD _
    by_cases e : x.name = n ∧ x.key = k
    · rw [if_pos e, if_pos (Prod.ext e.1 e.2)]; rfl
    · rw [if_neg e, if_neg (fun h => e (by simpa using h))]; exact cellIn_lk n k r
theorem stepV_eq (s : Store) (x : Var) (h : s.vars.length + 1 ≤ 60) : stepV s x = ⟨kdV.step s.vars x, s.cells, s.out⟩ := by
  have e : newV s.vars x.name (addT (varIn x.name s.vars) x.val) = kdV.step s.vars x := by
    unfold newV Kd.step Kd.ins
    rw [cutB_addT, varIn_lk]
    rfl
  unfold stepV setV
  have := kdV.step_len s.vars x
  rw [e, if_pos (by omega)]
theorem mergeV_eq : ∀ (l : List Var) (s : Store), s.vars.length + l.length ≤ 60 → mergeV s l = ⟨kdV.mrg s.vars l, s.cells, s.out⟩
  | [], s, _ => rfl
  | x :: r, s, h => by
    simp only [List.length_cons] at h
    have h1 := kdV.step_len s.vars x
    show mergeV (stepV s x) r = _
    rw [stepV_eq s x (by omega), mergeV_eq r _ (by show (kdV.step s.vars x).length + r.length ≤ 60; omega)]
    rfl
theorem cutB_small {s : ByteArray} (h : s.size ≤ 40) : cutB s = s := by unfold cutB; rw [if_neg (by omega)]
theorem stepC_eq (s : Store) (x : Cell) (hk : x.key.size ≤ 40) (h : s.cells.length + 1 ≤ 2000) : stepC s x = ⟨s.vars, kdC.step s.cells x, s.out⟩ := by
  have e : newC s.cells (mkC x.name x.key (addT (cellIn x.name (cutB x.key) s.cells) x.val)) = kdC.step s.cells x := by
    unfold newC Kd.step Kd.ins mkC
    rw [cutB_addT, cutB_small hk, cellIn_lk]
    rfl
  unfold stepC setC
  have := kdC.step_len s.cells x
  rw [e, if_pos (by omega)]
theorem mergeC_eq : ∀ (l : List Cell) (s : Store), (∀ x ∈ l, x.key.size ≤ 40) → s.cells.length + l.length ≤ 2000 → mergeC s l = ⟨s.vars, kdC.mrg s.cells l, s.out⟩
  | [], s, _, _ => rfl
  | x :: r, s, hk, h => by
    simp only [List.length_cons] at h
    have h1 := kdC.step_len s.cells x
    show mergeC (stepC s x) r = _
    rw [stepC_eq s x (hk x (by simp)) (by omega), mergeC_eq r _ (fun y hy => hk y (by simp [hy])) (by show (kdC.step s.cells x).length + r.length ≤ 2000; omega)]
    rfl
theorem mergeD_eq (s d : Store) (hk : ∀ x ∈ d.cells, x.key.size ≤ 40) (hv : s.vars.length + d.vars.length ≤ 60) (hc : s.cells.length + d.cells.length ≤ 2000) :
    mergeD s d = ⟨kdV.mrg s.vars d.vars, kdC.mrg s.cells d.cells, outB (s.out ++ d.out)⟩ := by
  unfold mergeD
  rw [mergeV_eq _ _ hv, mergeC_eq _ ⟨kdV.mrg s.vars d.vars, s.cells, s.out⟩ hk hc]
theorem out_assoc (a b c : ByteArray) : outB (outB (a ++ b) ++ c) = outB (a ++ outB (outB (⟨#[]⟩ ++ b) ++ c)) := by
  have key : ∀ s : ByteArray, (outB s).data.toList = s.data.toList.take 3000 := fun s => by
    unfold outB
    split
    · simp [ByteArray.data_extract]
    · rename_i h
      rw [List.take_of_length_le]
      have : s.size = s.data.toList.length := by rw [Array.length_toList]; rfl
      omega
  apply ByteArray.ext
  apply Array.toList_inj.1
  have t1 : ∀ l c : List UInt8, (l.take 3000 ++ c).take 3000 = (l ++ c).take 3000 := fun l c => by
    rw [List.take_append, List.take_append, List.take_take, Nat.min_self, List.length_take]
    congr 1
    by_cases h : l.length ≤ 3000
    · rw [Nat.min_eq_right h]
    · rw [show 3000 - min 3000 l.length = 0 by omega, show 3000 - l.length = 0 by omega]
  have t2 : ∀ a m : List UInt8, (a ++ m.take 3000).take 3000 = (a ++ m).take 3000 := fun a m => by
    rw [List.take_append, List.take_append, List.take_take, Nat.min_eq_left (by omega)]
  rw [key, key]
  simp only [ByteArray.data_append, Array.toList_append, key]
  rw [t1, t2, ← t2 a.data.toList (List.take 3000 ([] ++ b.data.toList) ++ c.data.toList), t1, t2]
  simp
theorem mergeV_ok {l : List Var} : ∀ {s : Store}, storeOk s = true → (∀ x ∈ l, letters x.name = true) → storeOk (mergeV s l) = true := by
  induction l with
  | nil => intro s h _; exact h
  | cons x r ih => intro s h hx; exact ih (setV_ok h (hx x (by simp))) (fun y hy => hx y (by simp [hy]))
theorem mergeC_ok {l : List Cell} : ∀ {s : Store}, storeOk s = true → (∀ x ∈ l, letters x.name = true) → storeOk (mergeC s l) = true := by
  induction l with
  | nil => intro s h _; exact h
  | cons x r ih => intro s h hx; exact ih (setC_ok h (hx x (by simp))) (fun y hy => hx y (by simp [hy]))
theorem mergeD_ok {s d : Store} (hs : storeOk s = true) (hd : storeOk d = true) : storeOk (mergeD s d) = true := by
  rw [storeOk_iff] at hd
  have h := mergeC_ok (l := d.cells) (mergeV_ok (l := d.vars) hs (fun x hx => (hd.1 x hx).1)) (fun x hx => (hd.2.2.1 x hx).1)
  rw [storeOk_iff] at h ⊢
  obtain ⟨h1, h2, h3, h4, h5, h6, h7⟩ := h
  exact ⟨h1, h2, h3, h4, h5, h6, outB_size _⟩
def sto0 : Store := ⟨[], [], ⟨#[]⟩⟩
theorem merges_law {a x y : Store} (ha : storeOk a = true) (hx : storeOk x = true) (hy : storeOk y = true) (a1 : a.vars.length ≤ 8) (a2 : a.cells.length ≤ 8) (x1 : x.vars.length ≤ 40) (x2 : x.cells.length ≤ 9) (y1 : y.vars.length ≤ 8) (y2 : y.cells.length ≤ 8) :
    mergeD a (mergeD (mergeD sto0 x) y) = mergeD (mergeD a x) y ∧ storeOk (mergeD (mergeD a x) y) = true ∧ mergeD a sto0 = a := by
  have o := mergeD_ok (mergeD_ok ha hx) hy
  rw [storeOk_iff] at ha hx hy
  obtain ⟨ha1, ha2, ha3, ha4, ha5, ha6, ha7⟩ := ha
  obtain ⟨hx1, hx2, hx3, hx4, hx5, hx6, hx7⟩ := hx
  obtain ⟨hy1, hy2, hy3, hy4, hy5, hy6, hy7⟩ := hy
  have sV : ∀ l : List Var, l.Pairwise vR → kdV.srt l := fun l h => h
  have sC : ∀ l : List Cell, l.Pairwise cR → kdC.srt l := fun l h => h.imp (fun {p q} hpq => decide_eq_true (show cellCmp p q < 0 from hpq))
  have kx : ∀ z ∈ x.cells, z.key.size ≤ 40 := fun z hz => (hx3 z hz).2.1
  have ky : ∀ z ∈ y.cells, z.key.size ≤ 40 := fun z hz => (hy3 z hz).2.1
  have e1 := mergeD_eq a x kx (by omega) (by omega)
  have m1 := kdV.mrg_len x.vars a.vars
  have m2 := kdC.mrg_len x.cells a.cells
  have e2 := mergeD_eq (mergeD a x) y ky (by rw [e1]; show (kdV.mrg a.vars x.vars).length + _ ≤ 60; omega) (by rw [e1]; show (kdC.mrg a.cells x.cells).length + _ ≤ 2000; omega)
  have e3 := mergeD_eq sto0 x kx (by show 0 + _ ≤ 60; omega) (by show 0 + _ ≤ 2000; omega)
  have m3 : (kdV.mrg [] x.vars).length ≤ 0 + x.vars.length := kdV.mrg_len x.vars []
  have m4 : (kdC.mrg [] x.cells).length ≤ 0 + x.cells.length := kdC.mrg_len x.cells []
  have e4 := mergeD_eq (mergeD sto0 x) y ky (by rw [e3]; show (kdV.mrg [] x.vars).length + _ ≤ 60; omega) (by rw [e3]; show (kdC.mrg [] x.cells).length + _ ≤ 2000; omega)
  have o4 := mergeD_ok (mergeD_ok (s := sto0) (d := x) (by decide) (by rw [storeOk_iff]; exact ⟨hx1, hx2, hx3, hx4, hx5, hx6, hx7⟩)) (d := y) (by rw [storeOk_iff]; exact ⟨hy1, hy2, hy3, hy4, hy5, hy6, hy7⟩)
  rw [storeOk_iff] at o4
  have k4 : ∀ z ∈ (mergeD (mergeD sto0 x) y).cells, z.key.size ≤ 40 := fun z hz => (o4.2.2.1 z hz).2.1
  have m5 := kdV.mrg_len y.vars (kdV.mrg [] x.vars)
  have m6 := kdC.mrg_len y.cells (kdC.mrg [] x.cells)
  have e5 := mergeD_eq a (mergeD (mergeD sto0 x) y) k4
    (by rw [e4, e3]; show _ + (kdV.mrg (kdV.mrg [] x.vars) y.vars).length ≤ 60; omega) (by rw [e4, e3]; show _ + (kdC.mrg (kdC.mrg [] x.cells) y.cells).length ≤ 2000; omega)
  refine ⟨?_, o, ?_⟩
  · rw [e5, e2, e4, e3, e1]
    show (⟨kdV.mrg a.vars (kdV.mrg (kdV.mrg [] x.vars) y.vars), kdC.mrg a.cells (kdC.mrg (kdC.mrg [] x.cells) y.cells), outB (a.out ++ outB (outB (⟨#[]⟩ ++ x.out) ++ y.out))⟩ : Store) = ⟨kdV.mrg (kdV.mrg a.vars x.vars) y.vars, kdC.mrg (kdC.mrg a.cells x.cells) y.cells, outB (outB (a.out ++ x.out) ++ y.out)⟩
    rw [kdV.assoc (sV _ ha2) (sV _ hx2) (sV _ hy2), kdC.assoc (sC _ ha4) (sC _ hx4) (sC _ hy4), out_assoc a.out x.out y.out]
  · rw [mergeD_eq a sto0 (fun z hz => by cases hz) (by show _ + 0 ≤ 60; omega) (by show _ + 0 ≤ 2000; omega)]
    show (⟨a.vars, a.cells, outB (a.out ++ ⟨#[]⟩)⟩ : Store) = a
    rw [app_empty]
    have : outB a.out = a.out := by unfold outB; rw [if_neg (by omega)]
    rw [this]
end Go.Sim
