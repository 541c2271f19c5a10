/- Parts of the proof of the row: the ground, contracts of the functions that it reaches (U12, U13, SimRow2). Conditions: those that each theorem names. -/
import Derived.Test.YtcggnolnakgkeaaDoorB6
namespace Go.Proofs.YtcggnolnakgkeaaDoor
open Go Go.Sim Go.Proofs
set_option linter.unusedSimpArgs false
set_option linter.unusedVariables false
set_option maxRecDepth 100000
set_option maxHeartbeats 1000000
theorem DrawStore_b (A : Option Addr) (c : Nat) (l : List Nat) (h : AH) (hR : RdE h A 1 byV l) (hl : ∀ n ∈ l, n < 256) (hn : l.length ≤ 1048576) :
    CC Tryd.prog 6 [.slice A l.length c] h (fun v h' => ∃ vA vB st, v = .agg #[vA, vB, .string st.out] ∧ OkB 8 st ∧ OwnT h h' vA vB st ∧ Pre h h') := by
  refine CC.withBig (fun big => ?_)
  refine CC.ofN Tryd.func6 Tryd.ntmps6 Tryd.results6 rfl (by decide) (by kernel_rfl) ?_
  simp (maxSteps := 1000000) -implicitDefEqProofs only [push_cast, seval]
  have p0 := (Pre.refl h).alloc (AOb.cells [.slice none 0 0, .slice none 0 0, .string ⟨#[]⟩] .solo h.n)
  with_reducible refine CC.mono (l01New_c A c l _ (hR.pre big p0) (big.alloc _) hl hn) (fun v h1 hv => ?_)
  have e1 := hv.1
  have d1 : Dw (h.n + 1) (.slice A l.length c) l h1 := hv.2.1
  have p1 := hv.2.2
  clear hv
  subst e1
  have hn1 := p1.n
  simp (maxSteps := 1000000) -implicitDefEqProofs only [push_cast, seval]
  with_reducible refine CC.mono (l08Store_b _ _ _ _ d1) (fun v h2 hv => ?_)
  with_reducible refine Exists.elim hv (fun vA hv => ?_)
  with_reducible refine Exists.elim hv (fun vB hv => ?_)
  with_reducible refine Exists.elim hv (fun st hv => ?_)
  have e1 := hv.1
  have zs := hv.2.1
  have o2 := hv.2.2.1
  have d2 := hv.2.2.2
  clear hv
  subst e1
  have y1 := o2.one.1
  have y2 := o2.one.2
  have hn2 := d2.n
  have hn1' : h.n + 1 ≤ h1.n := hn1
  have hd := d1.lt
  have f2 : h2.ob h.n = _ := (d2.ob h.n (by omega) (by show h.n ≠ h.n + 1; omega)).trans ((p1.ob _ (Nat.lt_succ_self _)).trans (alloc_same _))
  have l2 : h.n < h2.n := by omega
  have q2 : Pre h h2 := ⟨by omega, fun i hi => (d2.ob i (by omega) (by show i ≠ h.n + 1; omega)).trans ((p0.trans p1).ob i hi)⟩
  simp (maxSteps := 1000000) -implicitDefEqProofs only [push_cast, seval, y1, y2, f2, rd_of f2, rd1_of f2, l2]
  refine ⟨vA, vB, st, rfl, zs, (o2.mono (by omega)).to (Nat.le_refl _) (fun i e => ?_), q2.set (Nat.le_refl _) _⟩
  have := o2.range e
  exact set_ne _ (by omega)
theorem DrawMergeDelta_b (A : Option Addr) (c : Nat) (l : List Nat) (h : AH) (hR : RdE h A 1 byV l) (hl : ∀ n ∈ l, n < 256) (hn : l.length ≤ 1048576) :
    CC Tryd.prog 7 [.slice A l.length c] h (fun v h' => ∃ vA vB wA wB s t, v = .tuple #[.agg #[vA, vB, .string s.out], .agg #[wA, wB, .string t.out]] ∧ SzN s ∧ OkB 8 t ∧ OwnT h h' vA vB s ∧ OwnT h h' wA wB t ∧ Pre h h') := by
  refine CC.withBig (fun big => ?_)
  refine CC.ofN Tryd.func7 Tryd.ntmps7 Tryd.results7 rfl (by decide) (by kernel_rfl) ?_
  simp (maxSteps := 1000000) -implicitDefEqProofs only [push_cast, seval]
  have p0 := ((Pre.refl h).alloc (AOb.cells [.slice none 0 0, .slice none 0 0, .string ⟨#[]⟩] .solo h.n)).alloc (AOb.cells [.slice none 0 0, .slice none 0 0, .string ⟨#[]⟩] .solo (h.n + 1))
  with_reducible refine CC.mono (l01New_c A c l _ (hR.pre big p0) ((big.alloc _).alloc _) hl hn) (fun v h1 hv => ?_)
  have e1 := hv.1
  have d1 : Dw (h.n + 2) (.slice A l.length c) l h1 := hv.2.1
  have p1 := hv.2.2
  clear hv
  subst e1
  have hn1 : h.n + 2 ≤ h1.n := p1.n
  have hd := d1.lt
  have f0 : h1.ob h.n = AOb.cells [.slice none 0 0, .slice none 0 0, .string ⟨#[]⟩] .solo h.n := (p1.ob _ (by show h.n < h.n + 2; omega)).trans (by (try simp (maxSteps := 1000000) -implicitDefEqProofs only [push_cast, seval, rdOb]); try rfl)
  have f1 : h1.ob (h.n + 1) = AOb.cells [.slice none 0 0, .slice none 0 0, .string ⟨#[]⟩] .solo (h.n + 1) := (p1.ob _ (by show h.n + 1 < h.n + 2; omega)).trans (by (try simp (maxSteps := 1000000) -implicitDefEqProofs only [push_cast, seval, rdOb]); try rfl)
  simp (maxSteps := 1000000) -implicitDefEqProofs only [push_cast, seval]
  with_reducible refine CC.mono (l08Any_b _ _ _ _ d1) (fun v h2 hv => ?_)
  with_reducible refine Exists.elim hv (fun vA hv => ?_)
  with_reducible refine Exists.elim hv (fun vB hv => ?_)
  with_reducible refine Exists.elim hv (fun s hv => ?_)
  have e1 := hv.1
  have zs := hv.2.1
  have o2 := hv.2.2.1
  have d2 := hv.2.2.2
  clear hv
  subst e1
  have y1 := o2.one.1
  have y2 := o2.one.2
  have hn2 := d2.n
  have dw2 := d1.dn d2
  simp (maxSteps := 1000000) -implicitDefEqProofs only [push_cast, seval, y1, y2]
  generalize hH : ((h2.alloc (AOb.cells [.slice none 0 0, .slice none 0 0, .string ⟨#[]⟩] .solo h2.n)).set h2.n (AOb.cells [vA, vB, .string s.out] .solo h2.n)) = H3
  have q3 : Pre h2 H3 := by rw [← hH]; exact ((Pre.refl _).alloc _).set (Nat.le_refl _) _
  have k3 : H3.ob h2.n = AOb.cells [vA, vB, .string s.out] .solo h2.n := by rw [← hH]; exact set_same _ _
  have n3 : H3.n = h2.n + 1 := by rw [← hH]; rfl
  have dw3 : Dw (h.n + 2) (.slice A l.length c) l H3 := dw2.pre q3
  have l3 : h2.n < H3.n := by omega
  refine WC.drawT (by kernel_rfl) (by kernel_rfl) (.q 0 (.q 1 (.a 2 false (.a 3 true (.a 4 true (.done)))))) (by kernel_rfl) ?_
  simp (maxSteps := 1000000) -implicitDefEqProofs only [push_cast, seval, k3, rd_of k3, rd1_of k3, l3]
  with_reducible refine CC.mono (l08Store_b _ _ _ _ dw3) (fun v h4 hv => ?_)
  with_reducible refine Exists.elim hv (fun wA hv => ?_)
  with_reducible refine Exists.elim hv (fun wB hv => ?_)
  with_reducible refine Exists.elim hv (fun t hv => ?_)
  have e1 := hv.1
  have zt := hv.2.1
  have o4 := hv.2.2.1
  have d4 := hv.2.2.2
  clear hv
  subst e1
  have y3 := o4.one.1
  have y4 := o4.one.2
  have hn4 := d4.n
  have k4 : h4.ob h2.n = _ := (d4.ob h2.n l3 (by omega)).trans k3
  have l4 : h2.n < h4.n := by omega
  have g0 : h4.ob h.n = _ := (d4.ob h.n (by omega) (by omega)).trans ((q3.ob _ (by omega)).trans ((d2.ob h.n (by omega) (by omega)).trans f0))
  have g1 : h4.ob (h.n + 1) = _ := (d4.ob (h.n + 1) (by omega) (by omega)).trans ((q3.ob _ (by omega)).trans ((d2.ob (h.n + 1) (by omega) (by omega)).trans f1))
  have m0 : h.n < h4.n := by omega
  have m1 : h.n + 1 < h4.n := by omega
  have q4 : Pre h h4 := ⟨by omega, fun i hi => (d4.ob i (by omega) (by omega)).trans ((q3.ob i (by omega)).trans ((d2.ob i (by omega) (by omega)).trans ((p0.trans p1).ob i hi)))⟩
  simp (maxSteps := 1000000) -implicitDefEqProofs only [push_cast, seval, y1, y2, y3, y4, k3, rd_of k3, rd1_of k3, l3, k4, rd_of k4, rd1_of k4, l4, g0, rd_of g0, rd1_of g0, g1, rd_of g1, rd1_of g1, m0, m1]
  have rA := fun i e => o2.range (i := i) e
  have rB : ∀ i, atBlock wA i ∨ atBlock wB i → H3.n ≤ i ∧ i < h4.n := fun i e => o4.range e
  refine ⟨vA, vB, wA, wB, s, t, rfl, zs, zt, ?_, ?_, (q4.set (Nat.le_refl _) _).set (by omega) _⟩
  · have o3 := (o2.pre q3).keep hn4 (fun i e => d4.ob i (by have := rA i e; omega) (by have := rA i e; omega))
    refine (o3.mono (by omega)).to (Nat.le_refl _) (fun i e => ?_)
    have := rA i e
    rw [set_ne _ (by omega), set_ne _ (by omega)]
  · refine (o4.mono (by omega)).to (Nat.le_refl _) (fun i e => ?_)
    have := rB i e
    rw [set_ne _ (by omega), set_ne _ (by omega)]
end Go.Proofs.YtcggnolnakgkeaaDoor
namespace Go.Proofs.YtcggnolnakgkeaaDoor
open Go Go.Sim Go.Proofs
set_option linter.unusedSimpArgs false
set_option linter.unusedVariables false
set_option maxRecDepth 100000
set_option maxHeartbeats 2000000
theorem SameStore_r (s : Store) (vA vB wA wB : Value) (h : AH) (rs : RdT h vA vB s) (rt : RdT h wA wB s) (zs : Sz s) :
    CD Tryd.prog 9 [.agg #[vA, vB, .string s.out], .agg #[wA, wB, .string s.out]] h (.bool true) h := by
  have := SameStore_s s s vA vB wA wB h rs rt zs zs
  rwa [decide_eq_true (rfl : s = s)] at this
theorem SzB_mergeD {s d : Store} (zs : SzB s) (zd : SzB d) : SzB (mergeD s d) := by
  have z := (zs.mergeV (l := d.vars) (fun x hx => (zd.vars x hx).1)).mergeC (l := d.cells) (fun x hx => (zd.cells x hx).1)
  exact ⟨z.vars, z.cells, by have := outB_size (s.out ++ d.out); show (outB (s.out ++ d.out)).size ≤ _; omega, z.nv, z.nc⟩
theorem sto0_sz : SzB sto0 := SzB.zero
theorem MergeDelta_0 (d : Store) (wA wB : Value) (h : AH) (q : RdT h wA wB d) (zd : SzB d) (ht : Pow 3 h) (hg : 3 < h.n) :
    CC Tryd.prog 10 [.agg #[.slice none 0 0, .slice none 0 0, .string ⟨#[]⟩], .agg #[wA, wB, .string d.out]] h (fun v h' => ∃ rA rB, v = .agg #[rA, rB, .string (mergeD sto0 d).out] ∧ OwnT h h' rA rB (mergeD sto0 d) ∧ Pre h h') :=
  MergeDelta_i sto0 d (.slice none 0 0) (.slice none 0 0) wA wB h ⟨RdV.nil _ _ _ _, RdV.nil _ _ _ _⟩ q sto0_sz zd ht hg
theorem MergeDelta_z (s : Store) (vA vB : Value) (h : AH) (r : RdT h vA vB s) (zs : SzB s) (ht : Pow 3 h) (hg : 3 < h.n) :
    CC Tryd.prog 10 [.agg #[vA, vB, .string s.out], .agg #[.slice none 0 0, .slice none 0 0, .string ⟨#[]⟩]] h (fun v h' => ∃ rA rB, v = .agg #[rA, rB, .string (mergeD s sto0).out] ∧ OwnT h h' rA rB (mergeD s sto0) ∧ Pre h h') :=
  MergeDelta_i s sto0 vA vB (.slice none 0 0) (.slice none 0 0) h r ⟨RdV.nil _ _ _ _, RdV.nil _ _ _ _⟩ zs sto0_sz ht hg
theorem law_Merges (A : Option Addr) (c : Nat) (l : List Nat) (h : AH) (hR : RdE h A 1 byV l) (hl : ∀ n ∈ l, n < 256) (hn : l.length ≤ maxLen) (ht : Pow 3 h) (hg : 3 < h.n) : CE Tryd.prog 3 [.slice A l.length c] h fun v _ => v = .bool true := by
  refine CE.withBig (fun big => ?_)
  have hm := maxLen_eq
  refine CE.ofN Tryd.func3 Tryd.ntmps3 Tryd.results3 rfl (by kernel_rfl) ?_
  simp (maxSteps := 1000000) -implicitDefEqProofs only [push_cast, seval]
  repeat' (first | with_reducible (first | exact Keep.refl _ _ | assumption | exact byte_lt _ _ | apply Keep.alloc | (refine Keep.set ?_ ?_; rotate_left; · omega) | apply Pre.alloc | apply Pre.set | exact Pre.refl _ | exact le_alloc _ | (refine Pre.keep ?_; assumption) | (refine Pre.n ?_; assumption)) | ((with_reducible (first | refine CD.to (big_c _ _ _ _) ?_ | refine CQ.pure (fun _ => big_c _ _ _ _) ?_ | refine bcase_d (fun hb => ?_) (fun hb => ?_) | refine bcase_mk (fun hb => ?_) (fun hb => ?_))) <;> try simp (maxSteps := 1000000) -implicitDefEqProofs only [push_cast, seval]) | with_reducible refine And.intro ?_ ?_ | omega | (simp only [alloc_n, set_n, kill_n]; omega) | (exfalso; omega))
  have hn' : l.length ≤ 1048576 := by omega
  with_reducible refine CC.mono (DrawStore_b A c l _ hR hl hn') (fun v h1 hv => ?_)
  with_reducible refine Exists.elim hv (fun aA hv => ?_)
  with_reducible refine Exists.elim hv (fun aB hv => ?_)
  with_reducible refine Exists.elim hv (fun a hv => ?_)
  have e1 := hv.1
  have okA := hv.2.1
  have oA := hv.2.2.1
  have p1 := hv.2.2.2
  clear hv
  subst e1
  have ya1 := oA.one.1
  have ya2 := oA.one.2
  simp (maxSteps := 1000000) -implicitDefEqProofs only [push_cast, seval, ya1, ya2]
  generalize hH : ((h1.alloc (AOb.cells [.slice none 0 0, .slice none 0 0, .string ⟨#[]⟩] .solo h1.n)).set h1.n (AOb.cells [aA, aB, .string a.out] .solo h1.n)) = H1
  have q1 : Pre h1 H1 := by rw [← hH]; exact ((Pre.refl _).alloc _).set (Nat.le_refl _) _
  have k3 : H1.ob h1.n = AOb.cells [aA, aB, .string a.out] .solo h1.n := by rw [← hH]; exact set_same _ _
  have n1 : H1.n = h1.n + 1 := by rw [← hH]; rfl
  clear hH
  have P1 := p1.trans q1
  with_reducible refine CC.mono (DrawMergeDelta_b A c l _ (hR.pre big P1) hl hn') (fun v h2 hv => ?_)
  with_reducible refine Exists.elim hv (fun xA hv => ?_)
  with_reducible refine Exists.elim hv (fun xB hv => ?_)
  with_reducible refine Exists.elim hv (fun yA hv => ?_)
  with_reducible refine Exists.elim hv (fun yB hv => ?_)
  with_reducible refine Exists.elim hv (fun x hv => ?_)
  with_reducible refine Exists.elim hv (fun y hv => ?_)
  have e1 := hv.1
  have zX := hv.2.1
  have okY := hv.2.2.1
  have oX := hv.2.2.2.1
  have oY := hv.2.2.2.2.1
  have p2 := hv.2.2.2.2.2
  clear hv
  subst e1
  have yx1 := oX.one.1
  have yx2 := oX.one.2
  have yy1 := oY.one.1
  have yy2 := oY.one.2
  simp (maxSteps := 1000000) -implicitDefEqProofs only [push_cast, seval, yx1, yx2, yy1, yy2]
  have hxA := oX.rdt.vars.rde (fun _ => rfl)
  with_reducible refine Exists.elim hxA (fun XA hxA => ?_)
  with_reducible refine Exists.elim hxA (fun xc hxA => ?_)
  have e1 := hxA.1
  clear hxA
  subst e1
  generalize hH : ((((h2.alloc (AOb.cells [.slice none 0 0, .slice none 0 0, .string ⟨#[]⟩] .solo h2.n)).alloc (AOb.cells [.slice none 0 0, .slice none 0 0, .string ⟨#[]⟩] .solo (h2.n + 1))).set h2.n (AOb.cells [.slice XA x.vars.length xc, xB, .string x.out] .solo h2.n)).set (h2.n + 1) (AOb.cells [yA, yB, .string y.out] .solo (h2.n + 1))) = H2
  have q2 : Pre h2 H2 := by rw [← hH]; exact ((((Pre.refl _).alloc _).alloc _).set (Nat.le_refl _) _).set (by omega) _
  have k4 : H2.ob h2.n = AOb.cells [.slice XA x.vars.length xc, xB, .string x.out] .solo h2.n := by rw [← hH]; exact (set_ne _ (by omega)).trans (set_same _ _)
  have k5 : H2.ob (h2.n + 1) = AOb.cells [yA, yB, .string y.out] .solo (h2.n + 1) := by rw [← hH]; exact set_same _ _
  have n2 : H2.n = h2.n + 2 := by rw [← hH]; rfl
  clear hH
  have hp2 := p2.n
  have k3' : H2.ob h1.n = _ := ((p2.trans q2).ob _ (by omega)).trans k3
  have oA2 : OwnT h H2 aA aB a := (oA.pre q1).pre (p2.trans q2)
  have oX2 : OwnT H1 H2 (.slice XA x.vars.length xc) xB x := oX.pre q2
  have oY2 : OwnT H1 H2 yA yB y := oY.pre q2
  have P2 : Pre h H2 := P1.trans (p2.trans q2)
  have j3 : h1.n < H2.n := by omega
  have j4 : h2.n < H2.n := by omega
  have j5 : h2.n + 1 < H2.n := by omega
  have zA : SzB a := ok_szB okA.1
  have zY : SzB y := ok_szB okY.1
  have zx := zX.sz
  have hpn := (P1.trans p2).n
  clear oA oX oY k3 p1 q1 p2 q2
  with_reducible refine CD.to (StoreOk_s_t x _ _ _ oX2.rdt zx.sz) ?_
  have lOut : x.out.size < 4611686018427387904 := by have := zx.out; omega
  simp (maxSteps := 1000000) -implicitDefEqProofs only [push_cast, seval, k4, rd_of k4, rd1_of k4, k5, rd_of k5, rd1_of k5, k3', rd_of k3', rd1_of k3', j3, j4, j5]
  with_reducible refine bcase_mk (fun hb => ?_) (fun hb => ?_)
  rotate_left
  · simp (maxSteps := 1000000) -implicitDefEqProofs only [push_cast, seval, k4, rd_of k4, rd1_of k4, k5, rd_of k5, rd1_of k5, k3', rd_of k3', rd1_of k3', j3, j4, j5]
    refine WC.drawT (by kernel_rfl) (by kernel_rfl) (.q 0 (.q 1 (.q 3 (.q 4 (.a 2 false (.a 5 false (.a 6 true (.q 7 (.done))))))))) (by kernel_rfl) ?_
    simp (maxSteps := 1000000) -implicitDefEqProofs only [push_cast, seval, k4, rd_of k4, rd1_of k4, k5, rd_of k5, rd1_of k5, k3', rd_of k3', rd1_of k3', j3, j4, j5]
    with_reducible refine CC.mono (MergeDelta_i x y _ _ _ _ _ oX2.rdt oY2.rdt zx zY (Pow_pre P2 hg ht) (Nat.lt_of_lt_of_le hg P2.n)) (fun v u3 hv => ?_)
    with_reducible refine Exists.elim hv (fun rA hv => ?_)
    with_reducible refine Exists.elim hv (fun rB hv => ?_)
    have e1 := hv.1
    have o3 := hv.2.1
    have q3 := hv.2.2
    clear hv
    subst e1
    have k43 : u3.ob h2.n = _ := (q3.ob _ j4).trans k4
    have k53 : u3.ob (h2.n + 1) = _ := (q3.ob _ j5).trans k5
    have hq3 := q3.n
    have j43 : h2.n < u3.n := by omega
    have j53 : h2.n + 1 < u3.n := by omega
    have yr1 := o3.one.1
    have yr2 := o3.one.2
    simp (maxSteps := 1000000) -implicitDefEqProofs only [push_cast, seval, k4, rd_of k4, rd1_of k4, k5, rd_of k5, rd1_of k5, k3', rd_of k3', rd1_of k3', j3, j4, j5, k43, rd_of k43, rd1_of k43, k53, rd_of k53, rd1_of k53, j43, j53, yr1, yr2]
    with_reducible refine CC.mono (MergeDelta_s x y _ _ _ _ _ (oX2.rdt.pre q3) (oY2.rdt.pre q3) zx zY) (fun v u4 hv => ?_)
    with_reducible refine Exists.elim hv (fun sA hv => ?_)
    with_reducible refine Exists.elim hv (fun sB hv => ?_)
    have e1 := hv.1
    have o4 := hv.2.1
    have q4 := hv.2.2
    clear hv
    subst e1
    have k44 : u4.ob h2.n = _ := (q4.ob _ j43).trans k43
    have k54 : u4.ob (h2.n + 1) = _ := (q4.ob _ j53).trans k53
    have hq4 := q4.n
    have j44 : h2.n < u4.n := by omega
    have j54 : h2.n + 1 < u4.n := by omega
    have ys1 := o4.one.1
    have ys2 := o4.one.2
    simp (maxSteps := 1000000) -implicitDefEqProofs only [push_cast, seval, k4, rd_of k4, rd1_of k4, k5, rd_of k5, rd1_of k5, k3', rd_of k3', rd1_of k3', j3, j4, j5, k43, rd_of k43, rd1_of k43, k53, rd_of k53, rd1_of k53, j43, j53, yr1, yr2, k44, rd_of k44, rd1_of k44, k54, rd_of k54, rd1_of k54, j44, j54, ys1, ys2]
    with_reducible refine CD.to (SameStore_r (mergeD x y) _ _ _ _ _ (o3.rdt.pre q4) o4.rdt (SzB_mergeD zx zY).sz) ?_
    simp (maxSteps := 1000000) -implicitDefEqProofs only [push_cast, seval, k4, rd_of k4, rd1_of k4, k5, rd_of k5, rd1_of k5, k3', rd_of k3', rd1_of k3', j3, j4, j5, k43, rd_of k43, rd1_of k43, k53, rd_of k53, rd1_of k53, j43, j53, yr1, yr2, k44, rd_of k44, rd1_of k44, k54, rd_of k54, rd1_of k54, j44, j54, ys1, ys2]
  simp (maxSteps := 1000000) -implicitDefEqProofs only [push_cast, seval, k4, rd_of k4, rd1_of k4, k5, rd_of k5, rd1_of k5, k3', rd_of k3', rd1_of k3', j3, j4, j5]
  with_reducible refine bcase_d (fun hb1 => ?_) (fun hb1 => ?_)
  · simp (maxSteps := 1000000) -implicitDefEqProofs only [push_cast, seval, k4, rd_of k4, rd1_of k4, k5, rd_of k5, rd1_of k5, k3', rd_of k3', rd1_of k3', j3, j4, j5]
    refine WC.drawT (by kernel_rfl) (by kernel_rfl) (.q 0 (.q 1 (.q 3 (.q 4 (.a 2 false (.a 5 false (.a 6 true (.q 7 (.done))))))))) (by kernel_rfl) ?_
    simp (maxSteps := 1000000) -implicitDefEqProofs only [push_cast, seval, k4, rd_of k4, rd1_of k4, k5, rd_of k5, rd1_of k5, k3', rd_of k3', rd1_of k3', j3, j4, j5]
    with_reducible refine CC.mono (MergeDelta_i x y _ _ _ _ _ oX2.rdt oY2.rdt zx zY (Pow_pre P2 hg ht) (Nat.lt_of_lt_of_le hg P2.n)) (fun v u3 hv => ?_)
    with_reducible refine Exists.elim hv (fun rA hv => ?_)
    with_reducible refine Exists.elim hv (fun rB hv => ?_)
    have e1 := hv.1
    have o3 := hv.2.1
    have q3 := hv.2.2
    clear hv
    subst e1
    have k43 : u3.ob h2.n = _ := (q3.ob _ j4).trans k4
    have k53 : u3.ob (h2.n + 1) = _ := (q3.ob _ j5).trans k5
    have hq3 := q3.n
    have j43 : h2.n < u3.n := by omega
    have j53 : h2.n + 1 < u3.n := by omega
    have yr1 := o3.one.1
    have yr2 := o3.one.2
    simp (maxSteps := 1000000) -implicitDefEqProofs only [push_cast, seval, k4, rd_of k4, rd1_of k4, k5, rd_of k5, rd1_of k5, k3', rd_of k3', rd1_of k3', j3, j4, j5, k43, rd_of k43, rd1_of k43, k53, rd_of k53, rd1_of k53, j43, j53, yr1, yr2]
    with_reducible refine CC.mono (MergeDelta_s x y _ _ _ _ _ (oX2.rdt.pre q3) (oY2.rdt.pre q3) zx zY) (fun v u4 hv => ?_)
    with_reducible refine Exists.elim hv (fun sA hv => ?_)
    with_reducible refine Exists.elim hv (fun sB hv => ?_)
    have e1 := hv.1
    have o4 := hv.2.1
    have q4 := hv.2.2
    clear hv
    subst e1
    have k44 : u4.ob h2.n = _ := (q4.ob _ j43).trans k43
    have k54 : u4.ob (h2.n + 1) = _ := (q4.ob _ j53).trans k53
    have hq4 := q4.n
    have j44 : h2.n < u4.n := by omega
    have j54 : h2.n + 1 < u4.n := by omega
    have ys1 := o4.one.1
    have ys2 := o4.one.2
    simp (maxSteps := 1000000) -implicitDefEqProofs only [push_cast, seval, k4, rd_of k4, rd1_of k4, k5, rd_of k5, rd1_of k5, k3', rd_of k3', rd1_of k3', j3, j4, j5, k43, rd_of k43, rd1_of k43, k53, rd_of k53, rd1_of k53, j43, j53, yr1, yr2, k44, rd_of k44, rd1_of k44, k54, rd_of k54, rd1_of k54, j44, j54, ys1, ys2]
    with_reducible refine CD.to (SameStore_r (mergeD x y) _ _ _ _ _ (o3.rdt.pre q4) o4.rdt (SzB_mergeD zx zY).sz) ?_
    simp (maxSteps := 1000000) -implicitDefEqProofs only [push_cast, seval, k4, rd_of k4, rd1_of k4, k5, rd_of k5, rd1_of k5, k3', rd_of k3', rd1_of k3', j3, j4, j5, k43, rd_of k43, rd1_of k43, k53, rd_of k53, rd1_of k53, j43, j53, yr1, yr2, k44, rd_of k44, rd1_of k44, k54, rd_of k54, rd1_of k54, j44, j54, ys1, ys2]
  simp (maxSteps := 1000000) -implicitDefEqProofs only [push_cast, seval, k4, rd_of k4, rd1_of k4, k5, rd_of k5, rd1_of k5, k3', rd_of k3', rd1_of k3', j3, j4, j5]
  with_reducible refine bcase_d (fun hb2 => ?_) (fun hb2 => ?_)
  · simp (maxSteps := 1000000) -implicitDefEqProofs only [push_cast, seval, k4, rd_of k4, rd1_of k4, k5, rd_of k5, rd1_of k5, k3', rd_of k3', rd1_of k3', j3, j4, j5]
    refine WC.drawT (by kernel_rfl) (by kernel_rfl) (.q 0 (.q 1 (.q 3 (.q 4 (.a 2 false (.a 5 false (.a 6 true (.q 7 (.done))))))))) (by kernel_rfl) ?_
    simp (maxSteps := 1000000) -implicitDefEqProofs only [push_cast, seval, k4, rd_of k4, rd1_of k4, k5, rd_of k5, rd1_of k5, k3', rd_of k3', rd1_of k3', j3, j4, j5]
    with_reducible refine CC.mono (MergeDelta_i x y _ _ _ _ _ oX2.rdt oY2.rdt zx zY (Pow_pre P2 hg ht) (Nat.lt_of_lt_of_le hg P2.n)) (fun v u3 hv => ?_)
    with_reducible refine Exists.elim hv (fun rA hv => ?_)
    with_reducible refine Exists.elim hv (fun rB hv => ?_)
    have e1 := hv.1
    have o3 := hv.2.1
    have q3 := hv.2.2
    clear hv
    subst e1
    have k43 : u3.ob h2.n = _ := (q3.ob _ j4).trans k4
    have k53 : u3.ob (h2.n + 1) = _ := (q3.ob _ j5).trans k5
    have hq3 := q3.n
    have j43 : h2.n < u3.n := by omega
    have j53 : h2.n + 1 < u3.n := by omega
    have yr1 := o3.one.1
    have yr2 := o3.one.2
    simp (maxSteps := 1000000) -implicitDefEqProofs only [push_cast, seval, k4, rd_of k4, rd1_of k4, k5, rd_of k5, rd1_of k5, k3', rd_of k3', rd1_of k3', j3, j4, j5, k43, rd_of k43, rd1_of k43, k53, rd_of k53, rd1_of k53, j43, j53, yr1, yr2]
    with_reducible refine CC.mono (MergeDelta_s x y _ _ _ _ _ (oX2.rdt.pre q3) (oY2.rdt.pre q3) zx zY) (fun v u4 hv => ?_)
    with_reducible refine Exists.elim hv (fun sA hv => ?_)
    with_reducible refine Exists.elim hv (fun sB hv => ?_)
    have e1 := hv.1
    have o4 := hv.2.1
    have q4 := hv.2.2
    clear hv
    subst e1
    have k44 : u4.ob h2.n = _ := (q4.ob _ j43).trans k43
    have k54 : u4.ob (h2.n + 1) = _ := (q4.ob _ j53).trans k53
    have hq4 := q4.n
    have j44 : h2.n < u4.n := by omega
    have j54 : h2.n + 1 < u4.n := by omega
    have ys1 := o4.one.1
    have ys2 := o4.one.2
    simp (maxSteps := 1000000) -implicitDefEqProofs only [push_cast, seval, k4, rd_of k4, rd1_of k4, k5, rd_of k5, rd1_of k5, k3', rd_of k3', rd1_of k3', j3, j4, j5, k43, rd_of k43, rd1_of k43, k53, rd_of k53, rd1_of k53, j43, j53, yr1, yr2, k44, rd_of k44, rd1_of k44, k54, rd_of k54, rd1_of k54, j44, j54, ys1, ys2]
    with_reducible refine CD.to (SameStore_r (mergeD x y) _ _ _ _ _ (o3.rdt.pre q4) o4.rdt (SzB_mergeD zx zY).sz) ?_
    simp (maxSteps := 1000000) -implicitDefEqProofs only [push_cast, seval, k4, rd_of k4, rd1_of k4, k5, rd_of k5, rd1_of k5, k3', rd_of k3', rd1_of k3', j3, j4, j5, k43, rd_of k43, rd1_of k43, k53, rd_of k53, rd1_of k53, j43, j53, yr1, yr2, k44, rd_of k44, rd1_of k44, k54, rd_of k54, rd1_of k54, j44, j54, ys1, ys2]
  simp (maxSteps := 1000000) -implicitDefEqProofs only [push_cast, seval, k4, rd_of k4, rd1_of k4, k5, rd_of k5, rd1_of k5, k3', rd_of k3', rd1_of k3', j3, j4, j5]
  refine WC.cutA [6] [39, 40, 41, 42, 43] (fun b : Nat × Value × Value => [.pointer (some ⟨b.1, 0, none⟩)]) (fun b h' => h'.ob b.1 = AOb.cells [b.2.1, b.2.2, .string (mergeD (mergeD a x) y).out] .solo b.1 ∧ OwnT H2 h' b.2.1 b.2.2 (mergeD (mergeD a x) y) ∧ (∀ j, atBlock b.2.1 j ∨ atBlock b.2.2 j → j ≠ b.1) ∧ Pre H2 h' ∧ H2.n ≤ b.1 ∧ b.1 < h'.n) ?_ ?_
  · refine WC.drawT (by kernel_rfl) (by kernel_rfl) (.q 0 (.q 1 (.q 3 (.b 2 (.b 4 (.a 5 false (.a 6 true (.done))) 5 (.a 4 true (.a 6 true (.done)))) 5 (.a 2 false (.a 4 true (.a 6 true (.done)))))))) (by kernel_rfl) ?_
    simp (maxSteps := 1000000) -implicitDefEqProofs only [push_cast, seval, k4, rd_of k4, rd1_of k4, k5, rd_of k5, rd1_of k5, k3', rd_of k3', rd1_of k3', j3, j4, j5]
    refine And.intro ?_ ?_
    · with_reducible refine CC.mono (MergeDelta_i a x _ _ _ _ _ (oA2.rdt.pre (Pre.refl H2)) (oX2.rdt.pre (Pre.refl H2)) zA zx (Pow_pre (P2.trans (Pre.refl H2)) hg ht) (Nat.lt_of_lt_of_le hg (P2.trans (Pre.refl H2)).n)) (fun v Lu1 hv => ?_)
      with_reducible refine Exists.elim hv (fun rA hv => ?_)
      with_reducible refine Exists.elim hv (fun rB hv => ?_)
      have e1 := hv.1
      have oLu1 := hv.2.1
      have qLu1 := hv.2.2
      clear hv
      subst e1
      have PLu1 : Pre H2 Lu1 := (Pre.refl H2).trans qLu1
      have nLu1 := PLu1.n
      have mLu1 := qLu1.n
      have K0Lu1 : Lu1.ob h1.n = _ := (PLu1.ob _ j3).trans k3'
      have J0Lu1 : h1.n < Lu1.n := Nat.lt_of_lt_of_le j3 nLu1
      have K1Lu1 : Lu1.ob h2.n = _ := (PLu1.ob _ j4).trans k4
      have J1Lu1 : h2.n < Lu1.n := Nat.lt_of_lt_of_le j4 nLu1
      have K2Lu1 : Lu1.ob (h2.n + 1) = _ := (PLu1.ob _ j5).trans k5
      have J2Lu1 : (h2.n + 1) < Lu1.n := Nat.lt_of_lt_of_le j5 nLu1
      have yaLu1 := oLu1.one.1
      have ybLu1 := oLu1.one.2
      simp (maxSteps := 1000000) -implicitDefEqProofs only [push_cast, seval, k3', rd_of k3', rd1_of k3', j3, k4, rd_of k4, rd1_of k4, j4, k5, rd_of k5, rd1_of k5, j5, K0Lu1, rd_of K0Lu1, rd1_of K0Lu1, J0Lu1, K1Lu1, rd_of K1Lu1, rd1_of K1Lu1, J1Lu1, K2Lu1, rd_of K2Lu1, rd1_of K2Lu1, J2Lu1, yaLu1, ybLu1]
      refine And.intro ?_ ?_
      · with_reducible refine CC.mono (MergeDelta_i (mergeD a x) y _ _ _ _ _ (oLu1.rdt.pre (Pre.refl Lu1)) (oY2.rdt.pre PLu1) (SzB_mergeD zA zx) zY (Pow_pre (P2.trans PLu1) hg ht) (Nat.lt_of_lt_of_le hg (P2.trans PLu1).n)) (fun v Lu2 hv => ?_)
        with_reducible refine Exists.elim hv (fun tA hv => ?_)
        with_reducible refine Exists.elim hv (fun tB hv => ?_)
        have e1 := hv.1
        have oLu2 := hv.2.1
        have qLu2 := hv.2.2
        clear hv
        subst e1
        have PLu2 : Pre H2 Lu2 := PLu1.trans qLu2
        have nLu2 := PLu2.n
        have mLu2 := qLu2.n
        have K0Lu2 : Lu2.ob h1.n = _ := (PLu2.ob _ j3).trans k3'
        have J0Lu2 : h1.n < Lu2.n := Nat.lt_of_lt_of_le j3 nLu2
        have K1Lu2 : Lu2.ob h2.n = _ := (PLu2.ob _ j4).trans k4
        have J1Lu2 : h2.n < Lu2.n := Nat.lt_of_lt_of_le j4 nLu2
        have K2Lu2 : Lu2.ob (h2.n + 1) = _ := (PLu2.ob _ j5).trans k5
        have J2Lu2 : (h2.n + 1) < Lu2.n := Nat.lt_of_lt_of_le j5 nLu2
        have yaLu2 := oLu2.one.1
        have ybLu2 := oLu2.one.2
        simp (maxSteps := 1000000) -implicitDefEqProofs only [push_cast, seval, k3', rd_of k3', rd1_of k3', j3, k4, rd_of k4, rd1_of k4, j4, k5, rd_of k5, rd1_of k5, j5, K0Lu1, rd_of K0Lu1, rd1_of K0Lu1, J0Lu1, K1Lu1, rd_of K1Lu1, rd1_of K1Lu1, J1Lu1, K2Lu1, rd_of K2Lu1, rd1_of K2Lu1, J2Lu1, yaLu1, ybLu1, K0Lu2, rd_of K0Lu2, rd1_of K0Lu2, J0Lu2, K1Lu2, rd_of K1Lu2, rd1_of K1Lu2, J1Lu2, K2Lu2, rd_of K2Lu2, rd1_of K2Lu2, J2Lu2, yaLu2, ybLu2]
        have hX : H2.n ≤ Lu2.n := nLu2
        have bX : ∀ j, atBlock tA j ∨ atBlock tB j → j ≠ Lu2.n := fun j e => by
          have := (oLu2.range e).2
          omega
        exact ⟨(Lu2.n, tA, tB), by kernel_rfl, ⟨set_same _ _, (oLu2.mono nLu1).to (Nat.le_succ _) (fun i e => (set_ne _ (bX i e)).trans (alloc_lt _ (oLu2.range e).2)), bX, (PLu2.alloc _).set hX _, hX, Nat.lt_succ_self _⟩⟩
      · with_reducible refine CC.mono (MergeDelta_i (mergeD a x) y _ _ _ _ _ (oLu1.rdt.pre ((Pre.refl Lu1).alloc _)) (oY2.rdt.pre (PLu1.alloc _)) (SzB_mergeD zA zx) zY (Pow_pre (P2.trans (PLu1.alloc _)) hg ht) (Nat.lt_of_lt_of_le hg (P2.trans (PLu1.alloc _)).n)) (fun v Lu2 hv => ?_)
        with_reducible refine Exists.elim hv (fun tA hv => ?_)
        with_reducible refine Exists.elim hv (fun tB hv => ?_)
        have e1 := hv.1
        have oLu2 := hv.2.1
        have qLu2 := hv.2.2
        clear hv
        subst e1
        have PLu2 : Pre H2 Lu2 := (PLu1.alloc _).trans qLu2
        have nLu2 := PLu2.n
        have mLu2 := qLu2.n
        have K0Lu2 : Lu2.ob h1.n = _ := (PLu2.ob _ j3).trans k3'
        have J0Lu2 : h1.n < Lu2.n := Nat.lt_of_lt_of_le j3 nLu2
        have K1Lu2 : Lu2.ob h2.n = _ := (PLu2.ob _ j4).trans k4
        have J1Lu2 : h2.n < Lu2.n := Nat.lt_of_lt_of_le j4 nLu2
        have K2Lu2 : Lu2.ob (h2.n + 1) = _ := (PLu2.ob _ j5).trans k5
        have J2Lu2 : (h2.n + 1) < Lu2.n := Nat.lt_of_lt_of_le j5 nLu2
        have yaLu2 := oLu2.one.1
        have ybLu2 := oLu2.one.2
        have GLu2 : Lu2.ob (Lu1.n) = AOb.cells [.slice none 0 0, .slice none 0 0, .string ⟨#[]⟩] .solo (Lu1.n) := (qLu2.ob _ (lt_alloc _)).trans (alloc_same _)
        have LGLu2 : Lu1.n < Lu2.n := Nat.lt_of_lt_of_le (lt_alloc _) qLu2.n
        simp (maxSteps := 1000000) -implicitDefEqProofs only [push_cast, seval, k3', rd_of k3', rd1_of k3', j3, k4, rd_of k4, rd1_of k4, j4, k5, rd_of k5, rd1_of k5, j5, K0Lu1, rd_of K0Lu1, rd1_of K0Lu1, J0Lu1, K1Lu1, rd_of K1Lu1, rd1_of K1Lu1, J1Lu1, K2Lu1, rd_of K2Lu1, rd1_of K2Lu1, J2Lu1, yaLu1, ybLu1, K0Lu2, rd_of K0Lu2, rd1_of K0Lu2, J0Lu2, K1Lu2, rd_of K1Lu2, rd1_of K1Lu2, J1Lu2, K2Lu2, rd_of K2Lu2, rd1_of K2Lu2, J2Lu2, yaLu2, ybLu2, GLu2, rd_of GLu2, rd1_of GLu2, LGLu2]
        have hX : H2.n ≤ Lu1.n := nLu1
        have bX : ∀ j, atBlock tA j ∨ atBlock tB j → j ≠ Lu1.n := fun j e => by
          have : Lu1.n + 1 ≤ j := (oLu2.range e).1
          omega
        exact ⟨(Lu1.n, tA, tB), by kernel_rfl, ⟨set_same _ _, (oLu2.mono (Nat.le_succ_of_le nLu1)).to (Nat.le_refl _) (fun i e => set_ne _ (bX i e)), bX, (PLu2).set hX _, hX, LGLu2⟩⟩
    · with_reducible refine CC.mono (MergeDelta_i a x _ _ _ _ _ (oA2.rdt.pre ((Pre.refl H2).alloc _)) (oX2.rdt.pre ((Pre.refl H2).alloc _)) zA zx (Pow_pre (P2.trans ((Pre.refl H2).alloc _)) hg ht) (Nat.lt_of_lt_of_le hg (P2.trans ((Pre.refl H2).alloc _)).n)) (fun v Lu1 hv => ?_)
      with_reducible refine Exists.elim hv (fun rA hv => ?_)
      with_reducible refine Exists.elim hv (fun rB hv => ?_)
      have e1 := hv.1
      have oLu1 := hv.2.1
      have qLu1 := hv.2.2
      clear hv
      subst e1
      have PLu1 : Pre H2 Lu1 := ((Pre.refl H2).alloc _).trans qLu1
      have nLu1 := PLu1.n
      have mLu1 := qLu1.n
      have K0Lu1 : Lu1.ob h1.n = _ := (PLu1.ob _ j3).trans k3'
      have J0Lu1 : h1.n < Lu1.n := Nat.lt_of_lt_of_le j3 nLu1
      have K1Lu1 : Lu1.ob h2.n = _ := (PLu1.ob _ j4).trans k4
      have J1Lu1 : h2.n < Lu1.n := Nat.lt_of_lt_of_le j4 nLu1
      have K2Lu1 : Lu1.ob (h2.n + 1) = _ := (PLu1.ob _ j5).trans k5
      have J2Lu1 : (h2.n + 1) < Lu1.n := Nat.lt_of_lt_of_le j5 nLu1
      have yaLu1 := oLu1.one.1
      have ybLu1 := oLu1.one.2
      have GLu1 : Lu1.ob (H2.n) = AOb.cells [.slice none 0 0, .slice none 0 0, .string ⟨#[]⟩] .solo (H2.n) := (qLu1.ob _ (lt_alloc _)).trans (alloc_same _)
      have LGLu1 : H2.n < Lu1.n := Nat.lt_of_lt_of_le (lt_alloc _) qLu1.n
      simp (maxSteps := 1000000) -implicitDefEqProofs only [push_cast, seval, k3', rd_of k3', rd1_of k3', j3, k4, rd_of k4, rd1_of k4, j4, k5, rd_of k5, rd1_of k5, j5, K0Lu1, rd_of K0Lu1, rd1_of K0Lu1, J0Lu1, K1Lu1, rd_of K1Lu1, rd1_of K1Lu1, J1Lu1, K2Lu1, rd_of K2Lu1, rd1_of K2Lu1, J2Lu1, yaLu1, ybLu1, GLu1, rd_of GLu1, rd1_of GLu1, LGLu1]
      with_reducible refine CC.mono (MergeDelta_i (mergeD a x) y _ _ _ _ _ (oLu1.rdt.pre (Pre.refl Lu1)) (oY2.rdt.pre PLu1) (SzB_mergeD zA zx) zY (Pow_pre (P2.trans PLu1) hg ht) (Nat.lt_of_lt_of_le hg (P2.trans PLu1).n)) (fun v Lu2 hv => ?_)
      with_reducible refine Exists.elim hv (fun tA hv => ?_)
      with_reducible refine Exists.elim hv (fun tB hv => ?_)
      have e1 := hv.1
      have oLu2 := hv.2.1
      have qLu2 := hv.2.2
      clear hv
      subst e1
      have PLu2 : Pre H2 Lu2 := PLu1.trans qLu2
      have nLu2 := PLu2.n
      have mLu2 := qLu2.n
      have K0Lu2 : Lu2.ob h1.n = _ := (PLu2.ob _ j3).trans k3'
      have J0Lu2 : h1.n < Lu2.n := Nat.lt_of_lt_of_le j3 nLu2
      have K1Lu2 : Lu2.ob h2.n = _ := (PLu2.ob _ j4).trans k4
      have J1Lu2 : h2.n < Lu2.n := Nat.lt_of_lt_of_le j4 nLu2
      have K2Lu2 : Lu2.ob (h2.n + 1) = _ := (PLu2.ob _ j5).trans k5
      have J2Lu2 : (h2.n + 1) < Lu2.n := Nat.lt_of_lt_of_le j5 nLu2
      have yaLu2 := oLu2.one.1
      have ybLu2 := oLu2.one.2
      have GLu2 : Lu2.ob (H2.n) = AOb.cells [.slice none 0 0, .slice none 0 0, .string ⟨#[]⟩] .solo (H2.n) := (qLu2.ob _ LGLu1).trans GLu1
      have LGLu2 : H2.n < Lu2.n := Nat.lt_of_lt_of_le LGLu1 qLu2.n
      simp (maxSteps := 1000000) -implicitDefEqProofs only [push_cast, seval, k3', rd_of k3', rd1_of k3', j3, k4, rd_of k4, rd1_of k4, j4, k5, rd_of k5, rd1_of k5, j5, K0Lu1, rd_of K0Lu1, rd1_of K0Lu1, J0Lu1, K1Lu1, rd_of K1Lu1, rd1_of K1Lu1, J1Lu1, K2Lu1, rd_of K2Lu1, rd1_of K2Lu1, J2Lu1, yaLu1, ybLu1, GLu1, rd_of GLu1, rd1_of GLu1, LGLu1, K0Lu2, rd_of K0Lu2, rd1_of K0Lu2, J0Lu2, K1Lu2, rd_of K1Lu2, rd1_of K1Lu2, J1Lu2, K2Lu2, rd_of K2Lu2, rd1_of K2Lu2, J2Lu2, yaLu2, ybLu2, GLu2, rd_of GLu2, rd1_of GLu2, LGLu2]
      have hX : H2.n ≤ H2.n := Nat.le_refl _
      have bX : ∀ j, atBlock tA j ∨ atBlock tB j → j ≠ H2.n := fun j e => by
        have h1 : Lu1.n ≤ j := (oLu2.range e).1
        have h2 := LGLu1
        omega
      exact ⟨(H2.n, tA, tB), by kernel_rfl, ⟨set_same _ _, (oLu2.mono nLu1).to (Nat.le_refl _) (fun i e => set_ne _ (bX i e)), bX, (PLu2).set hX _, hX, LGLu2⟩⟩
  intro b g H3 hJ
  have k6a := hJ.1
  have oL3 := hJ.2.1
  have bL3 := hJ.2.2.1
  have Q3 := hJ.2.2.2.1
  have L6 := hJ.2.2.2.2.1
  have j6a := hJ.2.2.2.2.2
  clear hJ
  generalize b.1 = p6 at *
  generalize b.2.1 = lA at *
  generalize b.2.2 = lB at *
  clear b
  have hQ3 := Q3.n
  have k3a : H3.ob h1.n = _ := (Q3.ob _ j3).trans k3'
  have k4a : H3.ob h2.n = _ := (Q3.ob _ j4).trans k4
  have k5a : H3.ob (h2.n + 1) = _ := (Q3.ob _ j5).trans k5
  have j3a : h1.n < H3.n := by omega
  have j4a : h2.n < H3.n := by omega
  have j5a : h2.n + 1 < H3.n := by omega
  have oA3 := oA2.pre Q3
  have oX3 := oX2.pre Q3
  have oY3 := oY2.pre Q3
  have P3 := P2.trans Q3
  clear k3' k4 k5 j3 j4 j5 oA2 oX2 oY2
  simp (maxSteps := 1000000) -implicitDefEqProofs only [push_cast, seval, k3a, rd_of k3a, rd1_of k3a, k4a, rd_of k4a, rd1_of k4a, k5a, rd_of k5a, rd1_of k5a, k6a, rd_of k6a, rd1_of k6a, j3a, j4a, j5a, j6a]
  refine WC.cutA [7] [44, 45, 46, 47, 48, 49, 50] (fun b : Nat × Value × Value => [.pointer (some ⟨b.1, 0, none⟩)]) (fun b h' => h'.ob b.1 = AOb.cells [b.2.1, b.2.2, .string (mergeD a (mergeD (mergeD sto0 x) y)).out] .solo b.1 ∧ OwnT H3 h' b.2.1 b.2.2 (mergeD a (mergeD (mergeD sto0 x) y)) ∧ (∀ j, atBlock b.2.1 j ∨ atBlock b.2.2 j → j ≠ b.1) ∧ Pre H3 h' ∧ H3.n ≤ b.1 ∧ b.1 < h'.n) ?_ ?_
  · refine WC.drawT (by kernel_rfl) (by kernel_rfl) (.q 0 (.q 1 (.q 2 (.q 4 (.b 3 (.b 5 (.b 6 (.a 7 false (.a 8 true (.done))) 7 (.a 6 true (.a 8 true (.done)))) 7 (.a 5 false (.a 6 true (.a 8 true (.done))))) 7 (.a 3 false (.a 5 false (.a 6 true (.a 8 true (.done)))))))))) (by kernel_rfl) ?_
    simp (maxSteps := 1000000) -implicitDefEqProofs only [push_cast, seval, k3a, rd_of k3a, rd1_of k3a, k4a, rd_of k4a, rd1_of k4a, k5a, rd_of k5a, rd1_of k5a, k6a, rd_of k6a, rd1_of k6a, j3a, j4a, j5a, j6a]
    refine And.intro ?_ ?_
    · with_reducible refine CC.mono (MergeDelta_0 x _ _ _ (oX3.rdt.pre (Pre.refl H3)) zx (Pow_pre (P3.trans (Pre.refl H3)) hg ht) (Nat.lt_of_lt_of_le hg (P3.trans (Pre.refl H3)).n)) (fun v Ru1 hv => ?_)
      with_reducible refine Exists.elim hv (fun rA hv => ?_)
      with_reducible refine Exists.elim hv (fun rB hv => ?_)
      have e1 := hv.1
      have oRu1 := hv.2.1
      have qRu1 := hv.2.2
      clear hv
      subst e1
      have PRu1 : Pre H3 Ru1 := (Pre.refl H3).trans qRu1
      have nRu1 := PRu1.n
      have mRu1 := qRu1.n
      have K0Ru1 : Ru1.ob h1.n = _ := (PRu1.ob _ j3a).trans k3a
      have J0Ru1 : h1.n < Ru1.n := Nat.lt_of_lt_of_le j3a nRu1
      have K1Ru1 : Ru1.ob h2.n = _ := (PRu1.ob _ j4a).trans k4a
      have J1Ru1 : h2.n < Ru1.n := Nat.lt_of_lt_of_le j4a nRu1
      have K2Ru1 : Ru1.ob (h2.n + 1) = _ := (PRu1.ob _ j5a).trans k5a
      have J2Ru1 : (h2.n + 1) < Ru1.n := Nat.lt_of_lt_of_le j5a nRu1
      have K3Ru1 : Ru1.ob p6 = _ := (PRu1.ob _ j6a).trans k6a
      have J3Ru1 : p6 < Ru1.n := Nat.lt_of_lt_of_le j6a nRu1
      have yaRu1 := oRu1.one.1
      have ybRu1 := oRu1.one.2
      simp (maxSteps := 1000000) -implicitDefEqProofs only [push_cast, seval, k3a, rd_of k3a, rd1_of k3a, j3a, k4a, rd_of k4a, rd1_of k4a, j4a, k5a, rd_of k5a, rd1_of k5a, j5a, k6a, rd_of k6a, rd1_of k6a, j6a, K0Ru1, rd_of K0Ru1, rd1_of K0Ru1, J0Ru1, K1Ru1, rd_of K1Ru1, rd1_of K1Ru1, J1Ru1, K2Ru1, rd_of K2Ru1, rd1_of K2Ru1, J2Ru1, K3Ru1, rd_of K3Ru1, rd1_of K3Ru1, J3Ru1, yaRu1, ybRu1]
      refine And.intro ?_ ?_
      · with_reducible refine CC.mono (MergeDelta_i (mergeD sto0 x) y _ _ _ _ _ (oRu1.rdt.pre (Pre.refl Ru1)) (oY3.rdt.pre PRu1) (SzB_mergeD sto0_sz zx) zY (Pow_pre (P3.trans PRu1) hg ht) (Nat.lt_of_lt_of_le hg (P3.trans PRu1).n)) (fun v Ru2 hv => ?_)
        with_reducible refine Exists.elim hv (fun sA hv => ?_)
        with_reducible refine Exists.elim hv (fun sB hv => ?_)
        have e1 := hv.1
        have oRu2 := hv.2.1
        have qRu2 := hv.2.2
        clear hv
        subst e1
        have PRu2 : Pre H3 Ru2 := PRu1.trans qRu2
        have nRu2 := PRu2.n
        have mRu2 := qRu2.n
        have K0Ru2 : Ru2.ob h1.n = _ := (PRu2.ob _ j3a).trans k3a
        have J0Ru2 : h1.n < Ru2.n := Nat.lt_of_lt_of_le j3a nRu2
        have K1Ru2 : Ru2.ob h2.n = _ := (PRu2.ob _ j4a).trans k4a
        have J1Ru2 : h2.n < Ru2.n := Nat.lt_of_lt_of_le j4a nRu2
        have K2Ru2 : Ru2.ob (h2.n + 1) = _ := (PRu2.ob _ j5a).trans k5a
        have J2Ru2 : (h2.n + 1) < Ru2.n := Nat.lt_of_lt_of_le j5a nRu2
        have K3Ru2 : Ru2.ob p6 = _ := (PRu2.ob _ j6a).trans k6a
        have J3Ru2 : p6 < Ru2.n := Nat.lt_of_lt_of_le j6a nRu2
        have yaRu2 := oRu2.one.1
        have ybRu2 := oRu2.one.2
        simp (maxSteps := 1000000) -implicitDefEqProofs only [push_cast, seval, k3a, rd_of k3a, rd1_of k3a, j3a, k4a, rd_of k4a, rd1_of k4a, j4a, k5a, rd_of k5a, rd1_of k5a, j5a, k6a, rd_of k6a, rd1_of k6a, j6a, K0Ru1, rd_of K0Ru1, rd1_of K0Ru1, J0Ru1, K1Ru1, rd_of K1Ru1, rd1_of K1Ru1, J1Ru1, K2Ru1, rd_of K2Ru1, rd1_of K2Ru1, J2Ru1, K3Ru1, rd_of K3Ru1, rd1_of K3Ru1, J3Ru1, yaRu1, ybRu1, K0Ru2, rd_of K0Ru2, rd1_of K0Ru2, J0Ru2, K1Ru2, rd_of K1Ru2, rd1_of K1Ru2, J1Ru2, K2Ru2, rd_of K2Ru2, rd1_of K2Ru2, J2Ru2, K3Ru2, rd_of K3Ru2, rd1_of K3Ru2, J3Ru2, yaRu2, ybRu2]
        refine And.intro ?_ ?_
        · with_reducible refine CC.mono (MergeDelta_i a (mergeD (mergeD sto0 x) y) _ _ _ _ _ (oA3.rdt.pre PRu2) (oRu2.rdt.pre (Pre.refl Ru2)) zA (SzB_mergeD (SzB_mergeD sto0_sz zx) zY) (Pow_pre (P3.trans PRu2) hg ht) (Nat.lt_of_lt_of_le hg (P3.trans PRu2).n)) (fun v Ru3 hv => ?_)
          with_reducible refine Exists.elim hv (fun tA hv => ?_)
          with_reducible refine Exists.elim hv (fun tB hv => ?_)
          have e1 := hv.1
          have oRu3 := hv.2.1
          have qRu3 := hv.2.2
          clear hv
          subst e1
          have PRu3 : Pre H3 Ru3 := PRu2.trans qRu3
          have nRu3 := PRu3.n
          have mRu3 := qRu3.n
          have K0Ru3 : Ru3.ob h1.n = _ := (PRu3.ob _ j3a).trans k3a
          have J0Ru3 : h1.n < Ru3.n := Nat.lt_of_lt_of_le j3a nRu3
          have K1Ru3 : Ru3.ob h2.n = _ := (PRu3.ob _ j4a).trans k4a
          have J1Ru3 : h2.n < Ru3.n := Nat.lt_of_lt_of_le j4a nRu3
          have K2Ru3 : Ru3.ob (h2.n + 1) = _ := (PRu3.ob _ j5a).trans k5a
          have J2Ru3 : (h2.n + 1) < Ru3.n := Nat.lt_of_lt_of_le j5a nRu3
          have K3Ru3 : Ru3.ob p6 = _ := (PRu3.ob _ j6a).trans k6a
          have J3Ru3 : p6 < Ru3.n := Nat.lt_of_lt_of_le j6a nRu3
          have yaRu3 := oRu3.one.1
          have ybRu3 := oRu3.one.2
          simp (maxSteps := 1000000) -implicitDefEqProofs only [push_cast, seval, k3a, rd_of k3a, rd1_of k3a, j3a, k4a, rd_of k4a, rd1_of k4a, j4a, k5a, rd_of k5a, rd1_of k5a, j5a, k6a, rd_of k6a, rd1_of k6a, j6a, K0Ru1, rd_of K0Ru1, rd1_of K0Ru1, J0Ru1, K1Ru1, rd_of K1Ru1, rd1_of K1Ru1, J1Ru1, K2Ru1, rd_of K2Ru1, rd1_of K2Ru1, J2Ru1, K3Ru1, rd_of K3Ru1, rd1_of K3Ru1, J3Ru1, yaRu1, ybRu1, K0Ru2, rd_of K0Ru2, rd1_of K0Ru2, J0Ru2, K1Ru2, rd_of K1Ru2, rd1_of K1Ru2, J1Ru2, K2Ru2, rd_of K2Ru2, rd1_of K2Ru2, J2Ru2, K3Ru2, rd_of K3Ru2, rd1_of K3Ru2, J3Ru2, yaRu2, ybRu2, K0Ru3, rd_of K0Ru3, rd1_of K0Ru3, J0Ru3, K1Ru3, rd_of K1Ru3, rd1_of K1Ru3, J1Ru3, K2Ru3, rd_of K2Ru3, rd1_of K2Ru3, J2Ru3, K3Ru3, rd_of K3Ru3, rd1_of K3Ru3, J3Ru3, yaRu3, ybRu3]
          have hX : H3.n ≤ Ru3.n := nRu3
          have bX : ∀ j, atBlock tA j ∨ atBlock tB j → j ≠ Ru3.n := fun j e => by
            have := (oRu3.range e).2
            omega
          exact ⟨(Ru3.n, tA, tB), by kernel_rfl, ⟨set_same _ _, (oRu3.mono nRu2).to (Nat.le_succ _) (fun i e => (set_ne _ (bX i e)).trans (alloc_lt _ (oRu3.range e).2)), bX, (PRu3.alloc _).set hX _, hX, Nat.lt_succ_self _⟩⟩
        · with_reducible refine CC.mono (MergeDelta_i a (mergeD (mergeD sto0 x) y) _ _ _ _ _ (oA3.rdt.pre (PRu2.alloc _)) (oRu2.rdt.pre ((Pre.refl Ru2).alloc _)) zA (SzB_mergeD (SzB_mergeD sto0_sz zx) zY) (Pow_pre (P3.trans (PRu2.alloc _)) hg ht) (Nat.lt_of_lt_of_le hg (P3.trans (PRu2.alloc _)).n)) (fun v Ru3 hv => ?_)
          with_reducible refine Exists.elim hv (fun tA hv => ?_)
          with_reducible refine Exists.elim hv (fun tB hv => ?_)
          have e1 := hv.1
          have oRu3 := hv.2.1
          have qRu3 := hv.2.2
          clear hv
          subst e1
          have PRu3 : Pre H3 Ru3 := (PRu2.alloc _).trans qRu3
          have nRu3 := PRu3.n
          have mRu3 := qRu3.n
          have K0Ru3 : Ru3.ob h1.n = _ := (PRu3.ob _ j3a).trans k3a
          have J0Ru3 : h1.n < Ru3.n := Nat.lt_of_lt_of_le j3a nRu3
          have K1Ru3 : Ru3.ob h2.n = _ := (PRu3.ob _ j4a).trans k4a
          have J1Ru3 : h2.n < Ru3.n := Nat.lt_of_lt_of_le j4a nRu3
          have K2Ru3 : Ru3.ob (h2.n + 1) = _ := (PRu3.ob _ j5a).trans k5a
          have J2Ru3 : (h2.n + 1) < Ru3.n := Nat.lt_of_lt_of_le j5a nRu3
          have K3Ru3 : Ru3.ob p6 = _ := (PRu3.ob _ j6a).trans k6a
          have J3Ru3 : p6 < Ru3.n := Nat.lt_of_lt_of_le j6a nRu3
          have yaRu3 := oRu3.one.1
          have ybRu3 := oRu3.one.2
          have GRu3 : Ru3.ob (Ru2.n) = AOb.cells [.slice none 0 0, .slice none 0 0, .string ⟨#[]⟩] .solo (Ru2.n) := (qRu3.ob _ (lt_alloc _)).trans (alloc_same _)
          have LGRu3 : Ru2.n < Ru3.n := Nat.lt_of_lt_of_le (lt_alloc _) qRu3.n
          simp (maxSteps := 1000000) -implicitDefEqProofs only [push_cast, seval, k3a, rd_of k3a, rd1_of k3a, j3a, k4a, rd_of k4a, rd1_of k4a, j4a, k5a, rd_of k5a, rd1_of k5a, j5a, k6a, rd_of k6a, rd1_of k6a, j6a, K0Ru1, rd_of K0Ru1, rd1_of K0Ru1, J0Ru1, K1Ru1, rd_of K1Ru1, rd1_of K1Ru1, J1Ru1, K2Ru1, rd_of K2Ru1, rd1_of K2Ru1, J2Ru1, K3Ru1, rd_of K3Ru1, rd1_of K3Ru1, J3Ru1, yaRu1, ybRu1, K0Ru2, rd_of K0Ru2, rd1_of K0Ru2, J0Ru2, K1Ru2, rd_of K1Ru2, rd1_of K1Ru2, J1Ru2, K2Ru2, rd_of K2Ru2, rd1_of K2Ru2, J2Ru2, K3Ru2, rd_of K3Ru2, rd1_of K3Ru2, J3Ru2, yaRu2, ybRu2, K0Ru3, rd_of K0Ru3, rd1_of K0Ru3, J0Ru3, K1Ru3, rd_of K1Ru3, rd1_of K1Ru3, J1Ru3, K2Ru3, rd_of K2Ru3, rd1_of K2Ru3, J2Ru3, K3Ru3, rd_of K3Ru3, rd1_of K3Ru3, J3Ru3, yaRu3, ybRu3, GRu3, rd_of GRu3, rd1_of GRu3, LGRu3]
          have hX : H3.n ≤ Ru2.n := nRu2
          have bX : ∀ j, atBlock tA j ∨ atBlock tB j → j ≠ Ru2.n := fun j e => by
            have : Ru2.n + 1 ≤ j := (oRu3.range e).1
            omega
          exact ⟨(Ru2.n, tA, tB), by kernel_rfl, ⟨set_same _ _, (oRu3.mono (Nat.le_succ_of_le nRu2)).to (Nat.le_refl _) (fun i e => set_ne _ (bX i e)), bX, (PRu3).set hX _, hX, LGRu3⟩⟩
      · with_reducible refine CC.mono (MergeDelta_i (mergeD sto0 x) y _ _ _ _ _ (oRu1.rdt.pre ((Pre.refl Ru1).alloc _)) (oY3.rdt.pre (PRu1.alloc _)) (SzB_mergeD sto0_sz zx) zY (Pow_pre (P3.trans (PRu1.alloc _)) hg ht) (Nat.lt_of_lt_of_le hg (P3.trans (PRu1.alloc _)).n)) (fun v Ru2 hv => ?_)
        with_reducible refine Exists.elim hv (fun sA hv => ?_)
        with_reducible refine Exists.elim hv (fun sB hv => ?_)
        have e1 := hv.1
        have oRu2 := hv.2.1
        have qRu2 := hv.2.2
        clear hv
        subst e1
        have PRu2 : Pre H3 Ru2 := (PRu1.alloc _).trans qRu2
        have nRu2 := PRu2.n
        have mRu2 := qRu2.n
        have K0Ru2 : Ru2.ob h1.n = _ := (PRu2.ob _ j3a).trans k3a
        have J0Ru2 : h1.n < Ru2.n := Nat.lt_of_lt_of_le j3a nRu2
        have K1Ru2 : Ru2.ob h2.n = _ := (PRu2.ob _ j4a).trans k4a
        have J1Ru2 : h2.n < Ru2.n := Nat.lt_of_lt_of_le j4a nRu2
        have K2Ru2 : Ru2.ob (h2.n + 1) = _ := (PRu2.ob _ j5a).trans k5a
        have J2Ru2 : (h2.n + 1) < Ru2.n := Nat.lt_of_lt_of_le j5a nRu2
        have K3Ru2 : Ru2.ob p6 = _ := (PRu2.ob _ j6a).trans k6a
        have J3Ru2 : p6 < Ru2.n := Nat.lt_of_lt_of_le j6a nRu2
        have yaRu2 := oRu2.one.1
        have ybRu2 := oRu2.one.2
        have GRu2 : Ru2.ob (Ru1.n) = AOb.cells [.slice none 0 0, .slice none 0 0, .string ⟨#[]⟩] .solo (Ru1.n) := (qRu2.ob _ (lt_alloc _)).trans (alloc_same _)
        have LGRu2 : Ru1.n < Ru2.n := Nat.lt_of_lt_of_le (lt_alloc _) qRu2.n
        simp (maxSteps := 1000000) -implicitDefEqProofs only [push_cast, seval, k3a, rd_of k3a, rd1_of k3a, j3a, k4a, rd_of k4a, rd1_of k4a, j4a, k5a, rd_of k5a, rd1_of k5a, j5a, k6a, rd_of k6a, rd1_of k6a, j6a, K0Ru1, rd_of K0Ru1, rd1_of K0Ru1, J0Ru1, K1Ru1, rd_of K1Ru1, rd1_of K1Ru1, J1Ru1, K2Ru1, rd_of K2Ru1, rd1_of K2Ru1, J2Ru1, K3Ru1, rd_of K3Ru1, rd1_of K3Ru1, J3Ru1, yaRu1, ybRu1, K0Ru2, rd_of K0Ru2, rd1_of K0Ru2, J0Ru2, K1Ru2, rd_of K1Ru2, rd1_of K1Ru2, J1Ru2, K2Ru2, rd_of K2Ru2, rd1_of K2Ru2, J2Ru2, K3Ru2, rd_of K3Ru2, rd1_of K3Ru2, J3Ru2, yaRu2, ybRu2, GRu2, rd_of GRu2, rd1_of GRu2, LGRu2]
        with_reducible refine CC.mono (MergeDelta_i a (mergeD (mergeD sto0 x) y) _ _ _ _ _ (oA3.rdt.pre PRu2) (oRu2.rdt.pre (Pre.refl Ru2)) zA (SzB_mergeD (SzB_mergeD sto0_sz zx) zY) (Pow_pre (P3.trans PRu2) hg ht) (Nat.lt_of_lt_of_le hg (P3.trans PRu2).n)) (fun v Ru3 hv => ?_)
        with_reducible refine Exists.elim hv (fun tA hv => ?_)
        with_reducible refine Exists.elim hv (fun tB hv => ?_)
        have e1 := hv.1
        have oRu3 := hv.2.1
        have qRu3 := hv.2.2
        clear hv
        subst e1
        have PRu3 : Pre H3 Ru3 := PRu2.trans qRu3
        have nRu3 := PRu3.n
        have mRu3 := qRu3.n
        have K0Ru3 : Ru3.ob h1.n = _ := (PRu3.ob _ j3a).trans k3a
        have J0Ru3 : h1.n < Ru3.n := Nat.lt_of_lt_of_le j3a nRu3
        have K1Ru3 : Ru3.ob h2.n = _ := (PRu3.ob _ j4a).trans k4a
        have J1Ru3 : h2.n < Ru3.n := Nat.lt_of_lt_of_le j4a nRu3
        have K2Ru3 : Ru3.ob (h2.n + 1) = _ := (PRu3.ob _ j5a).trans k5a
        have J2Ru3 : (h2.n + 1) < Ru3.n := Nat.lt_of_lt_of_le j5a nRu3
        have K3Ru3 : Ru3.ob p6 = _ := (PRu3.ob _ j6a).trans k6a
        have J3Ru3 : p6 < Ru3.n := Nat.lt_of_lt_of_le j6a nRu3
        have yaRu3 := oRu3.one.1
        have ybRu3 := oRu3.one.2
        have GRu3 : Ru3.ob (Ru1.n) = AOb.cells [.slice none 0 0, .slice none 0 0, .string ⟨#[]⟩] .solo (Ru1.n) := (qRu3.ob _ LGRu2).trans GRu2
        have LGRu3 : Ru1.n < Ru3.n := Nat.lt_of_lt_of_le LGRu2 qRu3.n
        simp (maxSteps := 1000000) -implicitDefEqProofs only [push_cast, seval, k3a, rd_of k3a, rd1_of k3a, j3a, k4a, rd_of k4a, rd1_of k4a, j4a, k5a, rd_of k5a, rd1_of k5a, j5a, k6a, rd_of k6a, rd1_of k6a, j6a, K0Ru1, rd_of K0Ru1, rd1_of K0Ru1, J0Ru1, K1Ru1, rd_of K1Ru1, rd1_of K1Ru1, J1Ru1, K2Ru1, rd_of K2Ru1, rd1_of K2Ru1, J2Ru1, K3Ru1, rd_of K3Ru1, rd1_of K3Ru1, J3Ru1, yaRu1, ybRu1, K0Ru2, rd_of K0Ru2, rd1_of K0Ru2, J0Ru2, K1Ru2, rd_of K1Ru2, rd1_of K1Ru2, J1Ru2, K2Ru2, rd_of K2Ru2, rd1_of K2Ru2, J2Ru2, K3Ru2, rd_of K3Ru2, rd1_of K3Ru2, J3Ru2, yaRu2, ybRu2, GRu2, rd_of GRu2, rd1_of GRu2, LGRu2, K0Ru3, rd_of K0Ru3, rd1_of K0Ru3, J0Ru3, K1Ru3, rd_of K1Ru3, rd1_of K1Ru3, J1Ru3, K2Ru3, rd_of K2Ru3, rd1_of K2Ru3, J2Ru3, K3Ru3, rd_of K3Ru3, rd1_of K3Ru3, J3Ru3, yaRu3, ybRu3, GRu3, rd_of GRu3, rd1_of GRu3, LGRu3]
        have hX : H3.n ≤ Ru1.n := nRu1
        have bX : ∀ j, atBlock tA j ∨ atBlock tB j → j ≠ Ru1.n := fun j e => by
          have h1 : Ru2.n ≤ j := (oRu3.range e).1
          have h2 := LGRu2
          omega
        exact ⟨(Ru1.n, tA, tB), by kernel_rfl, ⟨set_same _ _, (oRu3.mono nRu2).to (Nat.le_refl _) (fun i e => set_ne _ (bX i e)), bX, (PRu3).set hX _, hX, LGRu3⟩⟩
    · with_reducible refine CC.mono (MergeDelta_0 x _ _ _ (oX3.rdt.pre ((Pre.refl H3).alloc _)) zx (Pow_pre (P3.trans ((Pre.refl H3).alloc _)) hg ht) (Nat.lt_of_lt_of_le hg (P3.trans ((Pre.refl H3).alloc _)).n)) (fun v Ru1 hv => ?_)
      with_reducible refine Exists.elim hv (fun rA hv => ?_)
      with_reducible refine Exists.elim hv (fun rB hv => ?_)
      have e1 := hv.1
      have oRu1 := hv.2.1
      have qRu1 := hv.2.2
      clear hv
      subst e1
      have PRu1 : Pre H3 Ru1 := ((Pre.refl H3).alloc _).trans qRu1
      have nRu1 := PRu1.n
      have mRu1 := qRu1.n
      have K0Ru1 : Ru1.ob h1.n = _ := (PRu1.ob _ j3a).trans k3a
      have J0Ru1 : h1.n < Ru1.n := Nat.lt_of_lt_of_le j3a nRu1
      have K1Ru1 : Ru1.ob h2.n = _ := (PRu1.ob _ j4a).trans k4a
      have J1Ru1 : h2.n < Ru1.n := Nat.lt_of_lt_of_le j4a nRu1
      have K2Ru1 : Ru1.ob (h2.n + 1) = _ := (PRu1.ob _ j5a).trans k5a
      have J2Ru1 : (h2.n + 1) < Ru1.n := Nat.lt_of_lt_of_le j5a nRu1
      have K3Ru1 : Ru1.ob p6 = _ := (PRu1.ob _ j6a).trans k6a
      have J3Ru1 : p6 < Ru1.n := Nat.lt_of_lt_of_le j6a nRu1
      have yaRu1 := oRu1.one.1
      have ybRu1 := oRu1.one.2
      have GRu1 : Ru1.ob (H3.n) = AOb.cells [.slice none 0 0, .slice none 0 0, .string ⟨#[]⟩] .solo (H3.n) := (qRu1.ob _ (lt_alloc _)).trans (alloc_same _)
      have LGRu1 : H3.n < Ru1.n := Nat.lt_of_lt_of_le (lt_alloc _) qRu1.n
      simp (maxSteps := 1000000) -implicitDefEqProofs only [push_cast, seval, k3a, rd_of k3a, rd1_of k3a, j3a, k4a, rd_of k4a, rd1_of k4a, j4a, k5a, rd_of k5a, rd1_of k5a, j5a, k6a, rd_of k6a, rd1_of k6a, j6a, K0Ru1, rd_of K0Ru1, rd1_of K0Ru1, J0Ru1, K1Ru1, rd_of K1Ru1, rd1_of K1Ru1, J1Ru1, K2Ru1, rd_of K2Ru1, rd1_of K2Ru1, J2Ru1, K3Ru1, rd_of K3Ru1, rd1_of K3Ru1, J3Ru1, yaRu1, ybRu1, GRu1, rd_of GRu1, rd1_of GRu1, LGRu1]
      with_reducible refine CC.mono (MergeDelta_i (mergeD sto0 x) y _ _ _ _ _ (oRu1.rdt.pre (Pre.refl Ru1)) (oY3.rdt.pre PRu1) (SzB_mergeD sto0_sz zx) zY (Pow_pre (P3.trans PRu1) hg ht) (Nat.lt_of_lt_of_le hg (P3.trans PRu1).n)) (fun v Ru2 hv => ?_)
      with_reducible refine Exists.elim hv (fun sA hv => ?_)
      with_reducible refine Exists.elim hv (fun sB hv => ?_)
      have e1 := hv.1
      have oRu2 := hv.2.1
      have qRu2 := hv.2.2
      clear hv
      subst e1
      have PRu2 : Pre H3 Ru2 := PRu1.trans qRu2
      have nRu2 := PRu2.n
      have mRu2 := qRu2.n
      have K0Ru2 : Ru2.ob h1.n = _ := (PRu2.ob _ j3a).trans k3a
      have J0Ru2 : h1.n < Ru2.n := Nat.lt_of_lt_of_le j3a nRu2
      have K1Ru2 : Ru2.ob h2.n = _ := (PRu2.ob _ j4a).trans k4a
      have J1Ru2 : h2.n < Ru2.n := Nat.lt_of_lt_of_le j4a nRu2
      have K2Ru2 : Ru2.ob (h2.n + 1) = _ := (PRu2.ob _ j5a).trans k5a
      have J2Ru2 : (h2.n + 1) < Ru2.n := Nat.lt_of_lt_of_le j5a nRu2
      have K3Ru2 : Ru2.ob p6 = _ := (PRu2.ob _ j6a).trans k6a
      have J3Ru2 : p6 < Ru2.n := Nat.lt_of_lt_of_le j6a nRu2
      have yaRu2 := oRu2.one.1
      have ybRu2 := oRu2.one.2
      have GRu2 : Ru2.ob (H3.n) = AOb.cells [.slice none 0 0, .slice none 0 0, .string ⟨#[]⟩] .solo (H3.n) := (qRu2.ob _ LGRu1).trans GRu1
      have LGRu2 : H3.n < Ru2.n := Nat.lt_of_lt_of_le LGRu1 qRu2.n
      simp (maxSteps := 1000000) -implicitDefEqProofs only [push_cast, seval, k3a, rd_of k3a, rd1_of k3a, j3a, k4a, rd_of k4a, rd1_of k4a, j4a, k5a, rd_of k5a, rd1_of k5a, j5a, k6a, rd_of k6a, rd1_of k6a, j6a, K0Ru1, rd_of K0Ru1, rd1_of K0Ru1, J0Ru1, K1Ru1, rd_of K1Ru1, rd1_of K1Ru1, J1Ru1, K2Ru1, rd_of K2Ru1, rd1_of K2Ru1, J2Ru1, K3Ru1, rd_of K3Ru1, rd1_of K3Ru1, J3Ru1, yaRu1, ybRu1, GRu1, rd_of GRu1, rd1_of GRu1, LGRu1, K0Ru2, rd_of K0Ru2, rd1_of K0Ru2, J0Ru2, K1Ru2, rd_of K1Ru2, rd1_of K1Ru2, J1Ru2, K2Ru2, rd_of K2Ru2, rd1_of K2Ru2, J2Ru2, K3Ru2, rd_of K3Ru2, rd1_of K3Ru2, J3Ru2, yaRu2, ybRu2, GRu2, rd_of GRu2, rd1_of GRu2, LGRu2]
      with_reducible refine CC.mono (MergeDelta_i a (mergeD (mergeD sto0 x) y) _ _ _ _ _ (oA3.rdt.pre PRu2) (oRu2.rdt.pre (Pre.refl Ru2)) zA (SzB_mergeD (SzB_mergeD sto0_sz zx) zY) (Pow_pre (P3.trans PRu2) hg ht) (Nat.lt_of_lt_of_le hg (P3.trans PRu2).n)) (fun v Ru3 hv => ?_)
      with_reducible refine Exists.elim hv (fun tA hv => ?_)
      with_reducible refine Exists.elim hv (fun tB hv => ?_)
      have e1 := hv.1
      have oRu3 := hv.2.1
      have qRu3 := hv.2.2
      clear hv
      subst e1
      have PRu3 : Pre H3 Ru3 := PRu2.trans qRu3
      have nRu3 := PRu3.n
      have mRu3 := qRu3.n
      have K0Ru3 : Ru3.ob h1.n = _ := (PRu3.ob _ j3a).trans k3a
      have J0Ru3 : h1.n < Ru3.n := Nat.lt_of_lt_of_le j3a nRu3
      have K1Ru3 : Ru3.ob h2.n = _ := (PRu3.ob _ j4a).trans k4a
      have J1Ru3 : h2.n < Ru3.n := Nat.lt_of_lt_of_le j4a nRu3
      have K2Ru3 : Ru3.ob (h2.n + 1) = _ := (PRu3.ob _ j5a).trans k5a
      have J2Ru3 : (h2.n + 1) < Ru3.n := Nat.lt_of_lt_of_le j5a nRu3
      have K3Ru3 : Ru3.ob p6 = _ := (PRu3.ob _ j6a).trans k6a
      have J3Ru3 : p6 < Ru3.n := Nat.lt_of_lt_of_le j6a nRu3
      have yaRu3 := oRu3.one.1
      have ybRu3 := oRu3.one.2
      have GRu3 : Ru3.ob (H3.n) = AOb.cells [.slice none 0 0, .slice none 0 0, .string ⟨#[]⟩] .solo (H3.n) := (qRu3.ob _ LGRu2).trans GRu2
      have LGRu3 : H3.n < Ru3.n := Nat.lt_of_lt_of_le LGRu2 qRu3.n
      simp (maxSteps := 1000000) -implicitDefEqProofs only [push_cast, seval, k3a, rd_of k3a, rd1_of k3a, j3a, k4a, rd_of k4a, rd1_of k4a, j4a, k5a, rd_of k5a, rd1_of k5a, j5a, k6a, rd_of k6a, rd1_of k6a, j6a, K0Ru1, rd_of K0Ru1, rd1_of K0Ru1, J0Ru1, K1Ru1, rd_of K1Ru1, rd1_of K1Ru1, J1Ru1, K2Ru1, rd_of K2Ru1, rd1_of K2Ru1, J2Ru1, K3Ru1, rd_of K3Ru1, rd1_of K3Ru1, J3Ru1, yaRu1, ybRu1, GRu1, rd_of GRu1, rd1_of GRu1, LGRu1, K0Ru2, rd_of K0Ru2, rd1_of K0Ru2, J0Ru2, K1Ru2, rd_of K1Ru2, rd1_of K1Ru2, J1Ru2, K2Ru2, rd_of K2Ru2, rd1_of K2Ru2, J2Ru2, K3Ru2, rd_of K3Ru2, rd1_of K3Ru2, J3Ru2, yaRu2, ybRu2, GRu2, rd_of GRu2, rd1_of GRu2, LGRu2, K0Ru3, rd_of K0Ru3, rd1_of K0Ru3, J0Ru3, K1Ru3, rd_of K1Ru3, rd1_of K1Ru3, J1Ru3, K2Ru3, rd_of K2Ru3, rd1_of K2Ru3, J2Ru3, K3Ru3, rd_of K3Ru3, rd1_of K3Ru3, J3Ru3, yaRu3, ybRu3, GRu3, rd_of GRu3, rd1_of GRu3, LGRu3]
      have hX : H3.n ≤ H3.n := Nat.le_refl _
      have bX : ∀ j, atBlock tA j ∨ atBlock tB j → j ≠ H3.n := fun j e => by
        have h1 : Ru2.n ≤ j := (oRu3.range e).1
        have h2 := LGRu2
        omega
      exact ⟨(H3.n, tA, tB), by kernel_rfl, ⟨set_same _ _, (oRu3.mono nRu2).to (Nat.le_refl _) (fun i e => set_ne _ (bX i e)), bX, (PRu3).set hX _, hX, LGRu3⟩⟩
  intro b g' H4 hJ
  have ML := merges_law okA.1 hb okY.1 okA.2.1 okA.2.2 (by omega) zX.c9 okY.2.1 okY.2.2
  have k7b := hJ.1
  have oR4 := hJ.2.1
  have Q4 := hJ.2.2.2.1
  have j7b := hJ.2.2.2.2.2
  clear hJ
  generalize b.1 = p7 at *
  generalize b.2.1 = nA at *
  generalize b.2.2 = nB at *
  clear b
  rw [ML.1] at k7b oR4
  have zL : SzB (mergeD (mergeD a x) y) := SzB_mergeD (SzB_mergeD zA zx) zY
  have okL := ML.2.1
  have eZ := ML.2.2
  clear ML
  generalize mergeD (mergeD a x) y = L at *
  have k3b : H4.ob h1.n = _ := (Q4.ob _ j3a).trans k3a
  have j3b : h1.n < H4.n := Nat.lt_of_lt_of_le j3a Q4.n
  have k4b : H4.ob h2.n = _ := (Q4.ob _ j4a).trans k4a
  have j4b : h2.n < H4.n := Nat.lt_of_lt_of_le j4a Q4.n
  have k5b : H4.ob (h2.n + 1) = _ := (Q4.ob _ j5a).trans k5a
  have j5b : (h2.n + 1) < H4.n := Nat.lt_of_lt_of_le j5a Q4.n
  have k6b : H4.ob p6 = _ := (Q4.ob _ j6a).trans k6a
  have j6b : p6 < H4.n := Nat.lt_of_lt_of_le j6a Q4.n
  have oL4 := oL3.pre Q4
  have oA4 := oA3.pre Q4
  have oX4 := oX3.pre Q4
  have oY4 := oY3.pre Q4
  have P4 := P3.trans Q4
  clear k3a k4a k5a k6a j3a j4a j5a j6a oA3 oX3 oY3 oL3 bL3
  simp (maxSteps := 1000000) -implicitDefEqProofs only [push_cast, seval, k3b, rd_of k3b, rd1_of k3b, j3b, k4b, rd_of k4b, rd1_of k4b, j4b, k5b, rd_of k5b, rd1_of k5b, j5b, k6b, rd_of k6b, rd1_of k6b, j6b, k7b, rd_of k7b, rd1_of k7b, j7b]
  refine WC.drawT (by kernel_rfl) (by kernel_rfl) (.q 0 (.q 1 (.a 2 false (.q 3 (.q 4 (.q 5 (.q 7 (.q 8 (.a 6 false (.a 9 false (.a 10 false (.q 11 (.q 12 (.q 13 (.q 14 (.q 16 (.a 15 false (.a 17 false (.q 18 (.q 19 (.q 20 (.a 21 true (.q 22 (.q 23 (.done))))))))))))))))))))))))) (by kernel_rfl) ?_
  simp (maxSteps := 1000000) -implicitDefEqProofs only [push_cast, seval, k3b, rd_of k3b, rd1_of k3b, j3b, k4b, rd_of k4b, rd1_of k4b, j4b, k5b, rd_of k5b, rd1_of k5b, j5b, k6b, rd_of k6b, rd1_of k6b, j6b, k7b, rd_of k7b, rd1_of k7b, j7b]
  with_reducible refine CD.to (SameStore_r L _ _ _ _ _ oL4.rdt oR4.rdt zL.sz) ?_
  simp (maxSteps := 1000000) -implicitDefEqProofs only [push_cast, seval, k3b, rd_of k3b, rd1_of k3b, j3b, k4b, rd_of k4b, rd1_of k4b, j4b, k5b, rd_of k5b, rd1_of k5b, j5b, k6b, rd_of k6b, rd1_of k6b, j6b, k7b, rd_of k7b, rd1_of k7b, j7b]
  with_reducible refine CC.mono (MergeDelta_i x y _ _ _ _ _ oX4.rdt oY4.rdt zx zY (Pow_pre P4 hg ht) (Nat.lt_of_lt_of_le hg P4.n)) (fun v v1 hv => ?_)
  with_reducible refine Exists.elim hv (fun cA hv => ?_)
  with_reducible refine Exists.elim hv (fun cB hv => ?_)
  have e1 := hv.1
  have o1 := hv.2.1
  have q1 := hv.2.2
  clear hv
  subst e1
  have yo11 := o1.one.1
  have yo12 := o1.one.2
  have k3c : v1.ob h1.n = _ := (q1.ob _ j3b).trans k3b
  have j3c : h1.n < v1.n := Nat.lt_of_lt_of_le j3b q1.n
  have k4c : v1.ob h2.n = _ := (q1.ob _ j4b).trans k4b
  have j4c : h2.n < v1.n := Nat.lt_of_lt_of_le j4b q1.n
  have k5c : v1.ob (h2.n + 1) = _ := (q1.ob _ j5b).trans k5b
  have j5c : (h2.n + 1) < v1.n := Nat.lt_of_lt_of_le j5b q1.n
  have k6c : v1.ob p6 = _ := (q1.ob _ j6b).trans k6b
  have j6c : p6 < v1.n := Nat.lt_of_lt_of_le j6b q1.n
  have k7c : v1.ob p7 = _ := (q1.ob _ j7b).trans k7b
  have j7c : p7 < v1.n := Nat.lt_of_lt_of_le j7b q1.n
  simp (maxSteps := 1000000) -implicitDefEqProofs only [push_cast, seval, k3b, rd_of k3b, rd1_of k3b, j3b, k4b, rd_of k4b, rd1_of k4b, j4b, k5b, rd_of k5b, rd1_of k5b, j5b, k6b, rd_of k6b, rd1_of k6b, j6b, k7b, rd_of k7b, rd1_of k7b, j7b, k3c, rd_of k3c, rd1_of k3c, j3c, k4c, rd_of k4c, rd1_of k4c, j4c, k5c, rd_of k5c, rd1_of k5c, j5c, k6c, rd_of k6c, rd1_of k6c, j6c, k7c, rd_of k7c, rd1_of k7c, j7c, yo11, yo12]
  with_reducible refine CC.mono (MergeDelta_s x y _ _ _ _ _ (oX4.rdt.pre q1) (oY4.rdt.pre q1) zx zY) (fun v v2 hv => ?_)
  with_reducible refine Exists.elim hv (fun dA hv => ?_)
  with_reducible refine Exists.elim hv (fun dB hv => ?_)
  have e1 := hv.1
  have o2 := hv.2.1
  have q2 := hv.2.2
  clear hv
  subst e1
  have yo21 := o2.one.1
  have yo22 := o2.one.2
  have k3d : v2.ob h1.n = _ := (q2.ob _ j3c).trans k3c
  have j3d : h1.n < v2.n := Nat.lt_of_lt_of_le j3c q2.n
  have k4d : v2.ob h2.n = _ := (q2.ob _ j4c).trans k4c
  have j4d : h2.n < v2.n := Nat.lt_of_lt_of_le j4c q2.n
  have k5d : v2.ob (h2.n + 1) = _ := (q2.ob _ j5c).trans k5c
  have j5d : (h2.n + 1) < v2.n := Nat.lt_of_lt_of_le j5c q2.n
  have k6d : v2.ob p6 = _ := (q2.ob _ j6c).trans k6c
  have j6d : p6 < v2.n := Nat.lt_of_lt_of_le j6c q2.n
  have k7d : v2.ob p7 = _ := (q2.ob _ j7c).trans k7c
  have j7d : p7 < v2.n := Nat.lt_of_lt_of_le j7c q2.n
  simp (maxSteps := 1000000) -implicitDefEqProofs only [push_cast, seval, k3b, rd_of k3b, rd1_of k3b, j3b, k4b, rd_of k4b, rd1_of k4b, j4b, k5b, rd_of k5b, rd1_of k5b, j5b, k6b, rd_of k6b, rd1_of k6b, j6b, k7b, rd_of k7b, rd1_of k7b, j7b, k3c, rd_of k3c, rd1_of k3c, j3c, k4c, rd_of k4c, rd1_of k4c, j4c, k5c, rd_of k5c, rd1_of k5c, j5c, k6c, rd_of k6c, rd1_of k6c, j6c, k7c, rd_of k7c, rd1_of k7c, j7c, k3d, rd_of k3d, rd1_of k3d, j3d, k4d, rd_of k4d, rd1_of k4d, j4d, k5d, rd_of k5d, rd1_of k5d, j5d, k6d, rd_of k6d, rd1_of k6d, j6d, k7d, rd_of k7d, rd1_of k7d, j7d, yo11, yo12, yo21, yo22]
  with_reducible refine CD.to (SameStore_r (mergeD x y) _ _ _ _ _ (o1.rdt.pre q2) o2.rdt (SzB_mergeD zx zY).sz) ?_
  simp (maxSteps := 1000000) -implicitDefEqProofs only [push_cast, seval, k3d, rd_of k3d, rd1_of k3d, j3d, k4d, rd_of k4d, rd1_of k4d, j4d, k5d, rd_of k5d, rd1_of k5d, j5d, k6d, rd_of k6d, rd1_of k6d, j6d, k7d, rd_of k7d, rd1_of k7d, j7d, yo11, yo12, yo21, yo22]
  have hZ := MergeDelta_z a _ _ v2 (oA4.rdt.pre (q1.trans q2)) zA (Pow_pre (P4.trans (q1.trans q2)) hg ht) (Nat.lt_of_lt_of_le hg (P4.trans (q1.trans q2)).n)
  rw [eZ] at hZ
  with_reducible refine CC.mono hZ (fun v v3 hv => ?_)
  with_reducible refine Exists.elim hv (fun eA hv => ?_)
  with_reducible refine Exists.elim hv (fun eB hv => ?_)
  have e1 := hv.1
  have o3 := hv.2.1
  have q3 := hv.2.2
  clear hv
  subst e1
  have yo31 := o3.one.1
  have yo32 := o3.one.2
  have k3e : v3.ob h1.n = _ := (q3.ob _ j3d).trans k3d
  have j3e : h1.n < v3.n := Nat.lt_of_lt_of_le j3d q3.n
  have k4e : v3.ob h2.n = _ := (q3.ob _ j4d).trans k4d
  have j4e : h2.n < v3.n := Nat.lt_of_lt_of_le j4d q3.n
  have k5e : v3.ob (h2.n + 1) = _ := (q3.ob _ j5d).trans k5d
  have j5e : (h2.n + 1) < v3.n := Nat.lt_of_lt_of_le j5d q3.n
  have k6e : v3.ob p6 = _ := (q3.ob _ j6d).trans k6d
  have j6e : p6 < v3.n := Nat.lt_of_lt_of_le j6d q3.n
  have k7e : v3.ob p7 = _ := (q3.ob _ j7d).trans k7d
  have j7e : p7 < v3.n := Nat.lt_of_lt_of_le j7d q3.n
  simp (maxSteps := 1000000) -implicitDefEqProofs only [push_cast, seval, k3b, rd_of k3b, rd1_of k3b, j3b, k4b, rd_of k4b, rd1_of k4b, j4b, k5b, rd_of k5b, rd1_of k5b, j5b, k6b, rd_of k6b, rd1_of k6b, j6b, k7b, rd_of k7b, rd1_of k7b, j7b, k3c, rd_of k3c, rd1_of k3c, j3c, k4c, rd_of k4c, rd1_of k4c, j4c, k5c, rd_of k5c, rd1_of k5c, j5c, k6c, rd_of k6c, rd1_of k6c, j6c, k7c, rd_of k7c, rd1_of k7c, j7c, k3d, rd_of k3d, rd1_of k3d, j3d, k4d, rd_of k4d, rd1_of k4d, j4d, k5d, rd_of k5d, rd1_of k5d, j5d, k6d, rd_of k6d, rd1_of k6d, j6d, k7d, rd_of k7d, rd1_of k7d, j7d, k3e, rd_of k3e, rd1_of k3e, j3e, k4e, rd_of k4e, rd1_of k4e, j4e, k5e, rd_of k5e, rd1_of k5e, j5e, k6e, rd_of k6e, rd1_of k6e, j6e, k7e, rd_of k7e, rd1_of k7e, j7e, yo31, yo32]
  with_reducible refine CD.to (SameStore_r a _ _ _ _ _ o3.rdt (oA4.rdt.pre (q1.trans (q2.trans q3))) zA.sz) ?_
  simp (maxSteps := 1000000) -implicitDefEqProofs only [push_cast, seval, k3e, rd_of k3e, rd1_of k3e, j3e, k4e, rd_of k4e, rd1_of k4e, j4e, k5e, rd_of k5e, rd1_of k5e, j5e, k6e, rd_of k6e, rd1_of k6e, j6e, k7e, rd_of k7e, rd1_of k7e, j7e, yo31, yo32]
  have hOk := StoreOk_i_t L _ _ v3 (oL4.rdt.pre (q1.trans (q2.trans q3))) zL.sz
  rw [okL] at hOk
  with_reducible refine CD.to hOk ?_
  simp (maxSteps := 1000000) -implicitDefEqProofs only [push_cast, seval, k3e, rd_of k3e, rd1_of k3e, j3e, k4e, rd_of k4e, rd1_of k4e, j4e, k5e, rd_of k5e, rd1_of k5e, j5e, k6e, rd_of k6e, rd1_of k6e, j6e, k7e, rd_of k7e, rd1_of k7e, j7e, yo31, yo32]
end Go.Proofs.YtcggnolnakgkeaaDoor
/- From a row to a law: two structs handed in, or one cell, and a table of the library's as it was laid. Conditions: those that each theorem names. -/
set_option linter.unusedVariables false
set_option linter.unusedSimpArgs false
namespace Go.Sim
open Go.ChangeShapes Go.WideShapes Go.RowKit Go.Deep
variable {H : Type} {enc : TypeId × Value → H} {held : Bool} {P : Program}
/-- The heap that a function is called in, a table told. -/
theorem Sim.baseT (w : World) (hg : P.globals.size ≤ w.heap.size) {g : Nat} {nm : String} {k : IntKind} {zs : List Int} (hgs : g < P.globals.size) (hn : P.globalNamed nm = some g) (ht : Lib.TabIs P w nm k zs) :
    Sim P (fun b => b < w.heap.size) w (mu0 w) ⟨w.heap.size, fun i => if i = g then .cells (zs.map (Value.int k)) .ro g else .none⟩ w := by
  have hob : ∀ i cs st ln, (if i = g then AOb.cells (zs.map (Value.int k)) .ro g else .none) = .cells cs st ln → i = g ∧ cs = zs.map (Value.int k) ∧ st = .ro ∧ ln = g := fun i cs st ln e => by
    by_cases x : i = g
    · rw [if_pos x] at e
      simp only [AOb.cells.injEq] at e
      exact ⟨x, e.1.symm, e.2.1.symm, e.2.2.symm⟩
    · rw [if_neg x] at e; cases e
  have hown : ∀ i n, (if i = g then AOb.cells (zs.map (Value.int k)) .ro g else .none).own = some n → False := fun i n e => by
    by_cases x : i = g
    · rw [if_pos x] at e; cases e
    · rw [if_neg x] at e; cases e
  have hmap : ∀ i es, (if i = g then AOb.cells (zs.map (Value.int k)) .ro g else .none) = .map es → False := fun i es e => by
    by_cases x : i = g
    · rw [if_pos x] at e; cases e
    · rw [if_neg x] at e; cases e
  have hcell : ∀ j (hj : j < zs.length), w.cell? ⟨g, j, none⟩ = some (.int k zs[j]) := fun j hj => by
    have := ht.cell hn j hj
    rw [this, List.getD, List.getElem?_eq_getElem hj]; rfl
  have hhp : ∃ arr e fz, w.heap[g]? = some (.cells arr e fz) ∧ arr.size = zs.length := by
    unfold Lib.TabIs World.var? at ht
    rw [hn] at ht
    simp only [Option.bind_some] at ht
    split at ht
    · rename_i cs t fz hh
      refine ⟨cs, t, fz, hh, ?_⟩
      have := Option.some.inj ht
      rw [this]; simp
    · cases ht
  constructor
  case os => rfl
  case tape => rfl
  case out => rfl
  case frame => exact fun b hb => ⟨hb, rfl⟩
  case dom =>
    intro i l hm
    unfold mu0 at hm
    split at hm
    · assumption
    · cases hm
  case big => intro i hi; exact if_neg (by have : w.heap.size ≤ i := hi; omega)
  case glob => intro g hg'; exact ⟨⟨g, 0, 0⟩, by unfold mu0; rw [if_pos (by omega)], rfl, rfl⟩
  case tab =>
    intro i c n _ ho
    obtain ⟨rfl, rfl, _, _⟩ := hob _ _ _ _ ho
    simpa using hhp
  case cell =>
    intro i l c st ln hm ho j hj
    obtain ⟨rfl, rfl, _, _⟩ := hob _ _ _ _ ho
    unfold mu0 at hm
    rw [if_pos (by omega)] at hm
    obtain rfl := Option.some.inj hm
    have hj' : j < zs.length := by simpa using hj
    refine ⟨.int k zs[j], ?_, ?_⟩
    · show w.cell? ⟨i, 0 + j, none⟩ = some (.int k zs[j])
      rw [Nat.zero_add]; exact hcell j hj'
    · simp only [List.getElem_map]
      exact .plain _ rfl
  case blk => intro i l c st ln _ ho hs; exact absurd (hob _ _ _ _ ho).2.2.1 hs
  case rob =>
    intro i l c ln hm ho
    obtain ⟨rfl, _, _, _⟩ := hob _ _ _ _ ho
    unfold mu0 at hm
    rw [if_pos (by omega)] at hm
    obtain rfl := Option.some.inj hm
    show i < w.heap.size
    omega
  case onec =>
    intro i c st n ho v hv
    obtain ⟨_, rfl, _, _⟩ := hob _ _ _ _ ho
    obtain ⟨z, _, rfl⟩ := List.mem_map.1 hv
    rfl
  case sep => intro i j li lj ni nj _ _ oi; exact (hown _ _ oi).elim
  case tip => intro i j li lj ci cj sj ni nj _ _ oi; have := (hob _ _ _ _ oi).2.2.1; cases this
  case tipu => intro i j ci cj n oi; have := (hob _ _ _ _ oi).2.2.1; cases this
  case solo => intro i c n oi; have := (hob _ _ _ _ oi).2.2.1; cases this
  case lin => intro i n oi; exact (hown _ _ oi).elim
  case linc => intro i j n oi; exact (hown _ _ oi).elim
  case mp => intro i l es _ ho; exact (hmap _ _ ho).elim
  case mpu => intro i j li lj es es' _ _ oi; exact (hmap _ _ oi).elim
/-- What is read alone. -/
def AH.clean (h : AH) : AH := ⟨h.n, fun j => match h.ob j with | .cells cs .ro ln => .cells cs .ro ln | _ => .none⟩
theorem clean_ro {h : AH} {j : Nat} {cs : List Value} {ln : Nat} (e : h.ob j = .cells cs .ro ln) : h.clean.ob j = .cells cs .ro ln := by simp only [AH.clean, e]
theorem clean_own (h : AH) (j : Nat) : (h.clean.ob j).own = none := by
  simp only [AH.clean]
  split <;> rfl
theorem clean_less (h : AH) : Less h h.clean := by
  refine ⟨rfl, fun j => ?_⟩
  simp only [AH.clean]
  split
  · rename_i e; exact .inr (.inl e.symm)
  · exact .inl rfl
theorem Rep.clean {h : AH} {t : TypeId} {cs : List Value} (r : Rep P h t cs) : Rep P h.clean t cs := by
  induction r with
  | bool t b ht => exact .bool t b ht
  | int t k n ht hw => exact .int t k n ht hw
  | str t s ht hs => exact .str t s ht hs
  | nil t e c ht => exact .nil t e c ht
  | slice t e id n ln chs ht hid ho hn hm hl hr ih => exact .slice t e id n ln chs ht hid (clean_ro ho) hn hm hl ih
  | struct t fs cks ht hn hr ih => exact .struct t fs cks ht hn ih
theorem row_two_tab {f : FuncId} {t1 t2 : TypeId} {c1 c2 : Array Value} {d1 d2 : DataW H} {ps1 ps2 : List MemPlace} {W : World} (fl : Nat) (hfl1 : flat P fl t1 = true) (hfl2 : flat P fl t2 = true) (hg : P.globals.size ≤ W.heap.size)
    {g : Nat} {nm : String} {k : IntKind} {zs : List Int} (hgs : g < P.globals.size) (hn : P.globalNamed nm = some g) (hT : Lib.TabIs P W nm k zs)
    (ht1 : DataW.Trod enc P W 0 (fun _ => true) held t1 (.agg c1) d1 ps1) (ht2 : DataW.Trod enc P W 0 (fun _ => true) held t2 (.agg c2) d2 ps2)
    (hc : ∀ (h : AH) (a1 a2 : List Value), Rep P h t1 a1 → Rep P h t2 a2 → P.globals.size ≤ h.n → h.ob g = .cells (zs.map (Value.int k)) .ro g → (∀ j, (h.ob j).own = none) → CE P f [.agg a1.toArray, .agg a2.toArray] h fun r _ => r = .bool true) :
    Calls P f #[.agg c1, .agg c2] W fun e W' => e = .returned (.bool true) ∧ Below W.heap.size W W' := by
  obtain ⟨fuel1, hx1⟩ := ht1
  obtain ⟨fuel2, hx2⟩ := ht2
  obtain ⟨μ1, h1, a1, p1, g1, l1, r1⟩ := one_rep (FB := fun b => b < W.heap.size) (w0 := W) (fun b hb => hb) fl fuel1 t1 _ _ hfl1 hx1 (Sim.baseT W hg hgs hn hT)
  obtain ⟨μ2, h2, a2, p2, g2, l2, r2⟩ := one_rep (FB := fun b => b < W.heap.size) (w0 := W) (fun b hb => hb) fl fuel2 t2 _ _ hfl2 hx2 p1.sim
  have l1' := LR.ext p2.ext l1
  have v1 : VR μ2 (.agg a1.toArray) (.agg c1) := .agg _ _ (by simpa [Value.cells] using l1'.1) (fun j a b => by simpa [Value.cells] using l1'.2 j (by simpa using a) (by simpa [Value.cells] using b))
  have v2 : VR μ2 (.agg a2.toArray) (.agg c2) := .agg _ _ (by simpa [Value.cells] using l2.1) (fun j a b => by simpa [Value.cells] using l2.2 j (by simpa using a) (by simpa [Value.cells] using b))
  have hgn : P.globals.size ≤ h2.n := Nat.le_trans (Nat.le_trans hg g1.n) g2.n
  have hgl : g < W.heap.size := by omega
  have eT : h2.ob g = .cells (zs.map (Value.int k)) .ro g := ((g2.ob g (Nat.lt_of_lt_of_le hgl g1.n)).trans (g1.ob g hgl)).trans (if_pos rfl)
  refine hc h2.clean a1 a2 (r1.pre g2).clean r2.clean hgn (clean_ro eT) (clean_own h2) _ _ μ2 W #[.agg c1, .agg c2] _ (p2.sim.less (clean_less h2)) (LR.cons v1 (LR.cons v2 (LR.nil μ2))) (fun r' h' μ' cv w' hr p' hvr => ?_)
  subst hr
  refine ⟨by rw [hvr.bool], ⟨p'.sim.os, p'.sim.tape, p'.sim.out, ?_, fun b hb => (p'.sim.frame b hb).2⟩⟩
  rcases Nat.eq_zero_or_pos W.heap.size with e | e
  · omega
  · have := (p'.sim.frame (W.heap.size - 1) (by omega)).1; omega
theorem row_cell_tab {f : FuncId} {t : TypeId} {v : Value} {d : DataW H} {ps : List MemPlace} {W : World} (fl : Nat) (hfl : flat P fl t = true) (hg : P.globals.size ≤ W.heap.size) (hv : v.cells.toList = [v])
    {g : Nat} {nm : String} {k : IntKind} {zs : List Int} (hgs : g < P.globals.size) (hn : P.globalNamed nm = some g) (hT : Lib.TabIs P W nm k zs)
    (ht : DataW.Trod enc P W 0 (fun _ => true) held t v d ps) (hc : ∀ (h : AH) (av : Value), Rep P h t [av] → P.globals.size ≤ h.n → h.ob g = .cells (zs.map (Value.int k)) .ro g → CE P f [av] h fun r _ => r = .bool true) :
    Calls P f #[v] W fun e W' => e = .returned (.bool true) ∧ Below W.heap.size W W' := by
  obtain ⟨fuel, hx⟩ := ht
  rw [hv] at hx
  obtain ⟨μ, h, acs, p, g1, l, r⟩ := one_rep (FB := fun b => b < W.heap.size) (w0 := W) (fun b hb => hb) fl fuel t [v] _ hfl hx (Sim.baseT W hg hgs hn hT)
  obtain ⟨av, rfl⟩ : ∃ av, acs = [av] := by
    match acs, l.1 with
    | [a], _ => exact ⟨a, rfl⟩
  have hgl : g < W.heap.size := by omega
  refine hc h av r (Nat.le_trans hg g1.n) ((g1.ob g hgl).trans (if_pos rfl)) _ _ μ W #[v] _ p.sim l (fun r' h' μ' cv w' hr p' hvr => ?_)
  subst hr
  refine ⟨by rw [hvr.bool], ⟨p'.sim.os, p'.sim.tape, p'.sim.out, ?_, fun b hb => (p'.sim.frame b hb).2⟩⟩
  rcases Nat.eq_zero_or_pos W.heap.size with e | e
  · omega
  · have := (p'.sim.frame (W.heap.size - 1) (by omega)).1; omega
end Go.Sim
