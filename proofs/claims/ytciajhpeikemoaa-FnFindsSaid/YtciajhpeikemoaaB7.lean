/- Parts of the proof of the row: the ground, contracts of the functions that it reaches (Q11, SimCut, SimZ2, Q12, Q13, Q14, Q15, Q16, Q17, Q18, Q19). Conditions: those that each theorem names. -/
import Derived.Test.YtciajhpeikemoaaB6
namespace Go.Proofs.Ytciajhpeikemoaa
open Go Go.Sim Go.Proofs
set_option linter.unusedSimpArgs false
set_option linter.unusedVariables false
set_option maxRecDepth 100000
set_option maxHeartbeats 1000000
theorem rp_set : readP ⟨#[91, 97, 98, 99, 93]⟩ = some [⟨3, ⟨#[97, 98, 99]⟩, []⟩] := rdE'_eq (by decide +kernel)
theorem rp_not : readP ⟨#[91, 94, 97, 98, 99, 93]⟩ = some [⟨4, ⟨#[97, 98, 99]⟩, []⟩] := rdE'_eq (by decide +kernel)
theorem rp_any : readP ⟨#[46]⟩ = some [⟨2, ⟨#[]⟩, []⟩] := rdE'_eq (by decide +kernel)
theorem six_set (r : Nat) (h : r < 6) : (ml [⟨3, ⟨#[97, 98, 99]⟩, []⟩] ⟨#[UInt8.ofNat (97 + r)]⟩ 0 0).length = (if r < 3 then 1 else 0) ∧ (ml [⟨4, ⟨#[97, 98, 99]⟩, []⟩] ⟨#[UInt8.ofNat (97 + r)]⟩ 0 0).length = (if r < 3 then 0 else 1) ∧ (ml [⟨2, ⟨#[]⟩, []⟩] ⟨#[UInt8.ofNat (97 + r)]⟩ 0 0).length = 1 := by
  have o3 := (readP_ok rp_set).1
  have o4 := (readP_ok rp_not).1
  have o2 := (readP_ok rp_any).1
  have t3 : tk ⟨3, ⟨#[97, 98, 99]⟩, []⟩ ⟨#[UInt8.ofNat (97 + r)]⟩ 0 = decide (r < 3) := by
    have : r = 0 ∨ r = 1 ∨ r = 2 ∨ r = 3 ∨ r = 4 ∨ r = 5 := by omega
    rcases this with rfl | rfl | rfl | rfl | rfl | rfl <;> decide +kernel
  have t4 : tk ⟨4, ⟨#[97, 98, 99]⟩, []⟩ ⟨#[UInt8.ofNat (97 + r)]⟩ 0 = !decide (r < 3) := by
    have : r = 0 ∨ r = 1 ∨ r = 2 ∨ r = 3 ∨ r = 4 ∨ r = 5 := by omega
    rcases this with rfl | rfl | rfl | rfl | rfl | rfl <;> decide +kernel
  have t2 : tk ⟨2, ⟨#[]⟩, []⟩ ⟨#[UInt8.ofNat (97 + r)]⟩ 0 = true := rfl
  have sz : (⟨#[UInt8.ofNat (97 + r)]⟩ : ByteArray).size = 1 := rfl
  generalize (⟨#[UInt8.ofNat (97 + r)]⟩ : ByteArray) = b at *
  have yes : ∀ {x : Pc}, Okp [x] → 1 ≤ x.op ∧ x.op ≤ 4 → tk x b 0 = true → (ml [x] b 0 0).length = 1 := fun {x} o hx ht => by
    rw [ml_yes o (.inl (by omega)) (Nat.zero_le _) (e := 1) (fun j => by rw [leaf1 hx]; exact ⟨fun h => h.2.1, fun h => ⟨by omega, h, ht⟩⟩)]; rfl
  have no : ∀ {x : Pc}, Okp [x] → 1 ≤ x.op ∧ x.op ≤ 4 → tk x b 0 = false → (ml [x] b 0 0).length = 0 := fun {x} o hx ht => by
    rw [ml_no o (.inl (by omega)) (Nat.zero_le _) (fun j => by rw [leaf1 hx, ht]; simp)]; rfl
  by_cases c : r < 3
  · rw [if_pos c, if_pos c]
    refine ⟨yes o3 (by decide) (by rw [t3]; simpa using c), no o4 (by decide) (by rw [t4]; simpa using c), yes o2 (by decide) t2⟩
  · rw [if_neg c, if_neg c]
    refine ⟨no o3 (by decide) (by rw [t3]; simpa using c), yes o4 (by decide) (by rw [t4]; simpa using c), yes o2 (by decide) t2⟩
theorem any_none : ml [⟨2, ⟨#[]⟩, []⟩] ⟨#[]⟩ 0 0 = [] :=
  ml_no (readP_ok rp_any).1 (.inl (by decide)) (Nat.zero_le _) (fun j => by rw [leaf1 (by decide)]; exact fun h => absurd h.1 (by decide))
theorem law_Sets (A : Option Addr) (c : Nat) (l : List Nat) (h : AH) (hR : RdE h A 1 byV l) (hl : ∀ n ∈ l, n < 256) (hn : l.length ≤ 1048576) : CE Try.prog 9 [.slice A l.length c] h fun v _ => v = .bool true := by
  have hml := maxLen_eq
  refine CE.withBig (fun big => ?_)
  refine CE.ofN Try.func9 Try.ntmps9 Try.results9 rfl (by kernel_rfl) ?_
  simp (maxSteps := 1000000) -implicitDefEqProofs only [push_cast, seval]
  with_reducible refine CD.to (big_c A l.length c h) ?_
  simp (maxSteps := 1000000) -implicitDefEqProofs only [push_cast, seval]
  have nb : decide ((1048576 : Int) < l.length) = false := decide_eq_false (by omega)
  simp (maxSteps := 1000000) -implicitDefEqProofs only [push_cast, seval, nb]
  with_reducible refine CC.mono (DrawPlaces_c A c l h hR hl hn) (fun v h1 hv => ?_)
  have p1 := hv.2
  have hps := hv.1
  clear hv
  with_reducible refine Exists.elim hps (fun ps hps => ?_)
  have plen := hps.1
  have plt := hps.2.1
  have rp := hps.2.2
  clear hps
  have yv := rp.one
  have rl : ∃ X : Nat, X < 10000 ∧ ∃ id off c, v = .slice (some ⟨id, off, none⟩) ps.length c ∧ id < h1.n ∧ rd h1 id (off + 0 * 1) 1 = some (encNa X) := by
    refine ⟨ps[0], plt _ (List.getElem_mem _), rp.el (fun _ => rfl) (show 0 < ps.length by omega)⟩
  with_reducible refine Exists.elim rl (fun X rl => ?_)
  have hX := rl.1
  have rl := rl.2
  with_reducible refine Exists.elim rl (fun id rl => ?_)
  with_reducible refine Exists.elim rl (fun off rl => ?_)
  with_reducible refine Exists.elim rl (fun cc rl => ?_)
  have erv := rl.1
  have hlt := rl.2.1
  have hrd := rl.2.2
  clear rl
  subst erv
  simp only [encNa, Nat.zero_mul, Nat.add_zero] at hrd
  have r0 := rd_1 hrd
  have tm : (X : Int).tmod 6 = ((X % 6 : Nat) : Int) := by rw [Int.tmod_eq_emod_of_nonneg (by omega)]; rfl
  have hr := Nat.mod_lt X (show 0 < 6 by omega)
  have w1 : IntKind.i64.wrap (97 + ((X % 6 : Nat) : Int)) = ((97 + X % 6 : Nat) : Int) := by rw [w64 (by omega) (by omega)]; omega
  have w2 : IntKind.u8.wrap ((97 + X % 6 : Nat) : Int) = ((97 + X % 6 : Nat) : Int) := w8 (by omega) (by omega)
  have rb := six_set (X % 6) hr
  have tm3 := tm
  generalize X % 6 = r at *
  with_reducible refine nameN (97 + r) (fun N hN => ?_)
  rw [← hN] at w1 w2 rb
  simp (maxSteps := 1000000) -implicitDefEqProofs only [push_cast, seval, plen, tm, w1, w2, r0, hlt]
  have sB : (⟨#[UInt8.ofNat N]⟩ : ByteArray).size = 1 := rfl
  generalize (⟨#[UInt8.ofNat N]⟩ : ByteArray) = B at *
  have px : Pre h1 (h1.alloc (.cells [.int .u8 (N : Nat)] .solo h1.n)) := (Pre.refl h1).alloc _
  generalize (h1.alloc (.cells [.int .u8 (N : Nat)] .solo h1.n)) = h1' at *
  with_reducible refine ends_toZ (i := 0) (z := 0) rp_set rfl (Nat.zero_le _) (by omega) (by have : (⟨#[91, 97, 98, 99, 93]⟩ : ByteArray).size = 5 := rfl; omega) (fun v3 h3 r3 p3 => ?_)
  have r3 := r3.rde (fun _ => rfl)
  with_reducible refine Exists.elim r3 (fun A3 r3 => ?_)
  with_reducible refine Exists.elim r3 (fun c3 r3 => ?_)
  have e3 := r3.1
  clear r3
  subst e3
  rw [show ([⟨3, ⟨#[97, 98, 99]⟩, []⟩] : List Pc).length - 1 = 0 from rfl]
  simp (maxSteps := 1000000) -implicitDefEqProofs only [push_cast, seval]
  with_reducible refine ends_toZ (i := 0) (z := 0) rp_not rfl (Nat.zero_le _) (by omega) (by have : (⟨#[91, 94, 97, 98, 99, 93]⟩ : ByteArray).size = 6 := rfl; omega) (fun v4 h4 r4 p4 => ?_)
  have r4 := r4.rde (fun _ => rfl)
  with_reducible refine Exists.elim r4 (fun A4 r4 => ?_)
  with_reducible refine Exists.elim r4 (fun c4 r4 => ?_)
  have e4 := r4.1
  clear r4
  subst e4
  rw [show ([⟨4, ⟨#[97, 98, 99]⟩, []⟩] : List Pc).length - 1 = 0 from rfl]
  simp (maxSteps := 1000000) -implicitDefEqProofs only [push_cast, seval]
  with_reducible refine CC.mono (DrawReadPattern_c A c l h4 (hR.pre big (((p1.trans px).trans p3).trans p4)) hl hn) (fun v h5' hv => ?_)
  have p5' := hv.2
  have ht := hv.1
  clear hv
  with_reducible refine Exists.elim ht (fun t ht => ?_)
  have et := ht.1
  have zt := ht.2
  clear ht
  subst et
  simp (maxSteps := 1000000) -implicitDefEqProofs only [push_cast, seval]
  with_reducible refine CC.mono (ReadPattern_i t h5' (by omega)) (fun v h5 hv => ?_)
  have p5 := hv.1
  have hv2 := hv.2
  clear hv
  unfold PatV at hv2
  with_reducible refine Or.elim hv2 (fun hn0 => ?_) (fun hy => ?_)
  · have et := hn0.1
    have ev := hn0.2
    clear hn0 hv2
    subst ev
    have u1 : Sim.one (.slice none 0 0) = true := rfl
    have c1 : (Value.slice none 0 0).cells = #[.slice none 0 0] := rfl
    simp (maxSteps := 1000000) -implicitDefEqProofs only [push_cast, seval, u1, c1, all1]
    have pq : Pre h5 ((h5.alloc (.cells [.slice none 0 0] .solo h5.n)).set h5.n (.cells [.slice none 0 0] .solo h5.n)) := ((Pre.refl h5).alloc _).set (Nat.le_refl _) _
    have eq5 : ((h5.alloc (.cells [.slice none 0 0] .solo h5.n)).set h5.n (.cells [.slice none 0 0] .solo h5.n)).ob h5.n = .cells [.slice none 0 0] .solo h5.n := set_same _ _
    have nq5 : ((h5.alloc (.cells [.slice none 0 0] .solo h5.n)).set h5.n (.cells [.slice none 0 0] .solo h5.n)).n = h5.n + 1 := rfl
    generalize ((h5.alloc (.cells [.slice none 0 0] .solo h5.n)).set h5.n (.cells [.slice none 0 0] .solo h5.n)) = h6 at *
    with_reducible refine CC.mono (ReadPattern_s t h6 (by omega)) (fun v h7 hv => ?_)
    have p7 := hv.1
    have hv2 := hv.2
    clear hv
    have hw : ∃ rw2, v = .tuple #[.agg #[rw2], .bool false] ∧ Sim.one rw2 = true ∧ rw2.cells = #[rw2] := by
      rcases hv2 with ⟨e, ev⟩ | ⟨rv2, L2, e, ev, w2⟩
      · exact ⟨_, ev, rfl, rfl⟩
      · rw [et] at e; cases e
    clear hv2
    with_reducible refine Exists.elim hw (fun rw2 hw => ?_)
    have ev2 := hw.1
    have u2 := hw.2.1
    have c2 := hw.2.2
    clear hw
    subst ev2
    simp (maxSteps := 1000000) -implicitDefEqProofs only [push_cast, seval, u2, c2, all1]
    have ps : Pre h7 ((h7.alloc (.cells [.slice none 0 0] .solo h7.n)).set h7.n (.cells [rw2] .solo h7.n)) := ((Pre.refl h7).alloc _).set (Nat.le_refl _) _
    generalize ((h7.alloc (.cells [.slice none 0 0] .solo h7.n)).set h7.n (.cells [rw2] .solo h7.n)) = h8 at *
    with_reducible refine CC.mono (DrawPatternOk_c A c l h8 (hR.pre big (((((p1.trans px).trans p3).trans p4).trans p5').trans (((p5.trans pq).trans p7).trans ps))) hl hn) (fun v h9 hv => ?_)
    have p9 := hv.2
    have hv := hv.1
    with_reducible refine Exists.elim hv (fun rz hv => ?_)
    with_reducible refine Exists.elim hv (fun M hv => ?_)
    have ev := hv.1
    have wz := hv.2.1
    have zm := hv.2.2
    clear hv
    subst ev
    have u3 := wz.r.one
    have c3 : rz.cells = #[rz] := by rcases wz.r with ⟨c, rfl, _⟩ | ⟨id, off, c, rfl, _, _⟩ <;> rfl
    simp (maxSteps := 1000000) -implicitDefEqProofs only [push_cast, seval, u3, c3, all1]
    have pt : Pre h9 ((h9.alloc (.cells [.slice none 0 0] .solo h9.n)).set h9.n (.cells [rz] .solo h9.n)) := ((Pre.refl h9).alloc _).set (Nat.le_refl _) _
    have e10 : ((h9.alloc (.cells [.slice none 0 0] .solo h9.n)).set h9.n (.cells [rz] .solo h9.n)).ob h9.n = .cells [rz] .solo h9.n := set_same _ _
    have n10 : ((h9.alloc (.cells [.slice none 0 0] .solo h9.n)).set h9.n (.cells [rz] .solo h9.n)).n = h9.n + 1 := rfl
    generalize ((h9.alloc (.cells [.slice none 0 0] .solo h9.n)).set h9.n (.cells [rz] .solo h9.n)) = h10 at *
    have pA := ((px.trans p3).trans p4).trans (p5'.trans p5)
    have pB := ((pq.trans p7).trans ps).trans (p9.trans pt)
    have r10 : rd1 h10 id off = some (.int .i64 (X : Nat)) := ((pA.trans pB).rd1 hlt _).trans r0
    have hlt10 : id < h10.n := Nat.lt_of_lt_of_le hlt (pA.trans pB).n
    have e6 : h10.ob h5.n = _ := (((p7.trans ps).trans (p9.trans pt)).ob _ (by omega)).trans eq5
    have l6 : h5.n < h10.n := by have := ((p7.trans ps).trans (p9.trans pt)).n; omega
    have l10 : h9.n < h10.n := by omega
    refine WC.draw' (by kernel_rfl) (by kernel_rfl) (.q 0 (.q 1 (.q 2 (.q 3 (.q 4 (.q 5 (.q 6 (.q 7 (.q 8 (.q 9 (.q 10 (.q 11 (.q 12 (.q 13 (.q 14 (.q 15 (.a 16 false (.q 17 (.q 18 (.q 19 (.q 20 (.a 21 false (.q 22 (.q 23 (.q 24 (.q 25 (.q 26 (.q 27 (.q 28 (.q 29 (.q 30 (.q 31 (.q 32 (.q 33 (.q 34 (.a 35 false (.q 36 (.q 37 (.q 38 (.q 39 (.q 41 (.a 40 false (.a 42 false (.q 43 (.q 44 (.q 45 (.done))))))))))))))))))))))))))))))))))))))))))))))) (by kernel_rfl) ?_
    simp (maxSteps := 1000000) -implicitDefEqProofs only [push_cast, seval, plen, tm, r10, hlt10]
    have xy : decide (IntKind.i64.wrap (((ml [⟨3, ⟨#[97, 98, 99]⟩, []⟩] B 0 0).length : Int) + (ml [⟨4, ⟨#[97, 98, 99]⟩, []⟩] B 0 0).length) = 1) = true := by
      rw [rb.1, rb.2.1]
      by_cases c : r < 3
      · rw [if_pos c, if_pos c]; decide
      · rw [if_neg c, if_neg c]; decide
    have xz : (decide (((ml [⟨3, ⟨#[97, 98, 99]⟩, []⟩] B 0 0).length : Int) = 1) == decide ((r : Int) < 3)) = true := by
      rw [rb.1]
      by_cases c : r < 3
      · rw [if_pos c, decide_eq_true (show (r : Int) < 3 by omega)]; decide
      · rw [if_neg c, decide_eq_false (show ¬ (r : Int) < 3 by omega)]; decide
    simp (maxSteps := 1000000) -implicitDefEqProofs only [push_cast, seval, xy, xz, plen, tm, r10, hlt10]
    with_reducible refine ends_toZ (i := 0) (z := 0) rp_any rfl (Nat.zero_le _) (by omega) (by have : (⟨#[46]⟩ : ByteArray).size = 1 := rfl; omega) (fun v11 h11 r11 p11 => ?_)
    have r11 := r11.rde (fun _ => rfl)
    with_reducible refine Exists.elim r11 (fun A11 r11 => ?_)
    with_reducible refine Exists.elim r11 (fun c11 r11 => ?_)
    have e11 := r11.1
    clear r11
    rw [show ([⟨2, ⟨#[]⟩, []⟩] : List Pc).length - 1 = 0 from rfl, rb.2.2] at e11
    subst e11
    simp (maxSteps := 1000000) -implicitDefEqProofs only [push_cast, seval]
    refine And.intro (p11.ob _ hlt10) ?_
    with_reducible refine ends_toZ (i := 0) (z := 0) rp_any rfl (Nat.zero_le _) (by decide) (by have : (⟨#[46]⟩ : ByteArray).size = 1 := rfl; omega) (fun v12 h12 r12 p12 => ?_)
    have r12 := r12.rde (fun _ => rfl)
    with_reducible refine Exists.elim r12 (fun A12 r12 => ?_)
    with_reducible refine Exists.elim r12 (fun c12 r12 => ?_)
    have e12 := r12.1
    clear r12
    rw [show ([⟨2, ⟨#[]⟩, []⟩] : List Pc).length - 1 = 0 from rfl, any_none] at e12
    subst e12
    have e6' : h12.ob h5.n = _ := ((p11.trans p12).ob _ l6).trans e6
    have l6' : h5.n < h12.n := by have := (p11.trans p12).n; omega
    have e10' : h12.ob h9.n = _ := ((p11.trans p12).ob _ l10).trans e10
    have l10' : h9.n < h12.n := by have := (p11.trans p12).n; omega
    have wz12 := wz.pre (pt.trans (p11.trans p12))
    have q12 := p12.ob _ (Nat.lt_of_lt_of_le hlt10 p11.n)
    simp (maxSteps := 1000000) -implicitDefEqProofs only [push_cast, seval]
    refine And.intro q12 ?_
    simp (maxSteps := 1000000) -implicitDefEqProofs only [push_cast, seval, e6', rd_of e6', rd1_of e6', l6', e10', rd_of e10', rd1_of e10', l10', u1, c1, u3, c3, all1, beq_self_eq_true]
    with_reducible refine CD.to (PatternOk_zi rz M h12 wz12 zm) ?_
    simp (maxSteps := 1000000) -implicitDefEqProofs only [push_cast, seval, e6', rd_of e6', rd1_of e6', l6', e10', rd_of e10', rd1_of e10', l10', u1, c1, u3, c3, all1]
    with_reducible refine CD.to (PatternOk_zs rz M h12 wz12 zm) ?_
    simp (maxSteps := 1000000) -implicitDefEqProofs only [push_cast, seval, beq_self_eq_true]
  · with_reducible refine Exists.elim hy (fun rq hy => ?_)
    with_reducible refine Exists.elim hy (fun LQ hy => ?_)
    have et := hy.1
    have ev := hy.2.1
    have wq := hy.2.2
    clear hy hv2
    subst ev
    have u1 := wq.r.one
    have c1 := wq.r.cell1
    simp (maxSteps := 1000000) -implicitDefEqProofs only [push_cast, seval, u1, c1, all1]
    have pq : Pre h5 ((h5.alloc (.cells [.slice none 0 0] .solo h5.n)).set h5.n (.cells [rq] .solo h5.n)) := ((Pre.refl h5).alloc _).set (Nat.le_refl _) _
    have eq5 : ((h5.alloc (.cells [.slice none 0 0] .solo h5.n)).set h5.n (.cells [rq] .solo h5.n)).ob h5.n = .cells [rq] .solo h5.n := set_same _ _
    have nq5 : ((h5.alloc (.cells [.slice none 0 0] .solo h5.n)).set h5.n (.cells [rq] .solo h5.n)).n = h5.n + 1 := rfl
    generalize ((h5.alloc (.cells [.slice none 0 0] .solo h5.n)).set h5.n (.cells [rq] .solo h5.n)) = h6 at *
    with_reducible refine CC.mono (ReadPattern_s t h6 (by omega)) (fun v h7 hv => ?_)
    have p7 := hv.1
    have hv2 := hv.2
    clear hv
    have hw : ∃ rw2, v = .tuple #[.agg #[rw2], .bool true] ∧ Sim.one rw2 = true ∧ rw2.cells = #[rw2] := by
      rcases hv2 with ⟨e, ev⟩ | ⟨rv2, L2, e, ev, w2⟩
      · rw [et] at e; cases e
      · exact ⟨_, ev, w2.r.one, w2.r.cell1⟩
    clear hv2
    with_reducible refine Exists.elim hw (fun rw2 hw => ?_)
    have ev2 := hw.1
    have u2 := hw.2.1
    have c2 := hw.2.2
    clear hw
    subst ev2
    simp (maxSteps := 1000000) -implicitDefEqProofs only [push_cast, seval, u2, c2, all1]
    have ps : Pre h7 ((h7.alloc (.cells [.slice none 0 0] .solo h7.n)).set h7.n (.cells [rw2] .solo h7.n)) := ((Pre.refl h7).alloc _).set (Nat.le_refl _) _
    generalize ((h7.alloc (.cells [.slice none 0 0] .solo h7.n)).set h7.n (.cells [rw2] .solo h7.n)) = h8 at *
    with_reducible refine CC.mono (DrawPatternOk_c A c l h8 (hR.pre big (((((p1.trans px).trans p3).trans p4).trans p5').trans (((p5.trans pq).trans p7).trans ps))) hl hn) (fun v h9 hv => ?_)
    have p9 := hv.2
    have hv := hv.1
    with_reducible refine Exists.elim hv (fun rz hv => ?_)
    with_reducible refine Exists.elim hv (fun M hv => ?_)
    have ev := hv.1
    have wz := hv.2.1
    have zm := hv.2.2
    clear hv
    subst ev
    have u3 := wz.r.one
    have c3 : rz.cells = #[rz] := by rcases wz.r with ⟨c, rfl, _⟩ | ⟨id, off, c, rfl, _, _⟩ <;> rfl
    simp (maxSteps := 1000000) -implicitDefEqProofs only [push_cast, seval, u3, c3, all1]
    have pt : Pre h9 ((h9.alloc (.cells [.slice none 0 0] .solo h9.n)).set h9.n (.cells [rz] .solo h9.n)) := ((Pre.refl h9).alloc _).set (Nat.le_refl _) _
    have e10 : ((h9.alloc (.cells [.slice none 0 0] .solo h9.n)).set h9.n (.cells [rz] .solo h9.n)).ob h9.n = .cells [rz] .solo h9.n := set_same _ _
    have n10 : ((h9.alloc (.cells [.slice none 0 0] .solo h9.n)).set h9.n (.cells [rz] .solo h9.n)).n = h9.n + 1 := rfl
    generalize ((h9.alloc (.cells [.slice none 0 0] .solo h9.n)).set h9.n (.cells [rz] .solo h9.n)) = h10 at *
    have pA := ((px.trans p3).trans p4).trans (p5'.trans p5)
    have pB := ((pq.trans p7).trans ps).trans (p9.trans pt)
    have r10 : rd1 h10 id off = some (.int .i64 (X : Nat)) := ((pA.trans pB).rd1 hlt _).trans r0
    have hlt10 : id < h10.n := Nat.lt_of_lt_of_le hlt (pA.trans pB).n
    have e6 : h10.ob h5.n = _ := (((p7.trans ps).trans (p9.trans pt)).ob _ (by omega)).trans eq5
    have l6 : h5.n < h10.n := by have := ((p7.trans ps).trans (p9.trans pt)).n; omega
    have l10 : h9.n < h10.n := by omega
    refine WC.draw' (by kernel_rfl) (by kernel_rfl) (.q 0 (.q 1 (.q 2 (.q 3 (.q 4 (.q 5 (.q 6 (.q 7 (.q 8 (.q 9 (.q 10 (.q 11 (.q 12 (.q 13 (.q 14 (.q 15 (.a 16 false (.q 17 (.q 18 (.q 19 (.q 20 (.a 21 false (.q 22 (.q 23 (.q 24 (.q 25 (.q 26 (.q 27 (.q 28 (.q 29 (.q 30 (.q 31 (.q 32 (.q 33 (.q 34 (.a 35 false (.q 36 (.q 37 (.q 38 (.q 39 (.q 41 (.a 40 false (.a 42 false (.q 43 (.q 44 (.q 45 (.done))))))))))))))))))))))))))))))))))))))))))))))) (by kernel_rfl) ?_
    simp (maxSteps := 1000000) -implicitDefEqProofs only [push_cast, seval, plen, tm, r10, hlt10]
    have xy : decide (IntKind.i64.wrap (((ml [⟨3, ⟨#[97, 98, 99]⟩, []⟩] B 0 0).length : Int) + (ml [⟨4, ⟨#[97, 98, 99]⟩, []⟩] B 0 0).length) = 1) = true := by
      rw [rb.1, rb.2.1]
      by_cases c : r < 3
      · rw [if_pos c, if_pos c]; decide
      · rw [if_neg c, if_neg c]; decide
    have xz : (decide (((ml [⟨3, ⟨#[97, 98, 99]⟩, []⟩] B 0 0).length : Int) = 1) == decide ((r : Int) < 3)) = true := by
      rw [rb.1]
      by_cases c : r < 3
      · rw [if_pos c, decide_eq_true (show (r : Int) < 3 by omega)]; decide
      · rw [if_neg c, decide_eq_false (show ¬ (r : Int) < 3 by omega)]; decide
    simp (maxSteps := 1000000) -implicitDefEqProofs only [push_cast, seval, xy, xz, plen, tm, r10, hlt10]
    with_reducible refine ends_toZ (i := 0) (z := 0) rp_any rfl (Nat.zero_le _) (by omega) (by have : (⟨#[46]⟩ : ByteArray).size = 1 := rfl; omega) (fun v11 h11 r11 p11 => ?_)
    have r11 := r11.rde (fun _ => rfl)
    with_reducible refine Exists.elim r11 (fun A11 r11 => ?_)
    with_reducible refine Exists.elim r11 (fun c11 r11 => ?_)
    have e11 := r11.1
    clear r11
    rw [show ([⟨2, ⟨#[]⟩, []⟩] : List Pc).length - 1 = 0 from rfl, rb.2.2] at e11
    subst e11
    simp (maxSteps := 1000000) -implicitDefEqProofs only [push_cast, seval]
    refine And.intro (p11.ob _ hlt10) ?_
    with_reducible refine ends_toZ (i := 0) (z := 0) rp_any rfl (Nat.zero_le _) (by decide) (by have : (⟨#[46]⟩ : ByteArray).size = 1 := rfl; omega) (fun v12 h12 r12 p12 => ?_)
    have r12 := r12.rde (fun _ => rfl)
    with_reducible refine Exists.elim r12 (fun A12 r12 => ?_)
    with_reducible refine Exists.elim r12 (fun c12 r12 => ?_)
    have e12 := r12.1
    clear r12
    rw [show ([⟨2, ⟨#[]⟩, []⟩] : List Pc).length - 1 = 0 from rfl, any_none] at e12
    subst e12
    have e6' : h12.ob h5.n = _ := ((p11.trans p12).ob _ l6).trans e6
    have l6' : h5.n < h12.n := by have := (p11.trans p12).n; omega
    have e10' : h12.ob h9.n = _ := ((p11.trans p12).ob _ l10).trans e10
    have l10' : h9.n < h12.n := by have := (p11.trans p12).n; omega
    have wz12 := wz.pre (pt.trans (p11.trans p12))
    have q12 := p12.ob _ (Nat.lt_of_lt_of_le hlt10 p11.n)
    simp (maxSteps := 1000000) -implicitDefEqProofs only [push_cast, seval]
    refine And.intro q12 ?_
    simp (maxSteps := 1000000) -implicitDefEqProofs only [push_cast, seval, e6', rd_of e6', rd1_of e6', l6', e10', rd_of e10', rd1_of e10', l10', u1, c1, u3, c3, all1, beq_self_eq_true]
    have kq := readP_ok et
    rw [List.length_map] at kq
    with_reducible refine CD.to (PatternOk_c rq LQ h12 (wq.pre (pq.trans (((p7.trans ps).trans (p9.trans pt)).trans (p11.trans p12)))) kq.1 kq.2.1 kq.2.2) ?_
    simp (maxSteps := 1000000) -implicitDefEqProofs only [push_cast, seval, e6', rd_of e6', rd1_of e6', l6', e10', rd_of e10', rd1_of e10', l10', u1, c1, u3, c3, all1]
    with_reducible refine CD.to (PatternOk_zi rz M h12 wz12 zm) ?_
    simp (maxSteps := 1000000) -implicitDefEqProofs only [push_cast, seval, e6', rd_of e6', rd1_of e6', l6', e10', rd_of e10', rd1_of e10', l10', u1, c1, u3, c3, all1]
    with_reducible refine CD.to (PatternOk_zs rz M h12 wz12 zm) ?_
    simp (maxSteps := 1000000) -implicitDefEqProofs only [push_cast, seval, beq_self_eq_true]
theorem law_Sets0 (A : Option Addr) (c : Nat) (l : List Nat) (h : AH) (hR : RdE h A 1 byV l) (hl : ∀ n ∈ l, n < 256) (hn : l.length ≤ maxLen) : CE Try.prog 9 [.slice A l.length c] h fun v _ => v = .bool true := by
  by_cases hb : l.length ≤ 1048576
  · exact law_Sets A c l h hR hl hb
  refine CE.ofN Try.func9 Try.ntmps9 Try.results9 rfl (by kernel_rfl) ?_
  simp (maxSteps := 1000000) -implicitDefEqProofs only [push_cast, seval]
  with_reducible refine CD.to (big_c A l.length c h) ?_
  have nb : decide ((1048576 : Int) < l.length) = true := decide_eq_true (by omega)
  simp (maxSteps := 1000000) -implicitDefEqProofs only [push_cast, seval, nb]
end Go.Proofs.Ytciajhpeikemoaa
/- Slices of the call's own that are cut and appended to again. Conditions: those that each theorem names. -/
set_option linter.unusedVariables false
set_option linter.unusedSimpArgs false
namespace Go.Sim
variable {P : Program} {h : AH}
/-- One's own slice of cells, of a line; what stands behind it in the object is nobody's any more. -/
structure Cu (h : AH) (id off n ln : Nat) (cs : List Value) : Prop where
  lt : id < h.n
  len : cs.length = n
  ob : ∃ all st, h.ob id = .cells all st ln ∧ (st = .solo ∨ st = .tip) ∧ off + n ≤ all.length ∧ (all.drop off).take n = cs
theorem Cu.line {id off n ln : Nat} {cs : List Value} (w : Cu h id off n ln cs) : Line h id ln := by
  obtain ⟨all, st, e, hs, _⟩ := w.ob
  exact ⟨all, st, e, hs⟩
theorem Cu.own {id off n ln : Nat} {cs : List Value} (w : Cu h id off n ln cs) : (h.ob id).own = some ln := by
  obtain ⟨all, st, e, hs, _⟩ := w.ob
  rw [e]
  rcases hs with rfl | rfl <;> rfl
theorem Cu.same {h' : AH} {id off n ln : Nat} {cs : List Value} (w : Cu h id off n ln cs) (e : h'.ob id = h.ob id) (hn : h.n ≤ h'.n) : Cu h' id off n ln cs :=
  ⟨Nat.lt_of_lt_of_le w.lt hn, w.len, by rw [e]; exact w.ob⟩
theorem Cu.cut {id off n ln m : Nat} {cs : List Value} (w : Cu h id off n ln cs) (hm : m ≤ n) : Cu h id off m ln (cs.take m) := by
  obtain ⟨all, st, e, hs, hl, hd⟩ := w.ob
  refine ⟨w.lt, by rw [List.length_take, w.len]; omega, all, st, e, hs, by omega, ?_⟩
  rw [← hd, List.take_take, Nat.min_eq_left hm]
theorem Cu.rd {id off n ln : Nat} {cs : List Value} (w : Cu h id off n ln cs) : Sim.rd h id off n = some cs := by
  obtain ⟨all, st, e, hs, hl, hd⟩ := w.ob
  rw [rd_of e, rdO_cells, if_pos hl, hd]
theorem Cu.rd1 {id off n ln : Nat} {cs : List Value} (w : Cu h id off n ln cs) {j : Nat} (hj : j < n) : Sim.rd1 h id (off + j) = cs[j]? := rd_rd1 w.rd hj
theorem Cu.new {id : Nat} (x : List Value) (e : h.n = id) : Cu (h.alloc (.cells x .solo h.n)) id 0 x.length id x := by
  subst e
  exact ⟨Nat.lt_succ_self _, rfl, x, .solo, alloc_same _, .inl rfl, by omega, by simp⟩
theorem Cu.wr {id off n ln : Nat} {cs : List Value} (w : Cu h id off n ln cs) {lo : Nat} (hb : lo < n) {v : Value} {K : AH → Prop}
    (hk : ∀ h', Cu h' id off n ln (cs.set lo v) → h'.n = h.n → (∀ i, i ≠ id → (h.ob i).own ≠ some ln → h'.ob i = h.ob i) → K h') : onS (wrO h id (h.ob id) (off + lo) [v]) K := by
  obtain ⟨all, st, e, hs, hl, hd⟩ := w.ob
  obtain ⟨h', e1, hn, e2, e3⟩ := wrO_own e hs [v] (off := off + lo) (by simp; omega)
  rw [e1]
  refine hk h' ⟨by rw [hn]; exact w.lt, by rw [List.length_set, w.len], putL all (off + lo) [v], st, e2, hs, by rw [putL_length]; exact hl, ?_⟩ hn e3
  rw [← hd]
  show (List.drop off (all.set (off + lo) v)).take n = _
  rw [List.drop_set, if_neg (by omega), Nat.add_sub_cancel_left, List.take_set]
theorem app_cut {t u e : TypeId} {b : Nat} {z : List Value} {ag : Bool} {id off n ln : Nat} {cs new : List Value} {m : Nat} {x : Value} {K : Value → AH → Prop}
    (hs : si P t = some (e, ⟨1, b, z, ag⟩)) (hby : b ≤ 256) (hu : notInt (P.underlying u)) (w : Cu h id off n ln cs) (hx : asrc h 1 x = some (m, new)) (hm : new.length = m) (hb : n + m < 274877906944)
    (hk : ∀ h', Cu h' h.n 0 (n + m) ln (cs ++ new) → h'.n = h.n + 1 → (∀ i, i < h.n → (h.ob i).own ≠ some ln → h'.ob i = h.ob i) → K (.slice (some ⟨h.n, 0, none⟩) (n + m) 1) h') :
    aappend P h t u (.slice (some ⟨id, off, none⟩) n 1) x K := by
  have wo := w.own
  obtain ⟨all, st, ho, hst, hl, rfl⟩ := w.ob
  have hne : h.n ≠ id := fun e => by have := w.lt; omega
  refine aapp_to ?_
  unfold aapp
  rw [hs]
  simp only [hx]
  refine ⟨by decide, hby, hu.1, hu.2, ?_⟩
  by_cases c : off + n * 1 = all.length
  · have hap : apd h id off n 1 new = some ((h.set id (.cells all .old ln)).alloc (.cells (all.drop off ++ new) .tip ln)) := by
      unfold apd
      rw [ho]
      rcases hst with rfl | rfl <;> simp [c] <;> omega
    simp only [hap]
    refine ⟨trivial, hb, ?_⟩
    have e0 : ((h.set id (.cells all .old ln)).alloc (.cells (all.drop off ++ new) .tip ln)).ob h.n = .cells (all.drop off ++ new) .tip ln := alloc_same (h := h.set id (.cells all .old ln)) _
    have ed : (all.drop off).take n = all.drop off := List.take_of_length_le (by rw [List.length_drop]; omega)
    refine hk _ ⟨Nat.lt_succ_self h.n, by rw [List.length_append, hm, w.len], _, .tip, e0, .inr rfl, by rw [List.length_append, List.length_drop]; omega, ?_⟩ rfl (fun i hi hne' => ?_)
    · rw [List.drop_zero, ed, List.take_of_length_le (by rw [List.length_append, List.length_drop]; omega)]
    · rw [alloc_lt _ (show i < (h.set id (.cells all .old ln)).n from hi), set_ne _ (fun e => hne' (by rw [e]; exact wo))]
  · have hap : apd h id off n 1 new = some ((h.kill ln).alloc (.cells ((all.drop off).take n ++ new) .tip ln)) := by
      unfold apd
      rw [ho]
      have c1 : ¬ off + n = all.length := by omega
      have c2 : off + n < all.length := by omega
      rcases hst with rfl | rfl <;> simp [c1, c2]
    simp only [hap]
    refine ⟨trivial, hb, ?_⟩
    have e0 : ((h.kill ln).alloc (.cells ((all.drop off).take n ++ new) .tip ln)).ob h.n = .cells ((all.drop off).take n ++ new) .tip ln := alloc_same (h := h.kill ln) _
    have wl := w.len
    refine hk _ ⟨Nat.lt_succ_self h.n, by rw [List.length_append, hm, w.len], _, .tip, e0, .inr rfl, by rw [List.length_append, wl]; omega, ?_⟩ rfl (fun i hi hne' => ?_)
    · rw [List.drop_zero, List.take_of_length_le (by rw [List.length_append, wl]; omega)]
    · rw [alloc_lt _ (show i < (h.kill ln).n from hi)]
      simp only [AH.kill, hne', if_false]
end Go.Sim
/- The document's matchers in memory. Conditions: none. -/
set_option linter.unusedSimpArgs false
set_option linter.unusedVariables false
namespace Go.Sim
variable {P : Program} {h h' : AH}
noncomputable def mB (L : List Pc) (s : ByteArray) (k i : Nat) : Nat → Bool := fun j => @decide (Mt L s k i j) (Classical.propDecidable _)
theorem mB_iff {L : List Pc} {s : ByteArray} {k i j : Nat} : mB L s k i j = true ↔ Mt L s k i j := by unfold mB; exact @decide_eq_true_iff _ (Classical.propDecidable _)
def encSl (s : ByteArray) (i : Nat) : List Value := [.slice (some ⟨i, 0, none⟩) (s.size + 1) 1]
def nilS : Value := .slice none 0 0
def eT (n : Nat) (t : Nat → Option Value) : List Value := (List.range n).map fun i => (t i).getD nilS
theorem eT_len (n : Nat) (t : Nat → Option Value) : (eT n t).length = n := by simp [eT]
theorem eT_get {n : Nat} (t : Nat → Option Value) {i : Nat} (h : i < n) : (eT n t)[i]? = some ((t i).getD nilS) := by simp [eT, h]
def updT (T : Nat → Nat → Option Value) (k i : Nat) (v : Value) : Nat → Nat → Option Value := fun k' i' => if k' = k ∧ i' = i then some v else T k' i'
theorem updT_same (T : Nat → Nat → Option Value) (k i : Nat) (v : Value) : updT T k i v k i = some v := by simp [updT]
theorem eT_set {n : Nat} (T : Nat → Nat → Option Value) (k i : Nat) (v : Value) : (eT n (T k)).set i v = eT n (updT T k i v k) := by
  apply List.ext_getElem?
  intro j
  by_cases hj : j < n
  · rw [List.getElem?_set, eT_get _ hj]
    by_cases e : i = j
    · subst e; rw [if_pos rfl, if_pos (by rw [eT_len]; exact hj), eT_get _ hj, updT_same]; rfl
    · rw [if_neg e, eT_get _ hj]
      unfold updT
      rw [if_neg (by omega)]
  · rw [List.getElem?_eq_none (by rw [List.length_set, eT_len]; omega), List.getElem?_eq_none (by rw [eT_len]; omega)]
theorem dT_set {n : Nat} (T : Nat → Nat → Option Value) (k i : Nat) (v : Value) : (bT n (fun j => (T k j).isSome)).set i (.bool true) = bT n (fun j => (updT T k i v k j).isSome) := by
  rw [bT_set]
  congr 1
  funext j
  unfold updB updT
  by_cases e : j = i
  · subst e; simp
  · simp [e]
theorem updT_other {T : Nat → Nat → Option Value} {k i k' : Nat} {v : Value} (h : k' ≠ k) : updT T k i v k' = T k' := by
  funext j
  simp [updT, h]
/-- A matcher of the document. -/
structure Me (h : AH) (b1 mp : Nat) (vP vD vE : Value) (L : List (Pc × Value)) (s : ByteArray) (D E : List Nat) (T : Nat → Nat → Option Value) : Prop where
  pt : h.ob mp = .cells [vP, .string s, vD, vE] .solo mp
  hb : b1 ≤ h.n
  mlt : mp < b1
  mne : mp ∉ D ∧ mp ∉ E
  rD : RdV h vD 1 (encSl s) D
  rE : RdV h vE 1 (encSl s) E
  bD : ∀ i, (atBlock vD i ∨ atBlock vE i) → i < b1 ∧ i ∉ D ∧ i ∉ E
  lD : D.length = L.length
  lE : E.length = L.length
  nd : D.Nodup
  ne : E.Nodup
  de : ∀ x ∈ D, x ∉ E
  lt : ∀ x, x ∈ D ∨ x ∈ E → x < b1
  dk : ∀ k (hk : k < D.length), h.ob D[k] = .cells (bT (s.size + 1) (fun i => (T k i).isSome)) .solo D[k]
  ek : ∀ k (hk : k < E.length), h.ob E[k] = .cells (eT (s.size + 1) (T k)) .solo E[k]
  told : ∀ k i v, k < L.length → i ≤ s.size → T k i = some v → RdV h v 1 encT (bL (s.size + 1) (mB (L.map Prod.fst) s k i)) ∧ ∀ b, atBlock v b → b1 ≤ b ∧ live h b
  pat : RdPat h vP L
  patB : ∀ i, (atBlock vP i ∨ ∃ x ∈ L, atBlock x.2 i) → i < b1 ∧ i ∉ D ∧ i ∉ E
variable {b1 mp : Nat} {vP vD vE : Value} {L : List (Pc × Value)} {s : ByteArray} {D E : List Nat} {T T' T'' : Nat → Nat → Option Value}
theorem Me.but (m : Me h b1 mp vP vD vE L s D E T) (hn : h.n ≤ h'.n) (h1 : ∀ i, i < b1 → h'.ob i = h.ob i) (h2 : ∀ k i v, k < L.length → i ≤ s.size → T k i = some v → ∀ c, atBlock v c → h'.ob c = h.ob c) : Me h' b1 mp vP vD vE L s D E T where
  pt := (h1 _ m.mlt).trans m.pt
  hb := Nat.le_trans m.hb hn
  mlt := m.mlt
  mne := m.mne
  rD := m.rD.keep hn (fun i e => h1 i (m.bD i (.inl e)).1)
  rE := m.rE.keep hn (fun i e => h1 i (m.bD i (.inr e)).1)
  bD := m.bD
  lD := m.lD
  lE := m.lE
  nd := m.nd
  ne := m.ne
  de := m.de
  lt := m.lt
  dk := fun k hk => (h1 _ (m.lt _ (.inl (List.getElem_mem hk)))).trans (m.dk k hk)
  ek := fun k hk => (h1 _ (m.lt _ (.inr (List.getElem_mem hk)))).trans (m.ek k hk)
  told := fun k i v hk hi e => by
    obtain ⟨a, b⟩ := m.told k i v hk hi e
    exact ⟨a.keep hn (fun c hc => h2 k i v hk hi e c hc), fun c hc => ⟨(b c hc).1, (b c hc).2.of' (h2 k i v hk hi e c hc)⟩⟩
  pat := ⟨m.pat.r.keep hn (fun i e => h1 i (m.patB i (.inl e)).1), fun x hx => (m.pat.kids x hx).keep hn (fun i e => h1 i (m.patB i (.inr ⟨x, hx, e⟩)).1)⟩
  patB := m.patB
theorem Me.pre (m : Me h b1 mp vP vD vE L s D E T) (p : Pre h h') : Me h' b1 mp vP vD vE L s D E T :=
  m.but p.n (fun i hi => p.ob i (Nat.lt_of_lt_of_le hi m.hb)) (fun k i v hk hi e c hc => p.ob c ((m.told k i v hk hi e).1.lt hc))
/-- What a call leaves. -/
structure Fe (b : Nat) (D E : List Nat) (h h' : AH) (T T' : Nat → Nat → Option Value) : Prop where
  n : h.n ≤ h'.n
  ob : ∀ i, i < b → i ∉ D → i ∉ E → h'.ob i = h.ob i
  new : ∀ k i v, T' k i = some v → T k i = some v ∨ ∀ c, atBlock v c → b ≤ c
theorem Fe.refl (b : Nat) (D E : List Nat) (h : AH) (T : Nat → Nat → Option Value) : Fe b D E h h T T := ⟨Nat.le_refl _, fun _ _ _ _ => rfl, fun _ _ _ h => .inl h⟩
theorem Fe.trans {b b' : Nat} {h1 h2 h3 : AH} (x : Fe b D E h1 h2 T T') (y : Fe b' D E h2 h3 T' T'') (hb : b ≤ b') : Fe b D E h1 h3 T T'' :=
  ⟨Nat.le_trans x.n y.n, fun i hi a c => (y.ob i (by omega) a c).trans (x.ob i hi a c), fun k i v e => by
    rcases y.new k i v e with q | q
    · exact x.new k i v q
    · exact .inr (fun c hc => Nat.le_trans hb (q c hc))⟩
theorem Fe.ofPre {b : Nat} (p : Pre h h') (hb : b ≤ h.n) : Fe b D E h h' T T := ⟨p.n, fun i hi _ _ => p.ob i (by omega), fun _ _ _ h => .inl h⟩
theorem Fe.low {b b' : Nat} (x : Fe b' D E h h' T T') (hb : b ≤ b') : Fe b D E h h' T T' := ⟨x.n, fun i hi => x.ob i (by omega), fun k i v e => (x.new k i v e).imp_right (fun q c hc => Nat.le_trans hb (q c hc))⟩
theorem bT_one {n : Nat} {F : Nat → Bool} {i : Nat} (hi : i < n) : (bT n F)[i]? = some (.bool (F i)) := bT_get F hi
theorem getElem_ne_of_nodup {l : List Nat} (h : l.Nodup) {i j : Nat} (hi : i < l.length) (hj : j < l.length) (e : i ≠ j) : l[i] ≠ l[j] := fun e2 => by
  have := List.pairwise_iff_getElem.1 h
  by_cases c : i < j
  · exact this i j hi hj c e2
  · exact this j i hj hi (by omega) e2.symm
/-- Something is told anew. -/
theorem Me.tell (m : Me h b1 mp vP vD vE L s D E T) {k i : Nat} {v : Value} (hk : k < L.length) (hi : i ≤ s.size) (r : RdV h v 1 encT (bL (s.size + 1) (mB (L.map Prod.fst) s k i))) (hv : ∀ b, atBlock v b → b1 ≤ b ∧ live h b) (kD : k < D.length) (kE : k < E.length) :
    Me ((h.set D[k] (.cells (bT (s.size + 1) (fun j => (updT T k i v k j).isSome)) .solo D[k])).set E[k] (.cells (eT (s.size + 1) (updT T k i v k)) .solo E[k])) b1 mp vP vD vE L s D E (updT T k i v) := by
  have mD := List.getElem_mem kD
  have mE := List.getElem_mem kE
  have oth : ∀ j, j ∉ D → j ∉ E → ((h.set D[k] (.cells (bT (s.size + 1) (fun j => (updT T k i v k j).isSome)) .solo D[k])).set E[k] (.cells (eT (s.size + 1) (updT T k i v k)) .solo E[k])).ob j = h.ob j := fun j a b =>
    (set_ne _ (fun e => b (by rw [e]; exact mE))).trans (set_ne _ (fun e => a (by rw [e]; exact mD)))
  have hi1 : ∀ j, b1 ≤ j → j ∉ D ∧ j ∉ E := fun j hj => ⟨fun e => by have := m.lt j (.inl e); omega, fun e => by have := m.lt j (.inr e); omega⟩
  refine { m with pt := ?_, hb := m.hb, rD := ?_, rE := ?_, dk := ?_, ek := ?_, told := ?_, pat := ?_ }
  · exact (oth _ m.mne.1 m.mne.2).trans m.pt
  · exact m.rD.keep (Nat.le_refl _) (fun j e => oth j (m.bD j (.inl e)).2.1 (m.bD j (.inl e)).2.2)
  · exact m.rE.keep (Nat.le_refl _) (fun j e => oth j (m.bD j (.inr e)).2.1 (m.bD j (.inr e)).2.2)
  · intro k' hk'
    have ne1 : D[k'] ≠ E[k] := fun e => m.de _ (List.getElem_mem hk') (by rw [e]; exact mE)
    rw [set_ne _ ne1]
    by_cases e : k' = k
    · subst e; exact set_same _ _
    · rw [set_ne _ (getElem_ne_of_nodup m.nd hk' kD e), m.dk k' hk', updT_other e]
  · intro k' hk'
    by_cases e : k' = k
    · subst e; exact set_same _ _
    · rw [set_ne _ (getElem_ne_of_nodup m.ne hk' kE e), set_ne _ (fun e2 => m.de _ mD (by rw [← e2]; exact List.getElem_mem hk')), m.ek k' hk', updT_other e]
  · intro k' i' w hk' hi' e
    by_cases c : k' = k ∧ i' = i
    · obtain ⟨rfl, rfl⟩ := c
      rw [updT_same] at e
      obtain rfl := Option.some.inj e
      refine ⟨r.keep (Nat.le_refl _) (fun j hj => ?_), fun j hj => ⟨(hv j hj).1, (hv j hj).2.of' ?_⟩⟩
      · exact oth j (hi1 j (hv j hj).1).1 (hi1 j (hv j hj).1).2
      · exact oth j (hi1 j (hv j hj).1).1 (hi1 j (hv j hj).1).2
    · have e' : T k' i' = some w := by rw [← e]; unfold updT; rw [if_neg c]
      obtain ⟨a, b⟩ := m.told k' i' w hk' hi' e'
      refine ⟨a.keep (Nat.le_refl _) (fun j hj => ?_), fun j hj => ⟨(b j hj).1, (b j hj).2.of' ?_⟩⟩
      · exact oth j (hi1 j (b j hj).1).1 (hi1 j (b j hj).1).2
      · exact oth j (hi1 j (b j hj).1).1 (hi1 j (b j hj).1).2
  · exact ⟨m.pat.r.keep (Nat.le_refl _) (fun j e => oth j (m.patB j (.inl e)).2.1 (m.patB j (.inl e)).2.2), fun x hx => (m.pat.kids x hx).keep (Nat.le_refl _) (fun j e => oth j (m.patB j (.inr ⟨x, hx, e⟩)).2.1 (m.patB j (.inr ⟨x, hx, e⟩)).2.2)⟩
theorem Rt.comm {R : Nat → Nat → Prop} {i j : Nat} : (∃ a, Rt R i a ∧ R a j) ↔ ∃ m, R i m ∧ Rt R m j := by
  constructor
  · rintro ⟨a, r, q⟩
    rcases r.head with rfl | ⟨b, r1, r2⟩
    · exact ⟨j, q, .refl _⟩
    · exact ⟨b, r1, r2.step q⟩
  · rintro ⟨m, r, q⟩
    induction q with
    | refl => exact ⟨i, .refl _, r⟩
    | step q1 r2 ih =>
      obtain ⟨a, x, y⟩ := ih
      exact ⟨_, x.step y, r2⟩
theorem rdBl {h : AH} {v : Value} {n : Nat} {F : Nat → Bool} (r : RdV h v 1 encT (bL n F)) {i : Nat} (hi : i < n) : ∃ id off c, v = .slice (some ⟨id, off, none⟩) n c ∧ id < h.n ∧ rd1 h id (off + i * 1) = some (.bool (F i)) := by
  have hi' : i < (bL n F).length := by rw [bL_len]; exact hi
  obtain ⟨id, off, c, e, l, r1⟩ := r.el (fun _ => rfl) hi'
  rw [bL_get] at r1
  exact ⟨id, off, c, by rw [e, bL_len], l, rd_1 r1⟩
def Told (L : List (Pc × Value)) (s : ByteArray) (T : Nat → Nat → Option Value) (w : Value) : Prop := ∃ k i, k < L.length ∧ i ≤ s.size ∧ T k i = some w
/-- No told list stands there. -/
def FrT (L : List (Pc × Value)) (s : ByteArray) (T : Nat → Nat → Option Value) (c : Nat) : Prop := ∀ w, Told L s T w → ¬ atBlock w c
/-- No told list is of that line. -/
def TO (h : AH) (L : List (Pc × Value)) (s : ByteArray) (T : Nat → Nat → Option Value) (ln : Nat) : Prop := ∀ w, Told L s T w → ∀ c, atBlock w c → (h.ob c).own ≠ some ln
theorem Me.lts (m : Me h b1 mp vP vD vE L s D E T) {w : Value} (t : Told L s T w) {c : Nat} (hc : atBlock w c) : c < h.n ∧ b1 ≤ c ∧ live h c := by
  obtain ⟨k, i, hk, hi, e⟩ := t
  obtain ⟨a, b⟩ := m.told k i w hk hi e
  exact ⟨a.lt hc, (b c hc).1, (b c hc).2⟩
theorem Fe.fr {b : Nat} (x : Fe b D E h h' T T') {c : Nat} (hc : c < b) (f : FrT L s T c) : FrT L s T' c := fun w ⟨k, i, hk, hi, e⟩ hw => by
  rcases x.new k i w e with q | q
  · exact f w ⟨k, i, hk, hi, q⟩ hw
  · have := q c hw; omega
theorem Me.frN (m : Me h b1 mp vP vD vE L s D E T) {c : Nat} (hc : h.n ≤ c) : FrT L s T c := fun w t hw => by
  have := (m.lts t hw).1
  omega
theorem Me.to (m : Me h b1 mp vP vD vE L s D E T) (f : Fit h) {id ln : Nat} (l : Line h id ln) (fr : FrT L s T id) : TO h L s T ln := fun w t c hc => by
  rcases (m.lts t hc).2.2 with ⟨lc, q⟩ | q
  · exact f.ne l q (fun e => fr w t (by rw [e]; exact hc))
  · rw [q]; intro e; cases e
/-- The stack of places, and those that were seen. -/
structure Pv (R : Nat → Nat → Prop) (i n : Nat) (gl : List Nat) (F : Nat → Bool) (wl : List Nat) (p : Nat → Prop) : Prop where
  rt : ∀ x ∈ gl, x ≤ n ∧ Rt R i x
  ini : i ∈ gl
  inw : ∀ x ∈ wl, x ∈ gl
  inf : ∀ j, F j = true → j ≤ n ∧ ∃ a, Rt R i a ∧ R a j
  ing : ∀ a ∈ gl, a ∈ wl ∨ p a ∨ ∀ j, j ≤ n → R a j → F j = true ∧ j ∈ gl
  len : wl.length ≤ cntB (n + 1) (inF gl)
theorem Pv.fin {R : Nat → Nat → Prop} {i n : Nat} {gl : List Nat} {F : Nat → Bool} (w : Pv R i n gl F [] fun _ => False) (hR : ∀ a b, a ≤ n → R a b → b ≤ n) {j : Nat} (hj : j ≤ n) : F j = true ↔ ∃ m, R i m ∧ Rt R m j := by
  rw [← Rt.comm]
  have all : ∀ a ∈ gl, ∀ j, j ≤ n → R a j → F j = true ∧ j ∈ gl := fun a ha => by
    rcases w.ing a ha with h | h | h
    · cases h
    · exact h.elim
    · exact h
  constructor
  · intro e; exact (w.inf j e).2
  · rintro ⟨a, r, q⟩
    have ha : a ∈ gl := Rt_closed (fun x hx b hb => (all x hx b (hR x b (w.rt x hx).1 hb) hb).2) w.ini r
    exact (all a ha j hj q).1
theorem Pv.zero {R : Nat → Nat → Prop} {i n : Nat} (hi : i ≤ n) : Pv R i n [i] (fun _ => false) [i] fun _ => False where
  rt := fun x hx => by rw [List.mem_singleton] at hx; subst hx; exact ⟨hi, .refl _⟩
  ini := by simp
  inw := fun x hx => hx
  inf := fun j e => by cases e
  ing := fun a ha => .inl ha
  len := by
    have := cntB_snoc (l := []) (j := i) (by simp) (m := n + 1) (by omega)
    rw [List.nil_append] at this
    rw [this]; simp
/-- The last one is taken off. -/
theorem Pv.pop {R : Nat → Nat → Prop} {i n : Nat} {gl : List Nat} {F : Nat → Bool} {wl : List Nat} {v : Nat} (w : Pv R i n gl F (wl ++ [v]) fun _ => False) : Pv R i n gl F wl (fun a => a = v ∧ ∀ j, j < 0 → R v j → F j = true ∧ j ∈ gl) ∧ v ∈ gl := by
  refine ⟨⟨w.rt, w.ini, fun x hx => w.inw x (by simp [hx]), w.inf, fun a ha => ?_, by have := w.len; rw [List.length_append] at this; simp at this; omega⟩, w.inw v (by simp)⟩
  rcases w.ing a ha with h | h | h
  · rcases List.mem_append.1 h with h | h
    · exact .inl h
    · rw [List.mem_singleton] at h; exact .inr (.inl ⟨h, fun j hj => by omega⟩)
  · exact h.elim
  · exact .inr (.inr h)
theorem Pv.done {R : Nat → Nat → Prop} {i n : Nat} {gl : List Nat} {F : Nat → Bool} {wl : List Nat} {v j : Nat} (w : Pv R i n gl F wl (fun a => a = v ∧ ∀ q, q < j → R v q → F q = true ∧ q ∈ gl)) (hj : n + 1 ≤ j) : Pv R i n gl F wl fun _ => False :=
  ⟨w.rt, w.ini, w.inw, w.inf, fun a ha => by
    rcases w.ing a ha with h | h | h
    · exact .inl h
    · exact .inr (.inr (fun q hq hr => h.2 q (by omega) (by rw [← h.1]; exact hr)))
    · exact .inr (.inr h), w.len⟩
theorem Pv.skip {R : Nat → Nat → Prop} {i n : Nat} {gl : List Nat} {F : Nat → Bool} {wl : List Nat} {v j : Nat} (w : Pv R i n gl F wl (fun a => a = v ∧ ∀ q, q < j → R v q → F q = true ∧ q ∈ gl)) (hn : ¬ R v j) : Pv R i n gl F wl (fun a => a = v ∧ ∀ q, q < j + 1 → R v q → F q = true ∧ q ∈ gl) :=
  { w with ing := fun a ha => (w.ing a ha).imp_right (fun h => h.imp_left (fun h => ⟨h.1, fun q hq hr => by
      by_cases e : q = j
      · subst e; exact absurd hr hn
      · exact h.2 q (by omega) hr⟩)) }
/-- One that was seen already. -/
theorem Pv.old {R : Nat → Nat → Prop} {i n : Nat} {gl : List Nat} {F : Nat → Bool} {wl : List Nat} {v j : Nat} (w : Pv R i n gl F wl (fun a => a = v ∧ ∀ q, q < j → R v q → F q = true ∧ q ∈ gl)) (hv : v ∈ gl) (hj : j ≤ n) (hr : R v j) (hg : j ∈ gl) : Pv R i n gl (updB F j true) wl (fun a => a = v ∧ ∀ q, q < j + 1 → R v q → updB F j true q = true ∧ q ∈ gl) where
  rt := w.rt
  ini := w.ini
  inw := w.inw
  inf := fun q e => by
    unfold updB at e
    by_cases c : q = j
    · subst c; exact ⟨hj, v, (w.rt v hv).2, hr⟩
    · rw [if_neg c] at e; exact w.inf q e
  ing := fun a ha => by
    have up : ∀ q, F q = true → updB F j true q = true := fun q e => by unfold updB; by_cases c : q = j <;> simp [c, e]
    rcases w.ing a ha with h | h | h
    · exact .inl h
    · refine .inr (.inl ⟨h.1, fun q hq hr' => ?_⟩)
      by_cases e : q = j
      · subst e; exact ⟨by simp [updB], hg⟩
      · have := h.2 q (by omega) hr'; exact ⟨up q this.1, this.2⟩
    · exact .inr (.inr (fun q hq hr' => ⟨up q (h q hq hr').1, (h q hq hr').2⟩))
  len := w.len
/-- One that is come to first. -/
theorem Pv.fresh {R : Nat → Nat → Prop} {i n : Nat} {gl : List Nat} {F : Nat → Bool} {wl : List Nat} {v j : Nat} (w : Pv R i n gl F wl (fun a => a = v ∧ ∀ q, q < j → R v q → F q = true ∧ q ∈ gl)) (hv : v ∈ gl) (hj : j ≤ n) (hr : R v j) (hg : j ∉ gl) : Pv R i n (gl ++ [j]) (updB F j true) (wl ++ [j]) (fun a => a = v ∧ ∀ q, q < j + 1 → R v q → updB F j true q = true ∧ q ∈ gl ++ [j]) where
  rt := fun x hx => by
    rcases List.mem_append.1 hx with h | h
    · exact w.rt x h
    · rw [List.mem_singleton] at h; subst h; exact ⟨hj, (w.rt v hv).2.step hr⟩
  ini := List.mem_append_left _ w.ini
  inw := fun x hx => by
    rcases List.mem_append.1 hx with h | h
    · exact List.mem_append_left _ (w.inw x h)
    · exact List.mem_append_right _ h
  inf := fun q e => by
    unfold updB at e
    by_cases c : q = j
    · subst c; exact ⟨hj, v, (w.rt v hv).2, hr⟩
    · rw [if_neg c] at e; exact w.inf q e
  ing := fun a ha => by
    have up : ∀ q, F q = true → updB F j true q = true := fun q e => by unfold updB; by_cases c : q = j <;> simp [c, e]
    rcases List.mem_append.1 ha with ha | ha
    · rcases w.ing a ha with h | h | h
      · exact .inl (List.mem_append_left _ h)
      · refine .inr (.inl ⟨h.1, fun q hq hr' => ?_⟩)
        by_cases e : q = j
        · subst e; exact ⟨by simp [updB], List.mem_append_right _ (by simp)⟩
        · have := h.2 q (by omega) hr'; exact ⟨up q this.1, List.mem_append_left _ this.2⟩
      · exact .inr (.inr (fun q hq hr' => ⟨up q (h q hq hr').1, List.mem_append_left _ (h q hq hr').2⟩))
    · exact .inl (List.mem_append_right _ ha)
  len := by
    rw [cntB_snoc hg (by omega), List.length_append]
    have := w.len
    simp; omega
def muW (n : Nat) (gl wl : List Nat) : Nat := 2 * (n + 1 - cntB (n + 1) (inF gl)) + wl.length
theorem muW_fresh {n : Nat} {gl wl : List Nat} {j : Nat} (hg : j ∉ gl) (hj : j ≤ n) : muW n (gl ++ [j]) (wl ++ [j]) < muW n gl wl := by
  unfold muW
  have a := cntB_snoc hg (m := n + 1) (by omega)
  have b := cntB_le (n + 1) (inF (gl ++ [j]))
  rw [a] at b
  rw [a, List.length_append]
  simp; omega
end Go.Sim
namespace Go.Proofs.Ytciajhpeikemoaa
open Go Go.Sim Go.Proofs
set_option linter.unusedSimpArgs false
set_option linter.unusedVariables false
set_option maxRecDepth 100000
set_option maxHeartbeats 1000000
def byB (op : Nat) (t : ByteArray) (c : Nat) : Bool := if op = 1 ∨ op = 3 then hasB t c else if op = 4 then !hasB t c else true
theorem hasB_of {t : ByteArray} {c : Nat} {b : Bool} (h : b = true ↔ ∃ j, j < t.size ∧ (byteAt t j).toNat = c) : hasB t c = b := by
  rw [Bool.eq_iff_iff, h]
  unfold hasB
  rw [Bool.not_eq_true']
  constructor
  · intro e
    have e2 : ¬ ∀ i, i < t.size → decide ((((byteAt t i).toNat : Nat) : Int) ≠ (c : Nat)) = true := fun hh => by rw [allAt_iff.2 hh] at e; cases e
    apply Classical.byContradiction
    intro hn
    exact e2 (fun i hi => decide_eq_true (fun e3 => hn ⟨i, hi, by omega⟩))
  · rintro ⟨j, hj, e⟩
    exact allAt_false hj (decide_eq_false (by rw [e]; simp))
theorem l04Byte_c (op : Nat) (t : ByteArray) (kv : Value) (c : Nat) (h : AH) (u : Sim.one kv = true) (ht : t.size ≤ 1000) (hop : 1 ≤ op ∧ op ≤ 4) :
    CD Try.prog 182 [.agg #[.int .i64 (op : Nat), .string t, kv], .int .u8 (c : Nat)] h (.bool (byB op t c)) h := by
  refine CD.quiet ?_ (low_bool _ _)
  have e0 := alloc_same (h := h) (AOb.cells [.int .i64 (op : Nat), .string t, kv] .solo h.n)
  have p0 := (Pre.refl h).alloc (AOb.cells [.int .i64 (op : Nat), .string t, kv] .solo h.n)
  have n0 : (h.alloc (AOb.cells [.int .i64 (op : Nat), .string t, kv] .solo h.n)).n = h.n + 1 := rfl
  refine CC.ofN Try.func182 Try.ntmps182 Try.results182 rfl (by decide) (by kernel_rfl) ?_
  simp (maxSteps := 1000000) -implicitDefEqProofs only [push_cast, seval, u]
  generalize (h.alloc (AOb.cells [.int .i64 (op : Nat), .string t, kv] .solo h.n)) = h1 at *
  have l0 : h.n < h1.n := by omega
  refine WC.loopA (by kernel_rfl) [5, 6] [7, 8, 9, 10, 11, 12, 13, 14, 15, 16, 17, 18, 19, 20, 21, 22] (fun a : Nat × Bool => [.bool a.2, .int .i64 (a.1 : Nat)]) (fun a h' => (a.1 ≤ t.size ∧ (a.2 = true ↔ ∃ j, j < a.1 ∧ (byteAt t j).toNat = c)) ∧ h' = h1) (fun a => t.size - a.1) (0, false) (by kernel_rfl) ⟨⟨Nat.zero_le _, ⟨(fun e => by cases e), fun ⟨j, e, _⟩ => absurd e (Nat.not_lt_zero j)⟩⟩, rfl⟩ ?_
  intro a g h2 hJ
  have hi := hJ.1.1
  have hb := hJ.1.2
  have hh := hJ.2
  clear hJ
  subst hh
  simp (maxSteps := 1000000) -implicitDefEqProofs only [push_cast, seval, e0, rd_of e0, rd1_of e0, l0]
  with_reducible refine bcase_d (fun hb1 => ?_) (fun hb1 => ?_)
  · have hi' : a.1 < t.size := by omega
    have st : ∀ b : Bool, (b = true ↔ a.2 = true ∨ (byteAt t a.1).toNat = c) → (b = true ↔ ∃ j, j < a.1 + 1 ∧ (byteAt t j).toNat = c) := fun b hb2 => by
      rw [hb2, hb]
      constructor
      · rintro (⟨j, a1, a2⟩ | a1)
        · exact ⟨j, by omega, a2⟩
        · exact ⟨_, by omega, a1⟩
      · rintro ⟨j, a1, a2⟩
        by_cases e : j = a.1
        · subst e; exact .inr a2
        · exact .inl ⟨j, by omega, a2⟩
    simp (maxSteps := 1000000) -implicitDefEqProofs only [push_cast, seval, e0, rd_of e0, rd1_of e0, l0]
    with_reducible refine bcase_mk (fun ha => ?_) (fun ha => ?_)
    · simp (maxSteps := 1000000) -implicitDefEqProofs only [push_cast, seval, ha]
      rw [wrapSucc (by omega)]
      exact ⟨(a.1 + 1, true), by kernel_rfl, ⟨by show a.1 + 1 ≤ t.size; omega, st true (by rw [ha]; simp)⟩, by show t.size - (a.1 + 1) < t.size - a.1; omega⟩
    · simp (maxSteps := 1000000) -implicitDefEqProofs only [push_cast, seval, ha, e0, rd_of e0, rd1_of e0, l0]
      repeat (with_reducible refine And.intro ?_ ?_; · (first | omega | decide))
      rw [wrapSucc (by omega)]
      exact ⟨(a.1 + 1, decide (((byteAt t a.1).toNat : Int) = c)), by kernel_rfl, ⟨by show a.1 + 1 ≤ t.size; omega, st _ (by rw [ha, decide_eq_true_eq]; simp; omega)⟩, by show t.size - (a.1 + 1) < t.size - a.1; omega⟩
  · have ea : a.1 = t.size := by omega
    rw [ea] at hb
    have hB := hasB_of hb
    have hcase : op = 1 ∨ op = 2 ∨ op = 3 ∨ op = 4 := by omega
    have kp : Keep h.n h h2 := p0.keep
    with_reducible refine Or.elim hcase (fun e => ?_) (fun hcase => ?_)
    · subst e
      simp (maxSteps := 1000000) -implicitDefEqProofs only [push_cast, seval, e0, rd_of e0, rd1_of e0, l0]
      exact ⟨congrArg Value.bool hB.symm, kp⟩
    with_reducible refine Or.elim hcase (fun e => ?_) (fun hcase => ?_)
    · subst e
      simp (maxSteps := 1000000) -implicitDefEqProofs only [push_cast, seval, e0, rd_of e0, rd1_of e0, l0]
      exact ⟨rfl, kp⟩
    with_reducible refine Or.elim hcase (fun e => ?_) (fun hcase => ?_)
    · subst e
      simp (maxSteps := 1000000) -implicitDefEqProofs only [push_cast, seval, e0, rd_of e0, rd1_of e0, l0]
      exact ⟨congrArg Value.bool hB.symm, kp⟩
    · subst hcase
      simp (maxSteps := 1000000) -implicitDefEqProofs only [push_cast, seval, e0, rd_of e0, rd1_of e0, l0]
      exact ⟨congrArg Value.bool (by show (!a.2) = (!hasB t c); rw [hB]), kp⟩
/-- A list of yes and no, newly made. -/
structure Ow (h h' : AH) (v : Value) (n : Nat) (F : Nat → Bool) : Prop where
  p : Pre h h'
  ob : ∃ id, v = .slice (some ⟨id, 0, none⟩) n 1 ∧ h'.ob id = .cells (bT n F) .solo id ∧ h.n ≤ id ∧ id < h'.n
theorem one_c (x : Pc) (kv : Value) (mp i : Nat) (vP vD vE : Value) (s : ByteArray) (h : AH) (ok : OkPc x 100000) (hx : x.op < 5 ∨ 9 < x.op) (u : Sim.one kv = true) (pt : h.ob mp = .cells [vP, .string s, vD, vE] .solo mp) (lt : mp < h.n) (hi : i ≤ s.size) (hs : s.size ≤ 100000) :
    CC Try.prog 149 [.pointer (some ⟨mp, 0, none⟩), .agg #[.int .i64 (x.op : Nat), .string x.text, kv], .int .i64 (i : Nat)] h (fun v h' => ∃ F, Ow h h' v (s.size + 1) F ∧ ∀ j, j ≤ s.size → (F j = true ↔ leafP x s i j)) := by
  have hop := ok.op
  have htx := ok.text
  obtain ⟨op, text, kids⟩ := x
  simp only at *
  have tz : text.size ≤ 1000 := by
    unfold textOk at htx
    split at htx
    · omega
    split at htx <;> omega
  obtain ⟨N, hN⟩ : ∃ N, N = s.size + 1 := ⟨_, rfl⟩
  have w1 : IntKind.i64.wrap ((s.size : Int) + 1) = (N : Int) := by rw [hN]; exact wrapSucc (by omega)
  have hcase : op = 10 ∨ op = 11 ∨ op = 12 ∨ op = 1 ∨ op = 2 ∨ op = 3 ∨ op = 4 := by omega
  have p0 := (Pre.refl h).alloc (AOb.cells [.int .i64 (op : Nat), .string text, kv] .solo h.n)
  have e0 := alloc_same (h := h) (AOb.cells [.int .i64 (op : Nat), .string text, kv] .solo h.n)
  have n0 : (h.alloc (AOb.cells [.int .i64 (op : Nat), .string text, kv] .solo h.n)).n = h.n + 1 := rfl
  refine CC.ofN Try.func149 Try.ntmps149 Try.results149 rfl (by decide) (by kernel_rfl) ?_
  simp (maxSteps := 1000000) -implicitDefEqProofs only [push_cast, seval, pt, rd_of pt, rd1_of pt, lt, u]
  have pt1 := (p0.ob mp lt).trans pt
  have lt1 := Nat.lt_of_lt_of_le lt p0.n
  generalize (h.alloc (AOb.cells [.int .i64 (op : Nat), .string text, kv] .solo h.n)) = h1 at *
  have l0 : h.n < h1.n := by omega
  simp (maxSteps := 1000000) -implicitDefEqProofs only [push_cast, seval, pt1, rd_of pt1, rd1_of pt1, lt1, u, w1, e0, rd_of e0, rd1_of e0, l0]
  repeat (with_reducible refine And.intro ?_ ?_; · (first | omega | decide))
  rw [Nat.mul_one, w1, Int.toNat_natCast, ← n0]
  have pz : Pre h1 (h1.alloc (.cells (List.replicate N (.bool false)) .solo h1.n)) := (Pre.refl h1).alloc _
  have ez : (h1.alloc (.cells (List.replicate N (.bool false)) .solo h1.n)).ob h1.n = .cells (bT N (fun _ => false)) .solo h1.n := by rw [alloc_same, bT_zero, Nat.mul_one]
  have nz : (h1.alloc (.cells (List.replicate N (.bool false)) .solo h1.n)).n = h1.n + 1 := rfl
  generalize (h1.alloc (.cells (List.replicate N (.bool false)) .solo h1.n)) = h2 at *
  have pp := p0.trans pz
  have lz : h1.n < h2.n := by omega
  have i1 : i * 1 < (bT N fun _ => false).length := by rw [bT_len]; omega
  have pt2 := (pz.ob mp lt1).trans pt1
  have lt2 := Nat.lt_of_lt_of_le lt1 pz.n
  have e2 := (pz.ob _ l0).trans e0
  have l2 := Nat.lt_of_lt_of_le l0 pz.n
  have hI : i < N := by omega
  have fin : ∀ (q : Nat) (b : Bool), (∀ j, j ≤ s.size → (updB (fun _ => false) q b j = true ↔ leafP ⟨op, text, kids⟩ s i j)) → ∃ F, Ow h (h2.set h1.n (.cells ((bT N fun _ => false).set q (.bool b)) .solo h1.n)) (.slice (some ⟨h1.n, 0, none⟩) N 1) (s.size + 1) F ∧ ∀ j, j ≤ s.size → (F j = true ↔ leafP ⟨op, text, kids⟩ s i j) := fun q b hb =>
    ⟨updB (fun _ => false) q b, ⟨pp.set (by omega) _, h1.n, by rw [hN], by rw [set_same, bT_set, hN], by omega, lz⟩, hb⟩
  have fin0 : (∀ j, j ≤ s.size → ¬ leafP ⟨op, text, kids⟩ s i j) → ∃ F, Ow h h2 (.slice (some ⟨h1.n, 0, none⟩) N 1) (s.size + 1) F ∧ ∀ j, j ≤ s.size → (F j = true ↔ leafP ⟨op, text, kids⟩ s i j) := fun hb =>
    ⟨fun _ => false, ⟨pp, h1.n, by rw [hN], by rw [ez, hN], by omega, lz⟩, fun j hj => ⟨fun e => (by cases e), fun e => absurd e (hb j hj)⟩⟩
  have up : ∀ (q j : Nat) (b : Bool), updB (fun _ => false) q b j = true ↔ (j = q ∧ b = true) := fun q j b => by
    unfold updB
    by_cases e : j = q <;> simp [e]
  with_reducible refine Or.elim hcase (fun e => ?_) (fun hcase => ?_)
  · subst e
    simp (maxSteps := 1000000) -implicitDefEqProofs only [push_cast, seval, ez, rd_of ez, rd1_of ez, lz, bT_len]
    repeat (with_reducible refine And.intro ?_ ?_; · (first | omega | decide))
    rw [Nat.mul_one]
    exact fin i _ (fun j hj => by rw [up, leaf10 rfl, decide_eq_true_eq]; omega)
  with_reducible refine Or.elim hcase (fun e => ?_) (fun hcase => ?_)
  · subst e
    simp (maxSteps := 1000000) -implicitDefEqProofs only [push_cast, seval, ez, rd_of ez, rd1_of ez, lz, bT_len]
    repeat (with_reducible refine And.intro ?_ ?_; · (first | omega | decide))
    rw [Nat.mul_one]
    exact fin i _ (fun j hj => by rw [up, leaf11 rfl, decide_eq_true_eq]; omega)
  with_reducible refine Or.elim hcase (fun e => ?_) (fun hcase => ?_)
  · subst e
    simp (maxSteps := 1000000) -implicitDefEqProofs only [push_cast, seval, ez, rd_of ez, rd1_of ez, lz, bT_len]
    repeat (with_reducible refine And.intro ?_ ?_; · (first | omega | decide))
    rw [Nat.mul_one]
    exact fin i _ (fun j hj => by rw [up, leaf12 rfl]; simp)
  have hop4 : 1 ≤ op ∧ op ≤ 4 := by omega
  have d10 : decide ((op : Int) = 10) = false := decide_eq_false (by omega)
  have d11 : decide ((op : Int) = 11) = false := decide_eq_false (by omega)
  have d12 : decide ((op : Int) = 12) = false := decide_eq_false (by omega)
  have tkb : ∀ i, tk ⟨op, text, kids⟩ s i = byB op text (byteAt s i).toNat := fun i => by
    unfold tk byB
    simp only
    by_cases c1 : op = 1 ∨ op = 3
    · rw [if_pos c1, if_pos c1]
    · rw [if_neg c1, if_neg c1]
      by_cases c2 : op = 2
      · rw [if_pos c2, if_neg (by omega)]
      · rw [if_neg c2, if_pos (by omega), if_pos (by omega)]
  simp (maxSteps := 1000000) -implicitDefEqProofs only [push_cast, seval, d10, d11, d12, ez, rd_of ez, rd1_of ez, lz]
  refine WC.draw' (by kernel_rfl) (by kernel_rfl) (.q 0 (.q 1 (.q 2 (.q 3 (.q 4 (.q 5 (.q 6 (.q 7 (.q 8 (.q 9 (.q 10 (.a 11 false (.q 12 (.done)))))))))))))) (by kernel_rfl) ?_
  simp (maxSteps := 1000000) -implicitDefEqProofs only [push_cast, seval, d10, d11, d12, ez, rd_of ez, rd1_of ez, lz]
  with_reducible refine bcase_d (fun hb => ?_) (fun hb => ?_)
  · simp (maxSteps := 1000000) -implicitDefEqProofs only [push_cast, seval, pt2, rd_of pt2, rd1_of pt2, lt2, e2, rd_of e2, rd1_of e2, l2, u]
    repeat (with_reducible refine And.intro ?_ ?_; · (first | omega | decide))
    with_reducible refine CD.to (l04Byte_c op text kv (byteAt s i).toNat _ u tz hop4) ?_
    have lf : ∀ j, (leafP ⟨op, text, kids⟩ s i j ↔ j = i + 1 ∧ byB op text (byteAt s i).toNat = true) := fun j => by
      rw [leaf1 hop4, tkb]
      constructor
      · rintro ⟨_, a, b⟩; exact ⟨a, b⟩
      · rintro ⟨a, b⟩; exact ⟨by omega, a, b⟩
    simp (maxSteps := 1000000) -implicitDefEqProofs only [push_cast, seval]
    with_reducible refine bcase_mk (fun hb3 => ?_) (fun hb3 => ?_)
    · have w2 : IntKind.i64.wrap ((i : Int) + 1) = ((i + 1 : Nat) : Int) := wrapSucc (by omega)
      with_reducible refine nameN (i + 1) (fun I1 hI1 => ?_)
      rw [← hI1] at w2
      simp (maxSteps := 1000000) -implicitDefEqProofs only [push_cast, seval, ez, rd_of ez, rd1_of ez, lz, w2, bT_len]
      repeat (with_reducible refine And.intro ?_ ?_; · (first | omega | decide))
      rw [Nat.mul_one]
      exact fin I1 _ (fun j hj => by rw [up, lf, hb3, hI1])
    · simp (maxSteps := 1000000) -implicitDefEqProofs only [push_cast, seval]
      exact fin0 (fun j hj e => by rw [lf, hb3] at e; cases e.2)
  · simp (maxSteps := 1000000) -implicitDefEqProofs only [push_cast, seval, wt_undef]
    exact fin0 (fun j hj e => by rw [leaf1 hop4] at e; omega)
end Go.Proofs.Ytciajhpeikemoaa
namespace Go.Proofs.Ytciajhpeikemoaa
open Go Go.Sim Go.Proofs
set_option linter.unusedSimpArgs false
set_option linter.unusedVariables false
set_option maxRecDepth 100000
set_option maxHeartbeats 1000000
/-- What the document's matcher tells of a piece from a place on. -/
def AtOk (b1 mp : Nat) (vP vD vE : Value) (L : List (Pc × Value)) (s : ByteArray) (D E : List Nat) (k : Nat) : Prop := ∀ (h : AH) (T : Nat → Nat → Option Value) (i : Nat), Me h b1 mp vP vD vE L s D E T → i ≤ s.size →
  CC Try.prog 97 [.pointer (some ⟨mp, 0, none⟩), .int .i64 (k : Nat), .int .i64 (i : Nat)] h (fun v h' => ∃ T', Me h' b1 mp vP vD vE L s D E T' ∧ Fe h.n D E h h' T T' ∧ T' k i = some v)
def wV (wl : List Nat) : List Value := wl.map fun x => .int .i64 (x : Nat)
theorem wV_len (wl : List Nat) : (wV wl).length = wl.length := by simp [wV]
/-- Where the loops of again stand: heap and state. -/
structure AgJ (h h' : AH) (b1 mp : Nat) (vP vD vE : Value) (L : List (Pc × Value)) (s : ByteArray) (D E : List Nat) (T T' : Nat → Nat → Option Value) (N : Nat) (gl : List Nat) (F : Nat → Bool) (wl : List Nat) (id off : Nat) : Prop where
  me : Me h' b1 mp vP vD vE L s D E T'
  fe : Fe h.n D E h h' T T'
  f1 : FrT L s T' h.n
  f2 : FrT L s T' (h.n + 1)
  f3 : FrT L s T' id
  o1 : h'.ob h.n = .cells (bT N F) .solo h.n
  o2 : h'.ob (h.n + 1) = .cells (bT N (inF gl)) .solo (h.n + 1)
  cu : Cu h' id off wl.length (h.n + 2) (wV wl)
  lo : h.n + 2 ≤ id
theorem again_s (b1 mp : Nat) (vP vD vE : Value) (L : List (Pc × Value)) (s : ByteArray) (D E : List Nat) (k : Nat) (hk : k < L.length) (ok : Okp (L.map Prod.fst)) (Ek : AtOk b1 mp vP vD vE L s D E k) (hs : s.size ≤ 100000) (h : AH) (T : Nat → Nat → Option Value) (i : Nat) (m : Me h b1 mp vP vD vE L s D E T) (hi : i ≤ s.size) :
    CC Try.prog 148 [.pointer (some ⟨mp, 0, none⟩), .int .i64 (k : Nat), .int .i64 (i : Nat)] h (fun v h' => ∃ T' F, Me h' b1 mp vP vD vE L s D E T' ∧ Fe h.n D E h h' T T' ∧ v = .slice (some ⟨h.n, 0, none⟩) (s.size + 1) 1 ∧ h'.ob h.n = .cells (bT (s.size + 1) F) .solo h.n ∧ FrT L s T' h.n ∧ h.n < h'.n ∧ ∀ j, j ≤ s.size → (F j = true ↔ ∃ a, Mt (L.map Prod.fst) s k i a ∧ Rt (Mt (L.map Prod.fst) s k) a j)) := by
  unfold AtOk at Ek
  have pt := m.pt
  have lt := Nat.lt_of_lt_of_le m.mlt m.hb
  have hb := m.hb
  have hlt := m.lt
  have nDE : ∀ x, b1 ≤ x → x ∉ D ∧ x ∉ E := fun x hx => ⟨fun e => by have := hlt x (.inl e); omega, fun e => by have := hlt x (.inr e); omega⟩
  have Rin : ∀ a b, a ≤ s.size → Mt (L.map Prod.fst) s k a b → b ≤ s.size := fun a b ha hr => (Mt_in ok k (by rw [List.length_map]; exact hk) a b ha hr).2
  obtain ⟨N, hN⟩ : ∃ N, N = s.size + 1 := ⟨_, rfl⟩
  have w1 : IntKind.i64.wrap ((s.size : Int) + 1) = (N : Int) := by rw [hN]; exact wrapSucc (by omega)
  refine CC.withLin (fun lin => ?_)
  refine CC.ofN Try.func148 Try.ntmps148 Try.results148 rfl (by decide) (by kernel_rfl) ?_
  simp (maxSteps := 1000000) -implicitDefEqProofs only [push_cast, seval, pt, rd_of pt, rd1_of pt, lt, w1]
  repeat (with_reducible refine And.intro ?_ ?_; · (first | omega | decide))
  rw [Nat.mul_one]
  simp (maxSteps := 1000000) -implicitDefEqProofs only [push_cast, seval]
  repeat (with_reducible refine And.intro ?_ ?_; · (first | omega | decide))
  rw [List.length_replicate, Nat.mul_one]
  refine And.intro (by omega) ?_
  generalize hH : (((h.alloc (.cells (List.replicate N (.bool false)) .solo h.n)).alloc (.cells (List.replicate N (.bool false)) .solo (h.n + 1))).alloc (.cells [.int .i64 (i : Nat)] .solo (h.n + 1 + 1))).set (h.n + 1) (.cells ((List.replicate N (.bool false)).set i (.bool true)) .solo (h.n + 1)) = H
  have R0 : List.replicate N (Value.bool false) = bT N (fun _ => false) := by rw [bT_zero, Nat.mul_one]
  have nH : H.n = h.n + 3 := by rw [← hH]; rfl
  have old : ∀ j, j < h.n → H.ob j = h.ob j := fun j hj => by
    rw [← hH, set_ne _ (by omega), alloc_lt _ (show j < h.n + 1 + 1 by omega), alloc_lt _ (show j < h.n + 1 by omega), alloc_lt _ hj]
  have eo1 : H.ob h.n = .cells (bT N (fun _ => false)) .solo h.n := by
    rw [← hH, set_ne _ (by omega), alloc_lt _ (show h.n < h.n + 1 + 1 by omega), alloc_lt _ (show h.n < h.n + 1 by omega), alloc_same, R0]
  have eo2 : H.ob (h.n + 1) = .cells (bT N (inF [i])) .solo (h.n + 1) := by
    rw [← hH, set_same, R0, bT_set]
    rw [show updB (fun _ => false) i true = inF [i] from by rw [← inF_nil, updB_inF]; rfl]
  have ew : Cu H (h.n + 2) 0 1 (h.n + 2) (wV [i]) := by
    refine ⟨by omega, rfl, [.int .i64 (i : Nat)], .solo, ?_, .inl rfl, by simp, rfl⟩
    rw [← hH, set_ne _ (by omega)]
    exact alloc_same (h := (h.alloc (.cells (List.replicate N (.bool false)) .solo h.n)).alloc (.cells (List.replicate N (.bool false)) .solo (h.n + 1))) _
  have pH : Pre h H := ⟨by omega, old⟩
  clear hH
  have j0 : AgJ h H b1 mp vP vD vE L s D E T T N [i] (fun _ => false) [i] (h.n + 2) 0 :=
    ⟨m.pre pH, .ofPre pH (Nat.le_refl _), m.frN (Nat.le_refl _), m.frN (by omega), m.frN (by omega), eo1, eo2, ew, Nat.le_refl _⟩
  refine WC.loopA (by kernel_rfl) [10] [11, 12, 13, 29, 30, 31, 32, 33, 34, 35, 36, 37, 38, 39, 40, 41, 42, 43, 44, 45, 46, 47, 48, 49, 50, 51, 52, 53, 54, 55, 56, 57, 58, 59, 60, 61, 62, 63, 64, 65, 66, 67, 68, 69, 70, 71] (fun a : List Nat × (Nat → Bool) × List Nat × Nat × Nat => [.slice (some ⟨a.2.2.2.1, a.2.2.2.2, none⟩) a.2.2.1.length 1]) (fun a h' => Pv (Mt (L.map Prod.fst) s k) i s.size a.1 a.2.1 a.2.2.1 (fun _ => False) ∧ ∃ T', AgJ h h' b1 mp vP vD vE L s D E T T' N a.1 a.2.1 a.2.2.1 a.2.2.2.1 a.2.2.2.2) (fun a => muW s.size a.1 a.2.2.1) ([i], (fun _ => false), [i], h.n + 2, 0) (by kernel_rfl) ⟨Pv.zero hi, ⟨T, j0⟩⟩ ?_
  intro a g h1 hJ
  have pv := hJ.1
  have hx := hJ.2
  clear hJ
  with_reducible refine Exists.elim hx (fun T1 J => ?_)
  clear hx
  have wlen : a.2.2.1.length ≤ N := by have := pv.len; have := cntB_le (s.size + 1) (inF a.1); omega
  simp (maxSteps := 1000000) -implicitDefEqProofs only [push_cast, seval]
  with_reducible refine bcase_d (fun hb1 => ?_) (fun hb1 => ?_)
  rotate_left
  · have e0 : a.2.2.1 = [] := List.eq_nil_of_length_eq_zero (by omega)
    rw [e0] at pv
    simp (maxSteps := 1000000) -implicitDefEqProofs only [push_cast, seval]
    exact ⟨T1, a.2.1, J.me, J.fe, by rw [hN], by rw [← hN]; exact J.o1, J.f1, (by have := J.cu.lt; have := J.lo; omega), fun j hj => pv.fin Rin hj⟩
  have hs2 : ∃ wl v, a.2.2.1 = wl ++ [v] := by
    refine ⟨a.2.2.1.dropLast, a.2.2.1.getLast (fun e => by rw [e] at hb1; simp at hb1), ?_⟩
    rw [List.dropLast_concat_getLast]
  with_reducible refine Exists.elim hs2 (fun wl hs2 => ?_)
  with_reducible refine Exists.elim hs2 (fun v hs2 => ?_)
  obtain ⟨gl, F, wl0, id, off⟩ := a
  simp only at *
  subst hs2
  have hpop := pv.pop
  have pv1 := hpop.1
  have hv := hpop.2
  clear hpop
  have hvn := (pv.rt v hv).1
  have cu := J.cu
  have cl := cu.lt
  have lo := J.lo
  rw [List.length_append, List.length_singleton] at *
  have r1 : rd1 h1 id (off + wl.length * 1) = some (.int .i64 (v : Nat)) := by
    rw [Nat.mul_one, cu.rd1 (by omega)]
    simp [wV]
  have wm : IntKind.i64.wrap ((wl.length : Int) + 1 - 1) = (wl.length : Nat) := by rw [w64 (by omega) (by omega)]; omega
  simp (maxSteps := 1000000) -implicitDefEqProofs only [push_cast, seval, r1, cl, wm]
  repeat (with_reducible refine And.intro ?_ ?_; · (first | omega | decide))
  with_reducible refine CC.mono (CC.wf (Ek h1 T1 v J.me hvn)) (fun vv h2 hq => ?_)
  have wf2 := hq.2
  have hq := hq.1
  with_reducible refine Exists.elim hq (fun T2 hq => ?_)
  have m2 := hq.1
  have fe2 := hq.2.1
  have tv := hq.2.2
  clear hq
  have n12 := fe2.n
  have oth : ∀ x, b1 ≤ x → x < h1.n → h2.ob x = h1.ob x := fun x a b => fe2.ob x b (nDE x a).1 (nDE x a).2
  have n1 := J.fe.n
  have cu2 : Cu h2 id off wl.length (h.n + 2) (wV wl) := by
    have := (cu.same (oth id (by omega) cl) n12).cut (m := wl.length) (by omega)
    rwa [show (wV (wl ++ [v])).take wl.length = wV wl by simp [wV]] at this
  have J2 : AgJ h h2 b1 mp vP vD vE L s D E T T2 N gl F wl id off :=
    ⟨m2, J.fe.trans fe2 n1, fe2.fr (by omega) J.f1, fe2.fr (by omega) J.f2, fe2.fr cl J.f3, (oth _ (by omega) (by omega)).trans J.o1, (oth _ (by omega) (by omega)).trans J.o2, cu2, lo⟩
  have to2 : TO h2 L s T2 (h.n + 2) := m2.to wf2.fit cu2.line J2.f3
  have mu0 : muW s.size gl wl < muW s.size gl (wl ++ [v]) := by unfold muW; rw [List.length_append]; simp
  generalize muW s.size gl (wl ++ [v]) = M0 at *
  clear J cu cl r1 n12 oth fe2 wf2 cu2 hb1 wlen pv n1
  simp (maxSteps := 1000000) -implicitDefEqProofs only [push_cast, seval]
  refine WC.loopA (by kernel_rfl) [10, 13] [47, 48, 49, 50, 51, 52, 53, 54, 55, 56, 57, 58, 59, 60, 61, 62, 63, 64, 65, 66, 67, 68, 69, 70, 71] (fun b : List Nat × (Nat → Bool) × List Nat × Nat × Nat × Nat => [.slice (some ⟨b.2.2.2.1, b.2.2.2.2.1, none⟩) b.2.2.1.length 1, .int .i64 (b.2.2.2.2.2 : Nat)]) (fun b h' => b.2.2.2.2.2 ≤ N ∧ Pv (Mt (L.map Prod.fst) s k) i s.size b.1 b.2.1 b.2.2.1 (fun x => x = v ∧ ∀ q, q < b.2.2.2.2.2 → Mt (L.map Prod.fst) s k v q → b.2.1 q = true ∧ q ∈ b.1) ∧ v ∈ b.1 ∧ muW s.size b.1 b.2.2.1 < M0 ∧ AgJ h h' b1 mp vP vD vE L s D E T T2 N b.1 b.2.1 b.2.2.1 b.2.2.2.1 b.2.2.2.2.1 ∧ TO h' L s T2 (h.n + 2)) (fun b => N - b.2.2.2.2.2) (gl, F, wl, id, off, 0) (by kernel_rfl) ⟨Nat.zero_le _, pv1, hv, mu0, J2, to2⟩ ?_
  clear pv1 hv mu0 J2 to2
  intro b g3 h3 hJ
  obtain ⟨gl, F, wl, id, off, j⟩ := b
  simp only at hJ
  have hj := hJ.1
  have pv := hJ.2.1
  have hv := hJ.2.2.1
  have mu := hJ.2.2.2.1
  have J := hJ.2.2.2.2.1
  have to := hJ.2.2.2.2.2
  clear hJ
  simp (maxSteps := 1000000) -implicitDefEqProofs only [push_cast, seval]
  with_reducible refine bcase_d (fun hb2 => ?_) (fun hb2 => ?_)
  rotate_left
  · simp (maxSteps := 1000000) -implicitDefEqProofs only [push_cast, seval]
    refine ⟨(gl, F, wl, id, off), by kernel_rfl, ⟨pv.done (by omega), ⟨T2, J⟩⟩, mu⟩
  have hjn : j ≤ s.size := by omega
  have cu := J.cu
  have cl := cu.lt
  have lo := J.lo
  have rb := rdBl (J.me.told k v vv hk hvn tv).1 (show j < s.size + 1 by omega)
  have hmb := mB_iff (L := L.map Prod.fst) (s := s) (k := k) (i := v) (j := j)
  generalize mB (L.map Prod.fst) s k v j = B at *
  with_reducible refine Exists.elim rb (fun id9 rb => ?_)
  with_reducible refine Exists.elim rb (fun off9 rb => ?_)
  with_reducible refine Exists.elim rb (fun c9 rb => ?_)
  have e9 := rb.1
  have l9 := rb.2.1
  have t9 := rb.2.2
  clear rb
  rw [← hN] at e9
  subst e9
  simp (maxSteps := 1000000) -implicitDefEqProofs only [push_cast, seval, t9, l9]
  repeat (with_reducible refine And.intro ?_ ?_; · (first | omega | decide))
  with_reducible refine bcase_mk (fun hB => ?_) (fun hB => ?_)
  rotate_left
  · simp (maxSteps := 1000000) -implicitDefEqProofs only [push_cast, seval]
    rw [wrapSucc (by omega)]
    refine ⟨(gl, F, wl, id, off, j + 1), by kernel_rfl, ⟨by show j + 1 ≤ N; omega, pv.skip (fun e => by rw [hmb.2 e] at hB; cases hB), hv, mu, J, to⟩, by show N - (j + 1) < N - j; omega⟩
  have hr := hmb.1 hB
  have eo1 := J.o1
  have eo2 := J.o2
  have n3 := J.fe.n
  have ln1 : h.n < h3.n := by omega
  have ln2 : h.n + 1 < h3.n := by omega
  have jN : j < N := by omega
  simp (maxSteps := 1000000) -implicitDefEqProofs only [push_cast, seval, eo1, rd_of eo1, rd1_of eo1, ln1, bT_len]
  repeat (with_reducible refine And.intro ?_ ?_; · (first | omega | decide))
  have eS : h3.set h.n (.cells ((bT N F).set (j * 1) (.bool true)) .solo h.n) = h3.set h.n (.cells (bT N (updB F j true)) .solo h.n) := by rw [Nat.mul_one, bT_set]
  rw [eS]
  have pv2 := fun hg => pv.old hv hjn hr hg
  have pv3 := fun hg => pv.fresh hv hjn hr hg
  have mu3 := fun hg => muW_fresh (gl := gl) (wl := wl) (n := s.size) (j := j) hg hjn
  have J4 : AgJ h (h3.set h.n (.cells (bT N (updB F j true)) .solo h.n)) b1 mp vP vD vE L s D E T T2 N gl (updB F j true) wl id off := by
    have q : ∀ x, x ≠ h.n → (h3.set h.n (.cells (bT N (updB F j true)) .solo h.n)).ob x = h3.ob x := fun x hx => set_ne _ hx
    refine ⟨J.me.but (Nat.le_refl _) (fun x hx => q x (by omega)) (fun k' i' w a b c d hd => q d (fun e => ?_)), ⟨J.fe.n, fun x hx a b => (q x (by omega)).trans (J.fe.ob x hx a b), J.fe.new⟩, J.f1, J.f2, J.f3, set_same _ _, (q _ (by omega)).trans J.o2, J.cu.same (q _ (by omega)) (Nat.le_refl _), lo⟩
    exact J.f1 w ⟨k', i', a, b, c⟩ (by rw [← e]; exact hd)
  have to4 : TO (h3.set h.n (.cells (bT N (updB F j true)) .solo h.n)) L s T2 (h.n + 2) := fun w tw c hc => by
    rw [set_ne _ (fun e => J.f1 w tw (by rw [← e]; exact hc))]
    exact to w tw c hc
  have n4 : (h3.set h.n (.cells (bT N (updB F j true)) .solo h.n)).n = h3.n := rfl
  generalize (h3.set h.n (.cells (bT N (updB F j true)) .solo h.n)) = h4 at *
  have rs3 : rd1 h3 (h.n + 1) (j * 1) = some (.bool (inF gl j)) := by rw [Nat.mul_one, rd1_of eo2, rd1O_cells, bT_get _ jN]
  clear J to eo1 eo2 cu
  have eo2 := J4.o2
  have ln4 : h.n + 1 < h4.n := by omega
  have rs : rd1 h4 (h.n + 1) (j * 1) = some (.bool (inF gl j)) := by rw [Nat.mul_one, rd1_of eo2, rd1O_cells, bT_get _ jN]
  have ig : inF gl j = true ↔ j ∈ gl := by unfold inF; exact decide_eq_true_iff
  generalize inF gl j = G at *
  simp (maxSteps := 1000000) -implicitDefEqProofs only [push_cast, seval, rs3, rs, ln2, ln4]
  with_reducible refine bcase_mk (fun hG => ?_) (fun hG => ?_)
  · simp (maxSteps := 1000000) -implicitDefEqProofs only [push_cast, seval]
    rw [wrapSucc (by omega)]
    refine ⟨(gl, updB F j true, wl, id, off, j + 1), by kernel_rfl, ⟨by show j + 1 ≤ N; omega, pv2 (ig.1 hG), hv, mu, J4, to4⟩, by show N - (j + 1) < N - j; omega⟩
  have hnot : j ∉ gl := fun e => by rw [ig.2 e] at hG; cases hG
  simp (maxSteps := 1000000) -implicitDefEqProofs only [push_cast, seval, eo2, rd_of eo2, rd1_of eo2, ln4, bT_len]
  repeat (with_reducible refine And.intro ?_ ?_; · (first | omega | decide))
  have eS2 : h4.set (h.n + 1) (.cells ((bT N (inF gl)).set (j * 1) (.bool true)) .solo (h.n + 1)) = h4.set (h.n + 1) (.cells (bT N (inF (gl ++ [j]))) .solo (h.n + 1)) := by rw [Nat.mul_one, bT_set, updB_inF]
  rw [eS2]
  have J5 : AgJ h (h4.set (h.n + 1) (.cells (bT N (inF (gl ++ [j]))) .solo (h.n + 1))) b1 mp vP vD vE L s D E T T2 N (gl ++ [j]) (updB F j true) wl id off := by
    have q : ∀ x, x ≠ h.n + 1 → (h4.set (h.n + 1) (.cells (bT N (inF (gl ++ [j]))) .solo (h.n + 1))).ob x = h4.ob x := fun x hx => set_ne _ hx
    refine ⟨J4.me.but (Nat.le_refl _) (fun x hx => q x (by omega)) (fun k' i' w a b c d hd => q d (fun e => ?_)), ⟨J4.fe.n, fun x hx a b => (q x (by omega)).trans (J4.fe.ob x hx a b), J4.fe.new⟩, J4.f1, J4.f2, J4.f3, (q _ (by omega)).trans J4.o1, set_same _ _, J4.cu.same (q _ (by omega)) (Nat.le_refl _), lo⟩
    exact J4.f2 w ⟨k', i', a, b, c⟩ (by rw [← e]; exact hd)
  have to5 : TO (h4.set (h.n + 1) (.cells (bT N (inF (gl ++ [j]))) .solo (h.n + 1))) L s T2 (h.n + 2) := fun w tw c hc => by
    rw [set_ne _ (fun e => J4.f2 w tw (by rw [← e]; exact hc))]
    exact to4 w tw c hc
  have n5 : (h4.set (h.n + 1) (.cells (bT N (inF (gl ++ [j]))) .solo (h.n + 1))).n = h4.n := rfl
  generalize (h4.set (h.n + 1) (.cells (bT N (inF (gl ++ [j]))) .solo (h.n + 1))) = h5 at *
  rw [← n5]
  have p6 := (Pre.refl h5).alloc (.cells [.int .i64 (j : Nat)] .solo h5.n)
  have cu6 := J5.cu.same (p6.ob id J5.cu.lt) p6.n
  have wl1 := J5.cu.len
  have pl : wl.length ≤ N := by have := pv.len; have := cntB_le (s.size + 1) (inF gl); omega
  refine app_cut si26 (by decide) (notInt_sl und26) cu6 (asrc_new [.int .i64 (j : Nat)] 1 1 1 rfl) rfl (by omega) (fun h7 cu7 n7 f7 => ?_)
  have n6 : (h5.alloc (.cells [.int .i64 (j : Nat)] .solo h5.n)).n = h5.n + 1 := rfl
  have fr7 : ∀ x, x < h5.n → (h5.ob x).own ≠ some (h.n + 2) → h7.ob x = h5.ob x := fun x hx ho => (f7 x (by omega) (by rw [p6.ob x hx]; exact ho)).trans (p6.ob x hx)
  have own5 : ∀ x, x < h.n → (h5.ob x).own ≠ some (h.n + 2) := fun x hx e => by
    by_cases c1 : x ∈ D
    · obtain ⟨q, hq, e1⟩ := List.getElem_of_mem c1
      have := J5.me.dk q hq
      rw [← e1, this] at e
      simp only [AOb.own, Option.some.injEq] at e
      omega
    by_cases c2 : x ∈ E
    · obtain ⟨q, hq, e1⟩ := List.getElem_of_mem c2
      have := J5.me.ek q hq
      rw [← e1, this] at e
      simp only [AOb.own, Option.some.injEq] at e
      omega
    · rw [J5.fe.ob x hx c1 c2] at e
      have := lin x _ e
      omega
  have hn5 := J5.fe.n
  have a1 : (h5.ob h.n).own ≠ some (h.n + 2) := by rw [J5.o1]; simp [AOb.own]
  have a2 : (h5.ob (h.n + 1)).own ≠ some (h.n + 2) := by rw [J5.o2]; simp [AOb.own]
  have J7 : AgJ h h7 b1 mp vP vD vE L s D E T T2 N (gl ++ [j]) (updB F j true) (wl ++ [j]) (h5.alloc (.cells [.int .i64 (j : Nat)] .solo h5.n)).n 0 := by
    refine ⟨J5.me.but (by omega) (fun x hx => fr7 x (by omega) (own5 x (by omega))) (fun k' i' w a b c d hd => fr7 d (J5.me.lts ⟨k', i', a, b, c⟩ hd).1 (to5 w ⟨k', i', a, b, c⟩ d hd)), ⟨by omega, fun x hx a b => (fr7 x (by omega) (own5 x hx)).trans (J5.fe.ob x hx a b), J5.fe.new⟩, J5.f1, J5.f2, J5.me.frN (by omega), (fr7 _ (by omega) a1).trans J5.o1, (fr7 _ (by omega) a2).trans J5.o2, ?_, by omega⟩
    have e1 : wV wl ++ [.int .i64 (j : Nat)] = wV (wl ++ [j]) := by simp [wV]
    rw [← e1, List.length_append]
    exact cu7
  have to7 : TO h7 L s T2 (h.n + 2) := fun w tw c hc => by
    rw [fr7 c (J5.me.lts tw hc).1 (to5 w tw c hc)]
    exact to5 w tw c hc
  have el : (wl ++ [j]).length = wl.length + 1 := by rw [List.length_append]; rfl
  simp (maxSteps := 1000000) -implicitDefEqProofs only [push_cast, seval]
  rw [wrapSucc (by omega)]
  refine ⟨(gl ++ [j], updB F j true, wl ++ [j], (h5.alloc (.cells [.int .i64 (j : Nat)] .solo h5.n)).n, 0, j + 1), ?_, ⟨by show j + 1 ≤ N; omega, pv3 hnot, List.mem_append_left _ hv, Nat.lt_trans (mu3 hnot) mu, J7, to7⟩, by show N - (j + 1) < N - j; omega⟩
  simp only [el]
  kernel_rfl
end Go.Proofs.Ytciajhpeikemoaa
namespace Go.Proofs.Ytciajhpeikemoaa
open Go Go.Sim Go.Proofs
set_option linter.unusedSimpArgs false
set_option linter.unusedVariables false
set_option maxRecDepth 100000
set_option maxHeartbeats 1000000
/-- Where the loops of both stand. -/
structure BoJ (h h' : AH) (b1 mp : Nat) (vP vD vE : Value) (L : List (Pc × Value)) (s : ByteArray) (D E : List Nat) (T T' : Nat → Nat → Option Value) (N : Nat) (F : Nat → Bool) (x : Pc) (kv : Value) : Prop where
  me : Me h' b1 mp vP vD vE L s D E T'
  fe : Fe h.n D E h h' T T'
  f1 : FrT L s T' (h.n + 1)
  bx : h'.ob h.n = .cells [.int .i64 (x.op : Nat), .string x.text, kv] .solo h.n
  o1 : h'.ob (h.n + 1) = .cells (bT N F) .solo (h.n + 1)
  n2 : h.n + 2 ≤ h'.n
variable {b1 mp : Nat} {vP vD vE : Value} {L : List (Pc × Value)} {s : ByteArray} {D E : List Nat} {T T' T2 : Nat → Nat → Option Value} {N : Nat} {F A : Nat → Bool} {x : Pc} {kv va : Value} {h h1 h2 : AH}
/-- A call of the matcher. -/
theorem BoJ.call (J : BoJ h h1 b1 mp vP vD vE L s D E T T' N F x kv) (hb : b1 ≤ h.n) (m2 : Me h2 b1 mp vP vD vE L s D E T2) (fe : Fe h1.n D E h1 h2 T' T2) : BoJ h h2 b1 mp vP vD vE L s D E T T2 N F x kv := by
  have nDE : ∀ y, b1 ≤ y → y ∉ D ∧ y ∉ E := fun y hy => ⟨fun e => by have := J.me.lt y (.inl e); omega, fun e => by have := J.me.lt y (.inr e); omega⟩
  have n2 := J.n2
  have oth : ∀ y, b1 ≤ y → y < h1.n → h2.ob y = h1.ob y := fun y a b => fe.ob y b (nDE y a).1 (nDE y a).2
  exact ⟨m2, J.fe.trans fe J.fe.n, fe.fr (by omega) J.f1, (oth _ (by omega) (by omega)).trans J.bx, (oth _ (by omega) (by omega)).trans J.o1, by have := fe.n; omega⟩
/-- The list is written. -/
theorem BoJ.wr (J : BoJ h h1 b1 mp vP vD vE L s D E T T' N F x kv) (hb : b1 ≤ h.n) (G : Nat → Bool) : BoJ h (h1.set (h.n + 1) (.cells (bT N G) .solo (h.n + 1))) b1 mp vP vD vE L s D E T T' N G x kv := by
  have n2 := J.n2
  have q : ∀ y, y ≠ h.n + 1 → (h1.set (h.n + 1) (.cells (bT N G) .solo (h.n + 1))).ob y = h1.ob y := fun y hy => set_ne _ hy
  refine ⟨J.me.but (Nat.le_refl _) (fun y hy => q y (by omega)) (fun k' i' w a b c d hd => q d (fun e => ?_)), ⟨J.fe.n, fun y hy a b => (q y (by omega)).trans (J.fe.ob y hy a b), J.fe.new⟩, J.f1, (q _ (by omega)).trans J.bx, set_same _ _, n2⟩
  exact J.f1 w ⟨k', i', a, b, c⟩ (by rw [← e]; exact hd)
/-- A list that was told stays readable. -/
structure Rt2 (h h1 : AH) (b1 : Nat) (va : Value) (N : Nat) (A : Nat → Bool) : Prop where
  r : RdV h1 va 1 encT (bL N A)
  b : ∀ c, atBlock va c → b1 ≤ c ∧ c ≠ h.n + 1
theorem Rt2.call (R : Rt2 h h1 b1 va N A) (lt : ∀ y, y ∈ D ∨ y ∈ E → y < b1) (fe : Fe h1.n D E h1 h2 T' T2) : Rt2 h h2 b1 va N A :=
  ⟨R.r.keep fe.n (fun c hc => fe.ob c (R.r.lt hc) (fun e => by have := lt c (.inl e); have := (R.b c hc).1; omega) (fun e => by have := lt c (.inr e); have := (R.b c hc).1; omega)), R.b⟩
theorem Rt2.wr (R : Rt2 h h1 b1 va N A) (o : AOb) : Rt2 h (h1.set (h.n + 1) o) b1 va N A := ⟨R.r.keep (Nat.le_refl _) (fun c hc => set_ne _ (R.b c hc).2), R.b⟩
theorem Me.rt2 (m : Me h1 b1 mp vP vD vE L s D E T') {k i : Nat} (hk : k < L.length) (hi : i ≤ s.size) (e : T' k i = some va) (f : FrT L s T' (h.n + 1)) (hN : N = s.size + 1) : Rt2 h h1 b1 va N (mB (L.map Prod.fst) s k i) := by
  obtain ⟨a, b⟩ := m.told k i va hk hi e
  exact ⟨by rw [hN]; exact a, fun c hc => ⟨(b c hc).1, fun e2 => f va ⟨k, i, hk, hi, e⟩ (by rw [← e2]; exact hc)⟩⟩
def orF (F A : Nat → Bool) (j : Nat) : Nat → Bool := fun q => F q || (decide (q < j) && A q)
theorem orF_zero (F A : Nat → Bool) : orF F A 0 = F := by funext q; simp [orF]
theorem orF_succ (F A : Nat → Bool) (j : Nat) : updB (orF F A j) j (orF F A j j || A j) = orF F A (j + 1) := by
  funext q
  unfold updB orF
  by_cases e : q = j
  · subst e; simp
  · rw [if_neg e]
    have : decide (q < j + 1) = decide (q < j) := by
      by_cases c : q < j
      · rw [decide_eq_true c, decide_eq_true (by omega)]
      · rw [decide_eq_false c, decide_eq_false (by omega)]
    rw [this]
theorem orF_at (F A : Nat → Bool) (j : Nat) : orF F A j j = F j := by simp [orF]
theorem orF_end {F A : Nat → Bool} {N q : Nat} (h : q < N) : orF F A N q = (F q || A q) := by simp [orF, h]
theorem both6 (hx : (x, kv) ∈ L) (hop : x.op = 6) (k0 k1 : Nat) (hks : x.kids = [k0, k1]) (hk0 : k0 < L.length) (hk1 : k1 < L.length) (ok : Okp (L.map Prod.fst)) (E0 : AtOk b1 mp vP vD vE L s D E k0) (E1 : AtOk b1 mp vP vD vE L s D E k1) (hs : s.size ≤ 100000) (T : Nat → Nat → Option Value) (i : Nat) (m : Me h b1 mp vP vD vE L s D E T) (hi : i ≤ s.size) :
    CC Try.prog 147 [.pointer (some ⟨mp, 0, none⟩), .agg #[.int .i64 (x.op : Nat), .string x.text, kv], .int .i64 (i : Nat)] h (fun v h' => ∃ T' F, Me h' b1 mp vP vD vE L s D E T' ∧ Fe h.n D E h h' T T' ∧ v = .slice (some ⟨h.n + 1, 0, none⟩) (s.size + 1) 1 ∧ h'.ob (h.n + 1) = .cells (bT (s.size + 1) F) .solo (h.n + 1) ∧ FrT L s T' (h.n + 1) ∧ h.n + 1 < h'.n ∧ ∀ j, j ≤ s.size → (F j = true ↔ Go.Sim.step (Mt (L.map Prod.fst) s) x s i j)) := by
  unfold AtOk at E0 E1
  have kr := fun (h' : AH) T' (m' : Me h' b1 mp vP vD vE L s D E T') => m'.pat.kids _ hx
  simp only [hks] at kr
  have u := (kr h T m).one
  have pt := m.pt
  have lt := Nat.lt_of_lt_of_le m.mlt m.hb
  have hb := m.hb
  have hlt := m.lt
  have kd0 : kid x 0 = k0 := by simp [kid, hks]
  have kd1 : kid x 1 = k1 := by simp [kid, hks]
  have Rin : ∀ q, Mt (L.map Prod.fst) s k0 i q → q ≤ s.size := fun q hr => (Mt_in ok k0 (by rw [List.length_map]; exact hk0) i q hi hr).2
  have st := fun q => step6 (R := Mt (L.map Prod.fst) s) (s := s) (i := i) (j := q) hop
  simp only [kd0, kd1] at st
  obtain ⟨N, hN⟩ : ∃ N, N = s.size + 1 := ⟨_, rfl⟩
  have w1 : IntKind.i64.wrap ((s.size : Int) + 1) = (N : Int) := by rw [hN]; exact wrapSucc (by omega)
  have dop : decide (((x.op : Nat) : Int) = 6) = true := decide_eq_true (by rw [hop]; rfl)
  have p0 := (Pre.refl h).alloc (AOb.cells [.int .i64 (x.op : Nat), .string x.text, kv] .solo h.n)
  have e0 := alloc_same (h := h) (AOb.cells [.int .i64 (x.op : Nat), .string x.text, kv] .solo h.n)
  have n0 : (h.alloc (.cells [.int .i64 (x.op : Nat), .string x.text, kv] .solo h.n)).n = h.n + 1 := rfl
  refine CC.ofN Try.func147 Try.ntmps147 Try.results147 rfl (by decide) (by kernel_rfl) ?_
  simp (maxSteps := 1000000) -implicitDefEqProofs only [push_cast, seval, pt, rd_of pt, rd1_of pt, lt, u]
  have pt1 := (p0.ob mp lt).trans pt
  have lt1 := Nat.lt_of_lt_of_le lt p0.n
  generalize (h.alloc (AOb.cells [.int .i64 (x.op : Nat), .string x.text, kv] .solo h.n)) = h0 at *
  simp (maxSteps := 1000000) -implicitDefEqProofs only [push_cast, seval, pt1, rd_of pt1, rd1_of pt1, lt1, u, w1]
  repeat (with_reducible refine And.intro ?_ ?_; · (first | omega | decide))
  rw [Nat.mul_one, w1, Int.toNat_natCast, ← n0]
  have pz : Pre h0 (h0.alloc (.cells (List.replicate N (.bool false)) .solo h0.n)) := (Pre.refl h0).alloc _
  have ez : (h0.alloc (.cells (List.replicate N (.bool false)) .solo h0.n)).ob h0.n = .cells (bT N (fun _ => false)) .solo h0.n := by rw [alloc_same, bT_zero, Nat.mul_one]
  have nz : (h0.alloc (.cells (List.replicate N (.bool false)) .solo h0.n)).n = h0.n + 1 := rfl
  generalize (h0.alloc (.cells (List.replicate N (.bool false)) .solo h0.n)) = h1 at *
  have ph := p0.trans pz
  rw [n0] at ez nz
  have J : BoJ h h1 b1 mp vP vD vE L s D E T T N (fun _ => false) x kv := ⟨m.pre ph, .ofPre ph (Nat.le_refl _), m.frN (by omega), (pz.ob _ (by omega)).trans e0, ez, by omega⟩
  rw [n0]
  clear pt1 lt1 e0 ez n0 nz p0 pz
  have bx := J.bx
  have l0 : h.n < h1.n := by have := J.n2; omega
  have kf := (kr h1 T J.me).rde (fun _ => rfl)
  with_reducible refine Exists.elim kf (fun Ak kf => ?_)
  with_reducible refine Exists.elim kf (fun ck kf => ?_)
  have ek := kf.1
  clear kf
  subst ek
  have rd0 : ∀ h' T', Me h' b1 mp vP vD vE L s D E T' → ∃ id off, Ak = some ⟨id, off, none⟩ ∧ id < h'.n ∧ rd1 h' id off = some (.int .i64 (k0 : Nat)) ∧ rd1 h' id (off + 1 * 1) = some (.int .i64 (k1 : Nat)) := fun h' T' m' => by
    have r := kr h' T' m'
    obtain ⟨id, off, c, e, l, q⟩ := r.el (fun _ => rfl) (show 0 < [k0, k1].length by simp)
    obtain ⟨id2, off2, c2, e2, l2, q2⟩ := r.el (fun _ => rfl) (show 1 < [k0, k1].length by simp)
    injection e with e _ _
    injection e2 with e2 _ _
    rw [e] at e2
    injection e2 with e2
    injection e2 with e21 e22
    subst e21 e22
    rw [Nat.zero_mul, Nat.add_zero] at q
    exact ⟨id, off, e, l, rd_1 q, rd_1 q2⟩
  have z0 := rd0 h1 T J.me
  with_reducible refine Exists.elim z0 (fun ik z0 => ?_)
  with_reducible refine Exists.elim z0 (fun ok2 z0 => ?_)
  have ek := z0.1
  subst ek
  have lk := z0.2.1
  have qk := z0.2.2.1
  clear z0
  have rd0 : ∀ h' T', Me h' b1 mp vP vD vE L s D E T' → ik < h'.n ∧ rd1 h' ik ok2 = some (.int .i64 (k0 : Nat)) ∧ rd1 h' ik (ok2 + 1 * 1) = some (.int .i64 (k1 : Nat)) := fun h' T' m' => by
    obtain ⟨id, off, e, l, q, q2⟩ := rd0 h' T' m'
    injection e with e
    injection e with e1 e2
    subst e1 e2
    exact ⟨l, q, q2⟩
  simp (maxSteps := 1000000) -implicitDefEqProofs only [push_cast, seval, bx, rd_of bx, rd1_of bx, l0, lk, qk, u]
  repeat (with_reducible refine And.intro ?_ ?_; · (first | omega | decide))
  with_reducible refine CC.mono (E0 h1 T i J.me hi) (fun va h2 hq => ?_)
  with_reducible refine Exists.elim hq (fun T1 hq => ?_)
  have m2 := hq.1
  have fe2 := hq.2.1
  have tv := hq.2.2
  clear hq
  have J1 := J.call hb m2 fe2
  have RA := Me.rt2 (h := h) m2 hk0 hi tv J1.f1 hN
  have hA := fun q => mB_iff (L := L.map Prod.fst) (s := s) (k := k0) (i := i) (j := q)
  generalize mB (L.map Prod.fst) s k0 i = A at *
  clear J bx l0 lk qk
  have ya := RA.r.one
  have kf := RA.r.rde (fun _ => rfl)
  with_reducible refine Exists.elim kf (fun Aa kf => ?_)
  with_reducible refine Exists.elim kf (fun ca kf => ?_)
  have ea := kf.1
  clear kf
  rw [bL_len] at ea
  subst ea
  simp (maxSteps := 1000000) -implicitDefEqProofs only [push_cast, seval]
  refine WC.loopA (by kernel_rfl) [9] [10, 11, 28, 29, 30, 31, 32, 33, 34, 35, 36, 37, 38, 39, 40, 41, 42, 43, 44, 45, 46, 47, 48, 49, 50, 51, 52, 53, 54, 55, 56, 57, 58, 59, 60, 61, 62, 63, 64, 65, 66, 67, 68, 69, 70, 71, 72, 73, 74, 75, 76, 77, 78, 79, 80] (fun j : Nat => [.int .i64 (j : Nat)]) (fun j h' => j ≤ N ∧ BoJ h h' b1 mp vP vD vE L s D E T T1 N (orF (fun _ => false) A j) x (.slice (some ⟨ik, ok2, none⟩) [k0, k1].length ck) ∧ Rt2 h h' b1 (.slice Aa N ca) N A) (fun j => N - j) 0 (by kernel_rfl) ⟨Nat.zero_le _, by rw [orF_zero]; exact J1, RA⟩ ?_
  clear J1 RA m2 fe2
  intro j g h3 hJ
  have hj := hJ.1
  have J := hJ.2.1
  have RA := hJ.2.2
  clear hJ
  have bx := J.bx
  have l0 : h.n < h3.n := by have := J.n2; omega
  have ln1 : h.n + 1 < h3.n := by have := J.n2; omega
  simp (maxSteps := 1000000) -implicitDefEqProofs only [push_cast, seval]
  with_reducible refine bcase_d (fun hb2 => ?_) (fun hb2 => ?_)
  · have jN : j < N := by omega
    have ra := rdBl RA.r jN
    with_reducible refine Exists.elim ra (fun id9 ra => ?_)
    with_reducible refine Exists.elim ra (fun off9 ra => ?_)
    with_reducible refine Exists.elim ra (fun c9 ra => ?_)
    have e9 := ra.1
    have l9 := ra.2.1
    have t9 := ra.2.2
    clear ra
    injection e9 with e9 _ _
    subst e9
    have eo := J.o1
    have oS := orF_succ (fun _ => false) A j
    have rs : rd1 h3 (h.n + 1) (j * 1) = some (.bool (orF (fun _ => false) A j j)) := by rw [Nat.mul_one, rd1_of eo, rd1O_cells, bT_get _ jN]
    have wr := fun b : Bool => J.wr hb (updB (orF (fun _ => false) A j) j b)
    have eS : ∀ b : Bool, h3.set (h.n + 1) (.cells ((bT N (orF (fun _ => false) A j)).set (j * 1) (.bool b)) .solo (h.n + 1)) = h3.set (h.n + 1) (.cells (bT N (updB (orF (fun _ => false) A j) j b)) .solo (h.n + 1)) := fun b => by rw [Nat.mul_one, bT_set]
    have fin : ∀ b : Bool, b = (orF (fun _ => false) A j j || A j) → BoJ h (h3.set (h.n + 1) (.cells (bT N (updB (orF (fun _ => false) A j) j b)) .solo (h.n + 1))) b1 mp vP vD vE L s D E T T1 N (orF (fun _ => false) A (j + 1)) x (.slice (some ⟨ik, ok2, none⟩) [k0, k1].length ck) := fun b e => by
      have := wr b
      rw [e, oS] at this
      rw [e, oS]
      exact this
    generalize hG : orF (fun _ => false) A j j = G at *
    simp (maxSteps := 1000000) -implicitDefEqProofs only [push_cast, seval, bx, rd_of bx, rd1_of bx, l0, dop, rs, ln1]
    repeat (with_reducible refine And.intro ?_ ?_; · (first | omega | decide))
    with_reducible refine bcase_mk (fun hG2 => ?_) (fun hG2 => ?_)
    · simp (maxSteps := 1000000) -implicitDefEqProofs only [push_cast, seval, hG2, eo, rd_of eo, rd1_of eo, ln1, bT_len]
      repeat (with_reducible refine And.intro ?_ ?_; · (first | omega | decide))
      rw [eS, wrapSucc (by omega)]
      exact ⟨j + 1, by kernel_rfl, ⟨by omega, fin true (by rw [hG2]; rfl), RA.wr _⟩, by omega⟩
    · simp (maxSteps := 1000000) -implicitDefEqProofs only [push_cast, seval, hG2, l9, t9, eo, rd_of eo, rd1_of eo, ln1, bT_len]
      repeat (with_reducible refine And.intro ?_ ?_; · (first | omega | decide))
      rw [eS, wrapSucc (by omega)]
      exact ⟨j + 1, by kernel_rfl, ⟨by omega, fin (A j) (by rw [hG2]; rfl), RA.wr _⟩, by omega⟩
  have ej : j = N := by omega
  have eF : ∀ q, q < N → orF (fun _ => false) A j q = A q := fun q hq => by rw [ej, orF_end hq]; rfl
  generalize orF (fun _ => false) A j = F at *
  have z0 := rd0 h3 T1 J.me
  have lk := z0.1
  have qk := z0.2.2
  clear z0
  simp (maxSteps := 1000000) -implicitDefEqProofs only [push_cast, seval, bx, rd_of bx, rd1_of bx, l0, dop, lk, qk, u]
  repeat (with_reducible refine And.intro ?_ ?_; · (first | omega | decide))
  have lx := J.me
  with_reducible refine CC.mono (E1 h3 T1 i J.me hi) (fun vb h4 hq => ?_)
  with_reducible refine Exists.elim hq (fun T2 hq => ?_)
  have m4 := hq.1
  have fe4 := hq.2.1
  have tv4 := hq.2.2
  clear hq
  have J4 := J.call hb m4 fe4
  have RB := Me.rt2 (h := h) m4 hk1 hi tv4 J4.f1 hN
  have hB := fun q => mB_iff (L := L.map Prod.fst) (s := s) (k := k1) (i := i) (j := q)
  generalize mB (L.map Prod.fst) s k1 i = B at *
  clear J bx l0 ln1 lk qk RA hb2
  have kf := RB.r.rde (fun _ => rfl)
  with_reducible refine Exists.elim kf (fun Ab kf => ?_)
  with_reducible refine Exists.elim kf (fun cb kf => ?_)
  have ea := kf.1
  clear kf
  rw [bL_len] at ea
  subst ea
  simp (maxSteps := 1000000) -implicitDefEqProofs only [push_cast, seval]
  refine WC.loopA (by kernel_rfl) [13] [91, 92, 93, 94, 95, 96, 97, 98, 99, 100, 101, 102, 103, 104, 105, 106, 107, 108, 109] (fun j : Nat => [.int .i64 (j : Nat)]) (fun j h' => j ≤ N ∧ BoJ h h' b1 mp vP vD vE L s D E T T2 N (orF F B j) x (.slice (some ⟨ik, ok2, none⟩) [k0, k1].length ck) ∧ Rt2 h h' b1 (.slice Ab N cb) N B) (fun j => N - j) 0 (by kernel_rfl) ⟨Nat.zero_le _, by rw [orF_zero]; exact J4, RB⟩ ?_
  clear J4 RB m4 fe4
  intro j g5 h5 hJ
  have hj := hJ.1
  have J := hJ.2.1
  have RA := hJ.2.2
  clear hJ
  have bx := J.bx
  have l0 : h.n < h5.n := by have := J.n2; omega
  have ln1 : h.n + 1 < h5.n := by have := J.n2; omega
  simp (maxSteps := 1000000) -implicitDefEqProofs only [push_cast, seval]
  with_reducible refine bcase_d (fun hb2 => ?_) (fun hb2 => ?_)
  · have jN : j < N := by omega
    have ra := rdBl RA.r jN
    with_reducible refine Exists.elim ra (fun id9 ra => ?_)
    with_reducible refine Exists.elim ra (fun off9 ra => ?_)
    with_reducible refine Exists.elim ra (fun c9 ra => ?_)
    have e9 := ra.1
    have l9 := ra.2.1
    have t9 := ra.2.2
    clear ra
    injection e9 with e9 _ _
    subst e9
    have eo := J.o1
    have oS := orF_succ F B j
    have rs : rd1 h5 (h.n + 1) (j * 1) = some (.bool (orF F B j j)) := by rw [Nat.mul_one, rd1_of eo, rd1O_cells, bT_get _ jN]
    have wr := fun b : Bool => J.wr hb (updB (orF F B j) j b)
    have eS : ∀ b : Bool, h5.set (h.n + 1) (.cells ((bT N (orF F B j)).set (j * 1) (.bool b)) .solo (h.n + 1)) = h5.set (h.n + 1) (.cells (bT N (updB (orF F B j) j b)) .solo (h.n + 1)) := fun b => by rw [Nat.mul_one, bT_set]
    have fin : ∀ b : Bool, b = (orF F B j j || B j) → BoJ h (h5.set (h.n + 1) (.cells (bT N (updB (orF F B j) j b)) .solo (h.n + 1))) b1 mp vP vD vE L s D E T T2 N (orF F B (j + 1)) x (.slice (some ⟨ik, ok2, none⟩) [k0, k1].length ck) := fun b e => by
      have := wr b
      rw [e, oS] at this
      rw [e, oS]
      exact this
    generalize hG : orF F B j j = G at *
    simp (maxSteps := 1000000) -implicitDefEqProofs only [push_cast, seval, rs, ln1]
    repeat (with_reducible refine And.intro ?_ ?_; · (first | omega | decide))
    with_reducible refine bcase_mk (fun hG2 => ?_) (fun hG2 => ?_)
    · simp (maxSteps := 1000000) -implicitDefEqProofs only [push_cast, seval, hG2, eo, rd_of eo, rd1_of eo, ln1, bT_len]
      repeat (with_reducible refine And.intro ?_ ?_; · (first | omega | decide))
      rw [eS, wrapSucc (by omega)]
      exact ⟨j + 1, by kernel_rfl, ⟨by omega, fin true (by rw [hG2]; rfl), RA.wr _⟩, by omega⟩
    · simp (maxSteps := 1000000) -implicitDefEqProofs only [push_cast, seval, hG2, l9, t9, eo, rd_of eo, rd1_of eo, ln1, bT_len]
      repeat (with_reducible refine And.intro ?_ ?_; · (first | omega | decide))
      rw [eS, wrapSucc (by omega)]
      exact ⟨j + 1, by kernel_rfl, ⟨by omega, fin (B j) (by rw [hG2]; rfl), RA.wr _⟩, by omega⟩
  have ej : j = N := by omega
  have eF2 : ∀ q, q < N → orF F B j q = (F q || B q) := fun q hq => by rw [ej, orF_end hq]
  simp (maxSteps := 1000000) -implicitDefEqProofs only [push_cast, seval]
  refine ⟨T2, orF F B j, J.me, J.fe, by rw [hN], by rw [← hN]; exact J.o1, J.f1, by have := J.n2; omega, fun q hq => ?_⟩
  rw [eF2 q (by omega), eF q (by omega), st, Bool.or_eq_true, hA, hB]
theorem both5 (hx : (x, kv) ∈ L) (hop : x.op = 5) (k0 k1 : Nat) (hks : x.kids = [k0, k1]) (hk0 : k0 < L.length) (hk1 : k1 < L.length) (ok : Okp (L.map Prod.fst)) (E0 : AtOk b1 mp vP vD vE L s D E k0) (E1 : AtOk b1 mp vP vD vE L s D E k1) (hs : s.size ≤ 100000) (T : Nat → Nat → Option Value) (i : Nat) (m : Me h b1 mp vP vD vE L s D E T) (hi : i ≤ s.size) :
    CC Try.prog 147 [.pointer (some ⟨mp, 0, none⟩), .agg #[.int .i64 (x.op : Nat), .string x.text, kv], .int .i64 (i : Nat)] h (fun v h' => ∃ T' F, Me h' b1 mp vP vD vE L s D E T' ∧ Fe h.n D E h h' T T' ∧ v = .slice (some ⟨h.n + 1, 0, none⟩) (s.size + 1) 1 ∧ h'.ob (h.n + 1) = .cells (bT (s.size + 1) F) .solo (h.n + 1) ∧ FrT L s T' (h.n + 1) ∧ h.n + 1 < h'.n ∧ ∀ j, j ≤ s.size → (F j = true ↔ Go.Sim.step (Mt (L.map Prod.fst) s) x s i j)) := by
  unfold AtOk at E0 E1
  have kr := fun (h' : AH) T' (m' : Me h' b1 mp vP vD vE L s D E T') => m'.pat.kids _ hx
  simp only [hks] at kr
  have u := (kr h T m).one
  have pt := m.pt
  have lt := Nat.lt_of_lt_of_le m.mlt m.hb
  have hb := m.hb
  have hlt := m.lt
  have kd0 : kid x 0 = k0 := by simp [kid, hks]
  have kd1 : kid x 1 = k1 := by simp [kid, hks]
  have Rin : ∀ q, Mt (L.map Prod.fst) s k0 i q → q ≤ s.size := fun q hr => (Mt_in ok k0 (by rw [List.length_map]; exact hk0) i q hi hr).2
  have st := fun q => step5 (R := Mt (L.map Prod.fst) s) (s := s) (i := i) (j := q) hop
  simp only [kd0, kd1] at st
  obtain ⟨N, hN⟩ : ∃ N, N = s.size + 1 := ⟨_, rfl⟩
  have w1 : IntKind.i64.wrap ((s.size : Int) + 1) = (N : Int) := by rw [hN]; exact wrapSucc (by omega)
  have dop : decide (((x.op : Nat) : Int) = 6) = false := decide_eq_false (by rw [hop]; decide)
  have p0 := (Pre.refl h).alloc (AOb.cells [.int .i64 (x.op : Nat), .string x.text, kv] .solo h.n)
  have e0 := alloc_same (h := h) (AOb.cells [.int .i64 (x.op : Nat), .string x.text, kv] .solo h.n)
  have n0 : (h.alloc (.cells [.int .i64 (x.op : Nat), .string x.text, kv] .solo h.n)).n = h.n + 1 := rfl
  refine CC.ofN Try.func147 Try.ntmps147 Try.results147 rfl (by decide) (by kernel_rfl) ?_
  simp (maxSteps := 1000000) -implicitDefEqProofs only [push_cast, seval, pt, rd_of pt, rd1_of pt, lt, u]
  have pt1 := (p0.ob mp lt).trans pt
  have lt1 := Nat.lt_of_lt_of_le lt p0.n
  generalize (h.alloc (AOb.cells [.int .i64 (x.op : Nat), .string x.text, kv] .solo h.n)) = h0 at *
  simp (maxSteps := 1000000) -implicitDefEqProofs only [push_cast, seval, pt1, rd_of pt1, rd1_of pt1, lt1, u, w1]
  repeat (with_reducible refine And.intro ?_ ?_; · (first | omega | decide))
  rw [Nat.mul_one, w1, Int.toNat_natCast, ← n0]
  have pz : Pre h0 (h0.alloc (.cells (List.replicate N (.bool false)) .solo h0.n)) := (Pre.refl h0).alloc _
  have ez : (h0.alloc (.cells (List.replicate N (.bool false)) .solo h0.n)).ob h0.n = .cells (bT N (fun _ => false)) .solo h0.n := by rw [alloc_same, bT_zero, Nat.mul_one]
  have nz : (h0.alloc (.cells (List.replicate N (.bool false)) .solo h0.n)).n = h0.n + 1 := rfl
  generalize (h0.alloc (.cells (List.replicate N (.bool false)) .solo h0.n)) = h1 at *
  have ph := p0.trans pz
  rw [n0] at ez nz
  have J : BoJ h h1 b1 mp vP vD vE L s D E T T N (fun _ => false) x kv := ⟨m.pre ph, .ofPre ph (Nat.le_refl _), m.frN (by omega), (pz.ob _ (by omega)).trans e0, ez, by omega⟩
  rw [n0]
  clear pt1 lt1 e0 ez n0 nz p0 pz
  have bx := J.bx
  have l0 : h.n < h1.n := by have := J.n2; omega
  have kf := (kr h1 T J.me).rde (fun _ => rfl)
  with_reducible refine Exists.elim kf (fun Ak kf => ?_)
  with_reducible refine Exists.elim kf (fun ck kf => ?_)
  have ek := kf.1
  clear kf
  subst ek
  have rd0 : ∀ h' T', Me h' b1 mp vP vD vE L s D E T' → ∃ id off, Ak = some ⟨id, off, none⟩ ∧ id < h'.n ∧ rd1 h' id off = some (.int .i64 (k0 : Nat)) ∧ rd1 h' id (off + 1 * 1) = some (.int .i64 (k1 : Nat)) := fun h' T' m' => by
    have r := kr h' T' m'
    obtain ⟨id, off, c, e, l, q⟩ := r.el (fun _ => rfl) (show 0 < [k0, k1].length by simp)
    obtain ⟨id2, off2, c2, e2, l2, q2⟩ := r.el (fun _ => rfl) (show 1 < [k0, k1].length by simp)
    injection e with e _ _
    injection e2 with e2 _ _
    rw [e] at e2
    injection e2 with e2
    injection e2 with e21 e22
    subst e21 e22
    rw [Nat.zero_mul, Nat.add_zero] at q
    exact ⟨id, off, e, l, rd_1 q, rd_1 q2⟩
  have z0 := rd0 h1 T J.me
  with_reducible refine Exists.elim z0 (fun ik z0 => ?_)
  with_reducible refine Exists.elim z0 (fun ok2 z0 => ?_)
  have ek := z0.1
  subst ek
  have lk := z0.2.1
  have qk := z0.2.2.1
  clear z0
  have rd0 : ∀ h' T', Me h' b1 mp vP vD vE L s D E T' → ik < h'.n ∧ rd1 h' ik ok2 = some (.int .i64 (k0 : Nat)) ∧ rd1 h' ik (ok2 + 1 * 1) = some (.int .i64 (k1 : Nat)) := fun h' T' m' => by
    obtain ⟨id, off, e, l, q, q2⟩ := rd0 h' T' m'
    injection e with e
    injection e with e1 e2
    subst e1 e2
    exact ⟨l, q, q2⟩
  simp (maxSteps := 1000000) -implicitDefEqProofs only [push_cast, seval, bx, rd_of bx, rd1_of bx, l0, lk, qk, u]
  repeat (with_reducible refine And.intro ?_ ?_; · (first | omega | decide))
  with_reducible refine CC.mono (E0 h1 T i J.me hi) (fun va h2 hq => ?_)
  with_reducible refine Exists.elim hq (fun T1 hq => ?_)
  have m2 := hq.1
  have fe2 := hq.2.1
  have tv := hq.2.2
  clear hq
  have J1 := J.call hb m2 fe2
  have RA := Me.rt2 (h := h) m2 hk0 hi tv J1.f1 hN
  have hA := fun q => mB_iff (L := L.map Prod.fst) (s := s) (k := k0) (i := i) (j := q)
  generalize mB (L.map Prod.fst) s k0 i = A at *
  clear J bx l0 lk qk
  have ya := RA.r.one
  have kf := RA.r.rde (fun _ => rfl)
  with_reducible refine Exists.elim kf (fun Aa kf => ?_)
  with_reducible refine Exists.elim kf (fun ca kf => ?_)
  have ea := kf.1
  clear kf
  rw [bL_len] at ea
  subst ea
  simp (maxSteps := 1000000) -implicitDefEqProofs only [push_cast, seval]
  have Rn : ∀ q, A q = true → q ≤ s.size := fun q e => Rin q ((hA q).1 e)
  refine WC.loopA (by kernel_rfl) [9] [10, 11, 28, 29, 30, 31, 32, 33, 34, 35, 36, 37, 38, 39, 40, 41, 42, 43, 44, 45, 46, 47, 48, 49, 50, 51, 52, 53, 54, 55, 56, 57, 58, 59, 60, 61, 62, 63, 64, 65, 66, 67, 68, 69, 70, 71, 72, 73, 74, 75, 76, 77, 78, 79, 80] (fun a : Nat × (Nat → Bool) => [.int .i64 (a.1 : Nat)]) (fun a h' => a.1 ≤ N ∧ (∀ q, q ≤ s.size → (a.2 q = true ↔ ∃ m, m < a.1 ∧ A m = true ∧ Mt (L.map Prod.fst) s k1 m q)) ∧ (∃ T3, BoJ h h' b1 mp vP vD vE L s D E T T3 N a.2 x (.slice (some ⟨ik, ok2, none⟩) [k0, k1].length ck)) ∧ Rt2 h h' b1 (.slice Aa N ca) N A) (fun a => N - a.1) (0, fun _ => false) (by kernel_rfl) ⟨Nat.zero_le _, (fun q _ => ⟨fun e => (by cases e), fun ⟨m, e, _⟩ => absurd e (Nat.not_lt_zero m)⟩), ⟨T1, J1⟩, RA⟩ ?_
  clear J1 RA m2 fe2
  intro a g h3 hJ
  obtain ⟨j, F⟩ := a
  simp only at hJ
  have hj := hJ.1
  have hF := hJ.2.1
  have hx3 := hJ.2.2.1
  have RA := hJ.2.2.2
  clear hJ
  with_reducible refine Exists.elim hx3 (fun T3 J => ?_)
  clear hx3
  have bx := J.bx
  have l0 : h.n < h3.n := by have := J.n2; omega
  have ln1 : h.n + 1 < h3.n := by have := J.n2; omega
  simp (maxSteps := 1000000) -implicitDefEqProofs only [push_cast, seval]
  with_reducible refine bcase_d (fun hb2 => ?_) (fun hb2 => ?_)
  rotate_left
  · have ej : j = N := by omega
    simp (maxSteps := 1000000) -implicitDefEqProofs only [push_cast, seval, bx, rd_of bx, rd1_of bx, l0, dop]
    refine ⟨T3, F, J.me, J.fe, by rw [hN], by rw [← hN]; exact J.o1, J.f1, by have := J.n2; omega, fun q hq => ?_⟩
    rw [hF q hq, st]
    constructor
    · rintro ⟨m, _, a, b⟩; exact ⟨m, (hA m).1 a, b⟩
    · rintro ⟨m, a, b⟩
      have ha := (hA m).2 a
      exact ⟨m, by have := Rn m ha; omega, ha, b⟩
  have jN : j < N := by omega
  have ra := rdBl RA.r jN
  with_reducible refine Exists.elim ra (fun id9 ra => ?_)
  with_reducible refine Exists.elim ra (fun off9 ra => ?_)
  with_reducible refine Exists.elim ra (fun c9 ra => ?_)
  have e9 := ra.1
  have l9 := ra.2.1
  have t9 := ra.2.2
  clear ra
  injection e9 with e9 _ _
  subst e9
  simp (maxSteps := 1000000) -implicitDefEqProofs only [push_cast, seval, bx, rd_of bx, rd1_of bx, l0, dop, l9, t9]
  repeat (with_reducible refine And.intro ?_ ?_; · (first | omega | decide))
  with_reducible refine bcase_mk (fun hAj => ?_) (fun hAj => ?_)
  rotate_left
  · simp (maxSteps := 1000000) -implicitDefEqProofs only [push_cast, seval, bx, rd_of bx, rd1_of bx, l0, dop]
    rw [wrapSucc (by omega)]
    refine ⟨(j + 1, F), by kernel_rfl, ⟨by show j + 1 ≤ N; omega, fun q hq => ?_, ⟨T3, J⟩, RA⟩, by show N - (j + 1) < N - j; omega⟩
    show F q = true ↔ ∃ m, m < j + 1 ∧ _
    rw [hF q hq]
    constructor
    · rintro ⟨m, a, b⟩; exact ⟨m, by omega, b⟩
    · rintro ⟨m, a, b, c⟩
      refine ⟨m, ?_, b, c⟩
      by_cases e : m = j
      · subst e; rw [b] at hAj; cases hAj
      · omega
  have z0 := rd0 h3 T3 J.me
  have lk := z0.1
  have qk := z0.2.2
  clear z0
  simp (maxSteps := 1000000) -implicitDefEqProofs only [push_cast, seval, bx, rd_of bx, rd1_of bx, l0, dop, lk, qk, u]
  repeat (with_reducible refine And.intro ?_ ?_; · (first | omega | decide))
  with_reducible refine CC.mono (E1 h3 T3 j J.me (by omega)) (fun vb h4 hq => ?_)
  with_reducible refine Exists.elim hq (fun T2 hq => ?_)
  have m4 := hq.1
  have fe4 := hq.2.1
  have tv4 := hq.2.2
  clear hq
  have J4 := J.call hb m4 fe4
  have RB := Me.rt2 (h := h) m4 hk1 (show j ≤ s.size by omega) tv4 J4.f1 hN
  have hB := fun q => mB_iff (L := L.map Prod.fst) (s := s) (k := k1) (i := j) (j := q)
  have RA4 := RA.call hlt fe4
  generalize mB (L.map Prod.fst) s k1 j = B at *
  clear J bx l0 ln1 lk qk RA
  have kf := RB.r.rde (fun _ => rfl)
  with_reducible refine Exists.elim kf (fun Ab kf => ?_)
  with_reducible refine Exists.elim kf (fun cb kf => ?_)
  have ea := kf.1
  clear kf
  rw [bL_len] at ea
  subst ea
  simp (maxSteps := 1000000) -implicitDefEqProofs only [push_cast, seval]
  refine WC.loopA (by kernel_rfl) [11] [62, 63, 64, 65, 66, 67, 68, 69, 70, 71, 72, 73, 74, 75, 76, 77, 78, 79, 80] (fun j : Nat => [.int .i64 (j : Nat)]) (fun j h' => j ≤ N ∧ BoJ h h' b1 mp vP vD vE L s D E T T2 N (orF F B j) x (.slice (some ⟨ik, ok2, none⟩) [k0, k1].length ck) ∧ Rt2 h h' b1 (.slice Ab N cb) N B ∧ Rt2 h h' b1 (.slice (some ⟨id9, off9, none⟩) N ca) N A) (fun j => N - j) 0 (by kernel_rfl) ⟨Nat.zero_le _, by rw [orF_zero]; exact J4, RB, RA4⟩ ?_
  clear J4 RB m4 fe4 RA4
  intro e g5 h5 hJ
  have he := hJ.1
  have J := hJ.2.1
  have RB := hJ.2.2.1
  have RA := hJ.2.2.2
  clear hJ
  have bx := J.bx
  have l0 : h.n < h5.n := by have := J.n2; omega
  have ln1 : h.n + 1 < h5.n := by have := J.n2; omega
  simp (maxSteps := 1000000) -implicitDefEqProofs only [push_cast, seval]
  with_reducible refine bcase_d (fun hb3 => ?_) (fun hb3 => ?_)
  · have jN : e < N := by omega
    have ra := rdBl RB.r jN
    with_reducible refine Exists.elim ra (fun id8 ra => ?_)
    with_reducible refine Exists.elim ra (fun off8 ra => ?_)
    with_reducible refine Exists.elim ra (fun c8 ra => ?_)
    have e8 := ra.1
    have l8 := ra.2.1
    have t8 := ra.2.2
    clear ra
    injection e8 with e8 _ _
    subst e8
    have eo := J.o1
    have oS := orF_succ F B e
    have rs : rd1 h5 (h.n + 1) (e * 1) = some (.bool (orF F B e e)) := by rw [Nat.mul_one, rd1_of eo, rd1O_cells, bT_get _ jN]
    have wr := fun b : Bool => J.wr hb (updB (orF F B e) e b)
    have eS : ∀ b : Bool, h5.set (h.n + 1) (.cells ((bT N (orF F B e)).set (e * 1) (.bool b)) .solo (h.n + 1)) = h5.set (h.n + 1) (.cells (bT N (updB (orF F B e) e b)) .solo (h.n + 1)) := fun b => by rw [Nat.mul_one, bT_set]
    have fin : ∀ b : Bool, b = (orF F B e e || B e) → BoJ h (h5.set (h.n + 1) (.cells (bT N (updB (orF F B e) e b)) .solo (h.n + 1))) b1 mp vP vD vE L s D E T T2 N (orF F B (e + 1)) x (.slice (some ⟨ik, ok2, none⟩) [k0, k1].length ck) := fun b eb => by
      have := wr b
      rw [eb, oS] at this
      rw [eb, oS]
      exact this
    generalize hG : orF F B e e = G at *
    simp (maxSteps := 1000000) -implicitDefEqProofs only [push_cast, seval, rs, ln1]
    repeat (with_reducible refine And.intro ?_ ?_; · (first | omega | decide))
    with_reducible refine bcase_mk (fun hG2 => ?_) (fun hG2 => ?_)
    · simp (maxSteps := 1000000) -implicitDefEqProofs only [push_cast, seval, hG2, eo, rd_of eo, rd1_of eo, ln1, bT_len]
      repeat (with_reducible refine And.intro ?_ ?_; · (first | omega | decide))
      rw [eS, wrapSucc (by omega)]
      exact ⟨e + 1, by kernel_rfl, ⟨by omega, fin true (by rw [hG2]; rfl), RB.wr _, RA.wr _⟩, by omega⟩
    · simp (maxSteps := 1000000) -implicitDefEqProofs only [push_cast, seval, hG2, l8, t8, eo, rd_of eo, rd1_of eo, ln1, bT_len]
      repeat (with_reducible refine And.intro ?_ ?_; · (first | omega | decide))
      rw [eS, wrapSucc (by omega)]
      exact ⟨e + 1, by kernel_rfl, ⟨by omega, fin (B e) (by rw [hG2]; rfl), RB.wr _, RA.wr _⟩, by omega⟩
  have ej : e = N := by omega
  have eF2 : ∀ q, q < N → orF F B e q = (F q || B q) := fun q hq => by rw [ej, orF_end hq]
  simp (maxSteps := 1000000) -implicitDefEqProofs only [push_cast, seval]
  rw [wrapSucc (by omega)]
  refine ⟨(j + 1, orF F B e), by kernel_rfl, ⟨by show j + 1 ≤ N; omega, fun q hq => ?_, ⟨T2, J⟩, RA⟩, by show N - (j + 1) < N - j; omega⟩
  show orF F B e q = true ↔ ∃ m, m < j + 1 ∧ _
  rw [eF2 q (by omega), Bool.or_eq_true, hF q hq, hB]
  constructor
  · rintro (⟨m, a, b⟩ | a)
    · exact ⟨m, by omega, b⟩
    · exact ⟨j, by omega, hAj, a⟩
  · rintro ⟨m, a, b, c⟩
    by_cases e : m = j
    · subst e; exact .inr c
    · exact .inl ⟨m, by omega, b, c⟩
end Go.Proofs.Ytciajhpeikemoaa
namespace Go.Proofs.Ytciajhpeikemoaa
open Go Go.Sim Go.Proofs
set_option linter.unusedSimpArgs false
set_option linter.unusedVariables false
set_option maxRecDepth 100000
set_option maxHeartbeats 1000000
theorem len2 {l : List Nat} (h : l.length = 2) : ∃ a b, l = [a, b] := by
  match l, h with
  | [a, b], _ => exact ⟨a, b, rfl⟩
theorem len1 {l : List Nat} (h : l.length = 1) : ∃ a, l = [a] := by
  match l, h with
  | [a], _ => exact ⟨a, rfl⟩
theorem bT_congr {n : Nat} {F G : Nat → Bool} (h : ∀ j, j < n → F j = G j) : bT n F = bT n G := by
  unfold bT
  apply List.map_congr_left
  intro j hj
  rw [List.mem_range] at hj
  rw [h j hj]
theorem rd_bT {h : AH} {id : Nat} {n : Nat} {F : Nat → Bool} {st : Sim.Stat} {ln : Nat} (e : h.ob id = .cells (bT n F) st ln) (hl : id < h.n) : RdV h (.slice (some ⟨id, 0, none⟩) n 1) 1 encT (bL n F) := by
  refine .inr ⟨id, 0, 1, by rw [bL_len], ?_, hl⟩
  rw [bL_len, Nat.mul_one, bT_bL, rd_of e, rdO_cells, if_pos (by rw [bT_len]; omega), List.drop_zero, List.take_of_length_le (by rw [bT_len]; omega)]
/-- What is found for a piece, ahead of its being told. -/
structure Got (h h5 : AH) (b1 mp : Nat) (vP vD vE : Value) (L : List (Pc × Value)) (s : ByteArray) (D E : List Nat) (T T5 : Nat → Nat → Option Value) (v : Value) (R : Nat → Prop) : Prop where
  me : Me h5 b1 mp vP vD vE L s D E T5
  fe : Fe h.n D E h h5 T T5
  rd : ∃ F : Nat → Bool, RdV h5 v 1 encT (bL (s.size + 1) F) ∧ ∀ j, j ≤ s.size → (F j = true ↔ R j)
  bl : ∀ c, atBlock v c → h.n ≤ c ∧ live h5 c
theorem bL_congr {n : Nat} {F G : Nat → Bool} (h : ∀ j, j < n → F j = G j) : bL n F = bL n G := by
  unfold bL
  apply List.map_congr_left
  intro j hj
  rw [List.mem_range] at hj
  exact h j hj
theorem Got.tell {b1 mp : Nat} {vP vD vE : Value} {L : List (Pc × Value)} {s : ByteArray} {D E : List Nat} {T T5 : Nat → Nat → Option Value} {h h5 : AH} {v : Value} {k i : Nat} (g : Got h h5 b1 mp vP vD vE L s D E T T5 v (Mt (L.map Prod.fst) s k i)) (hb : b1 ≤ h.n) (hk : k < L.length) (hi : i ≤ s.size) (kD : k < D.length) (kE : k < E.length) :
    ∃ T', Me ((h5.set D[k] (.cells (bT (s.size + 1) (fun j => (updT T5 k i v k j).isSome)) .solo D[k])).set E[k] (.cells (eT (s.size + 1) (updT T5 k i v k)) .solo E[k])) b1 mp vP vD vE L s D E T' ∧ Fe h.n D E h ((h5.set D[k] (.cells (bT (s.size + 1) (fun j => (updT T5 k i v k j).isSome)) .solo D[k])).set E[k] (.cells (eT (s.size + 1) (updT T5 k i v k)) .solo E[k])) T T' ∧ T' k i = some v := by
  obtain ⟨F, r, hF⟩ := g.rd
  refine ⟨updT T5 k i v, g.me.tell hk hi ?_ (fun c hc => ⟨Nat.le_trans hb (g.bl c hc).1, (g.bl c hc).2⟩) kD kE, ⟨g.fe.n, fun y hy a b => ?_, fun k' i' w e => ?_⟩, updT_same _ _ _ _⟩
  · have e : bL (s.size + 1) F = bL (s.size + 1) (mB (L.map Prod.fst) s k i) := bL_congr (fun j hj => by rw [Bool.eq_iff_iff, hF j (by omega), mB_iff])
    rw [← e]; exact r
  · rw [set_ne _ (fun e => b (by rw [e]; exact List.getElem_mem kE)), set_ne _ (fun e => a (by rw [e]; exact List.getElem_mem kD))]
    exact g.fe.ob y hy a b
  · unfold updT at e
    by_cases c : k' = k ∧ i' = i
    · rw [if_pos c] at e
      obtain rfl := Option.some.inj e
      exact .inr (fun c hc => (g.bl c hc).1)
    · rw [if_neg c] at e; exact g.fe.new k' i' w e
theorem at_ok (b1 mp : Nat) (vP vD vE : Value) (L : List (Pc × Value)) (s : ByteArray) (D E : List Nat) (ok : Okp (L.map Prod.fst)) (hL : L.length ≤ 1000) (hs : s.size ≤ 100000) : ∀ k, k < L.length → AtOk b1 mp vP vD vE L s D E k := by
  intro k
  induction k using Nat.strongRecOn with
  | ind k ih =>
  intro hk
  unfold AtOk
  intro h T i m hi
  have pt := m.pt
  have lt := Nat.lt_of_lt_of_le m.mlt m.hb
  have hb := m.hb
  have hlt := m.lt
  have nDE : ∀ y, b1 ≤ y → y ∉ D ∧ y ∉ E := fun y hy => ⟨fun e => by have := hlt y (.inl e); omega, fun e => by have := hlt y (.inr e); omega⟩
  have kD : k < D.length := by rw [m.lD]; exact hk
  have kE : k < E.length := by rw [m.lE]; exact hk
  obtain ⟨N, hN⟩ : ∃ N, N = s.size + 1 := ⟨_, rfl⟩
  have okk := ok k (by rw [List.length_map]; exact hk)
  rw [List.getElem_map] at okk
  have hpc : pcAt (L.map Prod.fst) k = L[k].1 := by simp [pcAt, hk]
  have hMt : ∀ j, Mt (L.map Prod.fst) s k i j ↔ Go.Sim.step (Mt (L.map Prod.fst) s) L[k].1 s i j := fun j => by
    rw [Mt_eq ok (by rw [List.length_map]; exact hk), hpc]
  have hx : (L[k].1, L[k].2) ∈ L := List.getElem_mem hk
  obtain ⟨iD, oD, cD, eD, lD, qD⟩ := m.rD.el (fun _ => rfl) kD
  obtain ⟨iE, oE, cE, eE, lE, qE⟩ := m.rE.el (fun _ => rfl) kE
  obtain ⟨iP, oP, cP, eP, lP, qP⟩ := m.pat.r.el encP_len hk
  have qD := rd_1 qD
  have qE := rd_1 qE
  simp only [encP] at qP
  have qP0 := (rd_3 qP).1
  have qP1 := (rd_3 qP).2.1
  have qP2 := (rd_3 qP).2.2
  have dk := m.dk k kD
  have ek := m.ek k kE
  rw [← hN] at dk ek
  have ltD : D[k] < h.n := Nat.lt_of_lt_of_le (hlt _ (.inl (List.getElem_mem kD))) hb
  have ltE : E[k] < h.n := Nat.lt_of_lt_of_le (hlt _ (.inr (List.getElem_mem kE))) hb
  have iN : i < N := by omega
  have rDi : rd1 h D[k] (i * 1) = some (.bool (T k i).isSome) := by rw [Nat.mul_one, rd1_of dk, rd1O_cells, bT_get _ iN]
  have rEi : rd1 h E[k] (i * 1) = some ((T k i).getD nilS) := by rw [Nat.mul_one, rd1_of ek, rd1O_cells, eT_get _ iN]
  have lDn : D.length = L.length := m.lD
  have lEn : E.length = L.length := m.lE
  rw [← hN] at qD qE
  rw [lDn] at eD
  rw [lEn] at eE
  refine CC.withLin (fun lin => ?_)
  refine CC.ofN Try.func97 Try.ntmps97 Try.results97 rfl (by decide) (by kernel_rfl) ?_
  subst eD eE eP
  simp (maxSteps := 1000000) -implicitDefEqProofs only [push_cast, seval, pt, rd_of pt, rd1_of pt, lt, qD, lD, ltD, rDi]
  repeat (with_reducible refine And.intro ?_ ?_; · (first | omega | decide))
  with_reducible refine bcase_mk (fun hT => ?_) (fun hT => ?_)
  · have hv : ∃ v, T k i = some v := Option.isSome_iff_exists.1 hT
    with_reducible refine Exists.elim hv (fun v hv => ?_)
    rw [hv, Option.getD_some] at rEi
    have told := m.told k i v hk hi hv
    have y1 := told.1.one
    simp (maxSteps := 1000000) -implicitDefEqProofs only [push_cast, seval, pt, rd_of pt, rd1_of pt, lt, qE, lE, ltE, rEi]
    repeat (with_reducible refine And.intro ?_ ?_; · (first | omega | decide))
    exact ⟨T, m, Fe.refl _ _ _ _ _, hv⟩
  have kr := m.pat.kids _ (List.getElem_mem hk)
  have u := kr.one
  simp (maxSteps := 1000000) -implicitDefEqProofs only [push_cast, seval, pt, rd_of pt, rd1_of pt, lt, qP, qP0, qP1, qP2, lP, u]
  repeat (with_reducible refine And.intro ?_ ?_; · (first | omega | decide))
  generalize hH : ((h.alloc (.cells [.int .i64 0, .string ⟨#[]⟩, .slice none 0 0] .solo h.n)).set h.n (.cells [.int .i64 (L[k].1.op : Nat), .string L[k].1.text, L[k].2] .solo h.n)).alloc (.cells [] .solo (h.n + 1)) = H
  have nH : H.n = h.n + 2 := by rw [← hH]; rfl
  have pH : Pre h H := by rw [← hH]; exact ((((Pre.refl h).alloc _).set (Nat.le_refl _) _).alloc _)
  have eb : H.ob h.n = .cells [.int .i64 (L[k].1.op : Nat), .string L[k].1.text, L[k].2] .solo h.n := by
    rw [← hH, alloc_lt _ (show h.n < h.n + 1 by omega)]; exact set_same _ _
  have el : H.ob (h.n + 1) = .cells [] .solo (h.n + 1) := by
    rw [← hH]; exact alloc_same (h := (h.alloc (.cells [.int .i64 0, .string ⟨#[]⟩, .slice none 0 0] .solo h.n)).set h.n (.cells [.int .i64 (L[k].1.op : Nat), .string L[k].1.text, L[k].2] .solo h.n)) _
  clear hH
  have mH := m.pre pH
  have X0 := hx
  have hlin : ∀ q, atBlock L[k].2 q → q < b1 := fun q e => (m.patB q (.inr ⟨_, List.getElem_mem hk, e⟩)).1
  have okids := okk.kids
  have oahead := okk.ahead
  have oop := okk.op
  have qtx := okk
  generalize L[k].1 = X at *
  generalize L[k].2 = kv at *
  have lb : h.n < H.n := by omega
  have key : ∀ o : Nat, X.op = o → True := fun _ _ => trivial
  by_cases hleaf : X.op < 5 ∨ 9 < X.op
  · have f5 : decide ((X.op : Int) = 5) = false := decide_eq_false (by omega)
    have f6 : decide ((X.op : Int) = 6) = false := decide_eq_false (by omega)
    have f7 : decide ((X.op : Int) = 7) = false := decide_eq_false (by omega)
    have f8 : decide ((X.op : Int) = 8) = false := decide_eq_false (by omega)
    have f9 : decide ((X.op : Int) = 9) = false := decide_eq_false (by omega)
    simp (maxSteps := 1000000) -implicitDefEqProofs only [push_cast, seval, f5, f6, f7, f8, f9, eb, rd_of eb, rd1_of eb, lb, u]
    with_reducible refine CC.mono (one_c X kv mp i _ _ _ s H ⟨okk.op, okk.text, okk.kids, fun q hq => by have := okk.ahead q hq; omega⟩ hleaf u mH.pt (Nat.lt_of_lt_of_le lt pH.n) hi hs) (fun v h5 hv => ?_)
    with_reducible refine Exists.elim hv (fun F hv => ?_)
    have ow := hv.1
    have hF := hv.2
    clear hv
    have G : Got h h5 b1 mp (.slice (some ⟨iP, oP, none⟩) L.length cP) (.slice (some ⟨iD, oD, none⟩) L.length cD) (.slice (some ⟨iE, oE, none⟩) L.length cE) L s D E T T v (Mt (L.map Prod.fst) s k i) := by
      obtain ⟨id, e, eo, h1, h2⟩ := ow.ob
      subst e
      refine ⟨mH.pre ow.p, .ofPre (pH.trans ow.p) (Nat.le_refl _), ⟨F, rd_bT eo h2, fun j hj => by rw [hF j hj, hMt, stepL hleaf]⟩, fun c hc => ?_⟩
      have e : id = c := hc
      subst e
      exact ⟨by omega, .inl ⟨_, line_solo eo⟩⟩
    simp (maxSteps := 1000000) -implicitDefEqProofs only [push_cast, seval]
    have m5 := G.me
    have n5 := G.fe.n
    have pt5 := m5.pt
    have lt5 : mp < h5.n := by omega
    have zD := m5.rD.el (fun _ => rfl) kD
    have zE := m5.rE.el (fun _ => rfl) kE
    have qD5 : iD < h5.n ∧ rd1 h5 iD (oD + k * 1) = some (.slice (some ⟨D[k], 0, none⟩) N 1) := by
      obtain ⟨a, b, c, e, l, q⟩ := zD
      injection e with e _ _
      injection e with e
      injection e with e1 e2
      subst e1 e2
      rw [hN]
      exact ⟨l, rd_1 q⟩
    have qE5 : iE < h5.n ∧ rd1 h5 iE (oE + k * 1) = some (.slice (some ⟨E[k], 0, none⟩) N 1) := by
      obtain ⟨a, b, c, e, l, q⟩ := zE
      injection e with e _ _
      injection e with e
      injection e with e1 e2
      subst e1 e2
      rw [hN]
      exact ⟨l, rd_1 q⟩
    have lD5 := qD5.1
    have rD5 := qD5.2
    have lE5 := qE5.1
    have rE5 := qE5.2
    clear zD zE qD5 qE5
    have dk5 := m5.dk k kD
    have ek5 := m5.ek k kE
    rw [← hN] at dk5 ek5
    have lD6 : D[k] < h5.n := by omega
    have lE6 : E[k] < h5.n := by omega
    have fin := G.tell hb hk hi kD kE
    have yv : Sim.one v = true := by
      obtain ⟨F, r, _⟩ := G.rd
      exact r.one
    have yc : v.cells = #[v] := by
      obtain ⟨F, r, _⟩ := G.rd
      exact r.cell1
    have iEk : iE ≠ D[k] := fun e => (m5.bD iE (.inr rfl)).2.1 (by rw [e]; exact List.getElem_mem kD)
    have mpD : mp ≠ D[k] := fun e => m5.mne.1 (by rw [e]; exact List.getElem_mem kD)
    have dE : E[k] ≠ D[k] := fun e => m5.de _ (List.getElem_mem kD) (by rw [← e]; exact List.getElem_mem kE)
    rw [← hN] at fin
    simp (maxSteps := 1000000) -implicitDefEqProofs only [push_cast, seval, pt5, rd_of pt5, rd1_of pt5, lt5, lD5, rD5, dk5, rd_of dk5, rd1_of dk5, lD6, bT_len]
    repeat (with_reducible refine And.intro ?_ ?_; · (first | omega | decide))
    have eS : h5.set D[k] (.cells ((bT N fun j => (T k j).isSome).set (i * 1) (.bool true)) .solo D[k]) = h5.set D[k] (.cells (bT N (fun j => (updT T k i v k j).isSome)) .solo D[k]) := by rw [Nat.mul_one, dT_set T k i v]
    rw [eS]
    have pt6 : (h5.set D[k] (.cells (bT N (fun j => (updT T k i v k j).isSome)) .solo D[k])).ob mp = _ := (set_ne _ mpD).trans pt5
    have rE6 : rd1 (h5.set D[k] (.cells (bT N (fun j => (updT T k i v k j).isSome)) .solo D[k])) iE (oE + k * 1) = some (.slice (some ⟨E[k], 0, none⟩) N 1) := by rw [rd1_eq, set_ne _ iEk, ← rd1_eq]; exact rE5
    have ek6 : (h5.set D[k] (.cells (bT N (fun j => (updT T k i v k j).isSome)) .solo D[k])).ob E[k] = _ := (set_ne _ dE).trans ek5
    have n6 : (h5.set D[k] (.cells (bT N (fun j => (updT T k i v k j).isSome)) .solo D[k])).n = h5.n := rfl
    generalize (h5.set D[k] (.cells (bT N (fun j => (updT T k i v k j).isSome)) .solo D[k])) = h6 at *
    have lt6 : mp < h6.n := by omega
    have lE7 : iE < h6.n := by omega
    have lE8 : E[k] < h6.n := by omega
    simp (maxSteps := 1000000) -implicitDefEqProofs only [push_cast, seval, pt6, rd_of pt6, rd1_of pt6, lt6, pt5, rd_of pt5, rd1_of pt5, lt5, lE5, rE5, lE7, rE6, ek6, rd_of ek6, rd1_of ek6, lE8, eT_len, yv, yc]
    repeat (with_reducible refine And.intro ?_ ?_; · (first | omega | decide))
    rw [Nat.mul_one, eT_set T k i v]
    exact fin
  by_cases h5 : X.op = 5
  · have k2 : X.kids.length = 2 := by rw [okids, kidsN, if_pos (by omega)]
    obtain ⟨k0, k1, hks⟩ : ∃ k0 k1, X.kids = [k0, k1] := len2 k2
    have hk0 : k0 < k := oahead k0 (by rw [hks]; simp)
    have hk1 : k1 < k := oahead k1 (by rw [hks]; simp)
    have f5 : decide ((X.op : Int) = 5) = true := decide_eq_true (by omega)
    have f6 : decide ((X.op : Int) = 6) = false := decide_eq_false (by omega)
    simp (maxSteps := 1000000) -implicitDefEqProofs only [push_cast, seval, f5, f6, eb, rd_of eb, rd1_of eb, lb, u]
    with_reducible refine CC.mono (both5 hx h5 k0 k1 hks (by omega) (by omega) ok (ih k0 hk0 (by omega)) (ih k1 hk1 (by omega)) hs T i mH hi) (fun v h5 hv => ?_)
    with_reducible refine Exists.elim hv (fun T5 hv => ?_)
    with_reducible refine Exists.elim hv (fun F hv => ?_)
    have G : Got h h5 b1 mp (.slice (some ⟨iP, oP, none⟩) L.length cP) (.slice (some ⟨iD, oD, none⟩) L.length cD) (.slice (some ⟨iE, oE, none⟩) L.length cE) L s D E T T5 v (Mt (L.map Prod.fst) s k i) := by
      obtain ⟨a1, a2, a3, a4, a5, a6, a7⟩ := hv
      subst a3
      refine ⟨a1, (Fe.ofPre pH (Nat.le_refl _)).trans a2 (by omega), ⟨F, rd_bT a4 a6, fun j hj => by rw [a7 j hj, hMt]⟩, fun c hc => ?_⟩
      have e : H.n + 1 = c := hc
      subst e
      exact ⟨by omega, .inl ⟨_, line_solo a4⟩⟩
    clear hv
    simp (maxSteps := 1000000) -implicitDefEqProofs only [push_cast, seval]
    have m5 := G.me
    have n5 := G.fe.n
    have pt5 := m5.pt
    have lt5 : mp < h5.n := by omega
    have zD := m5.rD.el (fun _ => rfl) kD
    have zE := m5.rE.el (fun _ => rfl) kE
    have qD5 : iD < h5.n ∧ rd1 h5 iD (oD + k * 1) = some (.slice (some ⟨D[k], 0, none⟩) N 1) := by
      obtain ⟨a, b, c, e, l, q⟩ := zD
      injection e with e _ _
      injection e with e
      injection e with e1 e2
      subst e1 e2
      rw [hN]
      exact ⟨l, rd_1 q⟩
    have qE5 : iE < h5.n ∧ rd1 h5 iE (oE + k * 1) = some (.slice (some ⟨E[k], 0, none⟩) N 1) := by
      obtain ⟨a, b, c, e, l, q⟩ := zE
      injection e with e _ _
      injection e with e
      injection e with e1 e2
      subst e1 e2
      rw [hN]
      exact ⟨l, rd_1 q⟩
    have lD5 := qD5.1
    have rD5 := qD5.2
    have lE5 := qE5.1
    have rE5 := qE5.2
    clear zD zE qD5 qE5
    have dk5 := m5.dk k kD
    have ek5 := m5.ek k kE
    rw [← hN] at dk5 ek5
    have lD6 : D[k] < h5.n := by omega
    have lE6 : E[k] < h5.n := by omega
    have fin := G.tell hb hk hi kD kE
    have yv : Sim.one v = true := by
      obtain ⟨F, r, _⟩ := G.rd
      exact r.one
    have yc : v.cells = #[v] := by
      obtain ⟨F, r, _⟩ := G.rd
      exact r.cell1
    have iEk : iE ≠ D[k] := fun e => (m5.bD iE (.inr rfl)).2.1 (by rw [e]; exact List.getElem_mem kD)
    have mpD : mp ≠ D[k] := fun e => m5.mne.1 (by rw [e]; exact List.getElem_mem kD)
    have dE : E[k] ≠ D[k] := fun e => m5.de _ (List.getElem_mem kD) (by rw [← e]; exact List.getElem_mem kE)
    rw [← hN] at fin
    simp (maxSteps := 1000000) -implicitDefEqProofs only [push_cast, seval, pt5, rd_of pt5, rd1_of pt5, lt5, lD5, rD5, dk5, rd_of dk5, rd1_of dk5, lD6, bT_len]
    repeat (with_reducible refine And.intro ?_ ?_; · (first | omega | decide))
    have eS : h5.set D[k] (.cells ((bT N fun j => (T5 k j).isSome).set (i * 1) (.bool true)) .solo D[k]) = h5.set D[k] (.cells (bT N (fun j => (updT T5 k i v k j).isSome)) .solo D[k]) := by rw [Nat.mul_one, dT_set T5 k i v]
    rw [eS]
    have pt6 : (h5.set D[k] (.cells (bT N (fun j => (updT T5 k i v k j).isSome)) .solo D[k])).ob mp = _ := (set_ne _ mpD).trans pt5
    have rE6 : rd1 (h5.set D[k] (.cells (bT N (fun j => (updT T5 k i v k j).isSome)) .solo D[k])) iE (oE + k * 1) = some (.slice (some ⟨E[k], 0, none⟩) N 1) := by rw [rd1_eq, set_ne _ iEk, ← rd1_eq]; exact rE5
    have ek6 : (h5.set D[k] (.cells (bT N (fun j => (updT T5 k i v k j).isSome)) .solo D[k])).ob E[k] = _ := (set_ne _ dE).trans ek5
    have n6 : (h5.set D[k] (.cells (bT N (fun j => (updT T5 k i v k j).isSome)) .solo D[k])).n = h5.n := rfl
    generalize (h5.set D[k] (.cells (bT N (fun j => (updT T5 k i v k j).isSome)) .solo D[k])) = h6 at *
    have lt6 : mp < h6.n := by omega
    have lE7 : iE < h6.n := by omega
    have lE8 : E[k] < h6.n := by omega
    simp (maxSteps := 1000000) -implicitDefEqProofs only [push_cast, seval, pt6, rd_of pt6, rd1_of pt6, lt6, pt5, rd_of pt5, rd1_of pt5, lt5, lE5, rE5, lE7, rE6, ek6, rd_of ek6, rd1_of ek6, lE8, eT_len, yv, yc]
    repeat (with_reducible refine And.intro ?_ ?_; · (first | omega | decide))
    rw [Nat.mul_one, eT_set T5 k i v]
    exact fin
  by_cases h6 : X.op = 6
  · have k2 : X.kids.length = 2 := by rw [okids, kidsN, if_pos (by omega)]
    obtain ⟨k0, k1, hks⟩ : ∃ k0 k1, X.kids = [k0, k1] := len2 k2
    have hk0 : k0 < k := oahead k0 (by rw [hks]; simp)
    have hk1 : k1 < k := oahead k1 (by rw [hks]; simp)
    have f5 : decide ((X.op : Int) = 5) = false := decide_eq_false (by omega)
    have f6 : decide ((X.op : Int) = 6) = true := decide_eq_true (by omega)
    simp (maxSteps := 1000000) -implicitDefEqProofs only [push_cast, seval, f5, f6, eb, rd_of eb, rd1_of eb, lb, u]
    with_reducible refine CC.mono (both6 hx h6 k0 k1 hks (by omega) (by omega) ok (ih k0 hk0 (by omega)) (ih k1 hk1 (by omega)) hs T i mH hi) (fun v h5 hv => ?_)
    with_reducible refine Exists.elim hv (fun T5 hv => ?_)
    with_reducible refine Exists.elim hv (fun F hv => ?_)
    have G : Got h h5 b1 mp (.slice (some ⟨iP, oP, none⟩) L.length cP) (.slice (some ⟨iD, oD, none⟩) L.length cD) (.slice (some ⟨iE, oE, none⟩) L.length cE) L s D E T T5 v (Mt (L.map Prod.fst) s k i) := by
      obtain ⟨a1, a2, a3, a4, a5, a6, a7⟩ := hv
      subst a3
      refine ⟨a1, (Fe.ofPre pH (Nat.le_refl _)).trans a2 (by omega), ⟨F, rd_bT a4 a6, fun j hj => by rw [a7 j hj, hMt]⟩, fun c hc => ?_⟩
      have e : H.n + 1 = c := hc
      subst e
      exact ⟨by omega, .inl ⟨_, line_solo a4⟩⟩
    clear hv
    simp (maxSteps := 1000000) -implicitDefEqProofs only [push_cast, seval]
    have m5 := G.me
    have n5 := G.fe.n
    have pt5 := m5.pt
    have lt5 : mp < h5.n := by omega
    have zD := m5.rD.el (fun _ => rfl) kD
    have zE := m5.rE.el (fun _ => rfl) kE
    have qD5 : iD < h5.n ∧ rd1 h5 iD (oD + k * 1) = some (.slice (some ⟨D[k], 0, none⟩) N 1) := by
      obtain ⟨a, b, c, e, l, q⟩ := zD
      injection e with e _ _
      injection e with e
      injection e with e1 e2
      subst e1 e2
      rw [hN]
      exact ⟨l, rd_1 q⟩
    have qE5 : iE < h5.n ∧ rd1 h5 iE (oE + k * 1) = some (.slice (some ⟨E[k], 0, none⟩) N 1) := by
      obtain ⟨a, b, c, e, l, q⟩ := zE
      injection e with e _ _
      injection e with e
      injection e with e1 e2
      subst e1 e2
      rw [hN]
      exact ⟨l, rd_1 q⟩
    have lD5 := qD5.1
    have rD5 := qD5.2
    have lE5 := qE5.1
    have rE5 := qE5.2
    clear zD zE qD5 qE5
    have dk5 := m5.dk k kD
    have ek5 := m5.ek k kE
    rw [← hN] at dk5 ek5
    have lD6 : D[k] < h5.n := by omega
    have lE6 : E[k] < h5.n := by omega
    have fin := G.tell hb hk hi kD kE
    have yv : Sim.one v = true := by
      obtain ⟨F, r, _⟩ := G.rd
      exact r.one
    have yc : v.cells = #[v] := by
      obtain ⟨F, r, _⟩ := G.rd
      exact r.cell1
    have iEk : iE ≠ D[k] := fun e => (m5.bD iE (.inr rfl)).2.1 (by rw [e]; exact List.getElem_mem kD)
    have mpD : mp ≠ D[k] := fun e => m5.mne.1 (by rw [e]; exact List.getElem_mem kD)
    have dE : E[k] ≠ D[k] := fun e => m5.de _ (List.getElem_mem kD) (by rw [← e]; exact List.getElem_mem kE)
    rw [← hN] at fin
    simp (maxSteps := 1000000) -implicitDefEqProofs only [push_cast, seval, pt5, rd_of pt5, rd1_of pt5, lt5, lD5, rD5, dk5, rd_of dk5, rd1_of dk5, lD6, bT_len]
    repeat (with_reducible refine And.intro ?_ ?_; · (first | omega | decide))
    have eS : h5.set D[k] (.cells ((bT N fun j => (T5 k j).isSome).set (i * 1) (.bool true)) .solo D[k]) = h5.set D[k] (.cells (bT N (fun j => (updT T5 k i v k j).isSome)) .solo D[k]) := by rw [Nat.mul_one, dT_set T5 k i v]
    rw [eS]
    have pt6 : (h5.set D[k] (.cells (bT N (fun j => (updT T5 k i v k j).isSome)) .solo D[k])).ob mp = _ := (set_ne _ mpD).trans pt5
    have rE6 : rd1 (h5.set D[k] (.cells (bT N (fun j => (updT T5 k i v k j).isSome)) .solo D[k])) iE (oE + k * 1) = some (.slice (some ⟨E[k], 0, none⟩) N 1) := by rw [rd1_eq, set_ne _ iEk, ← rd1_eq]; exact rE5
    have ek6 : (h5.set D[k] (.cells (bT N (fun j => (updT T5 k i v k j).isSome)) .solo D[k])).ob E[k] = _ := (set_ne _ dE).trans ek5
    have n6 : (h5.set D[k] (.cells (bT N (fun j => (updT T5 k i v k j).isSome)) .solo D[k])).n = h5.n := rfl
    generalize (h5.set D[k] (.cells (bT N (fun j => (updT T5 k i v k j).isSome)) .solo D[k])) = h6 at *
    have lt6 : mp < h6.n := by omega
    have lE7 : iE < h6.n := by omega
    have lE8 : E[k] < h6.n := by omega
    simp (maxSteps := 1000000) -implicitDefEqProofs only [push_cast, seval, pt6, rd_of pt6, rd1_of pt6, lt6, pt5, rd_of pt5, rd1_of pt5, lt5, lE5, rE5, lE7, rE6, ek6, rd_of ek6, rd1_of ek6, lE8, eT_len, yv, yc]
    repeat (with_reducible refine And.intro ?_ ?_; · (first | omega | decide))
    rw [Nat.mul_one, eT_set T5 k i v]
    exact fin
  by_cases h8 : X.op = 8
  · have k2 : X.kids.length = 1 := by rw [okids, kidsN, if_neg (by omega), if_pos (by omega)]
    obtain ⟨k0, hks⟩ : ∃ k0, X.kids = [k0] := len1 k2
    have hk0 : k0 < k := oahead k0 (by rw [hks]; simp)
    have kd0 : kid X 0 = k0 := by simp [kid, hks]
    have f5 : decide ((X.op : Int) = 5) = false := decide_eq_false (by omega)
    have f6 : decide ((X.op : Int) = 6) = false := decide_eq_false (by omega)
    have f9 : decide ((X.op : Int) = 9) = false := decide_eq_false (by omega)
    have f7 : decide ((X.op : Int) = 7) = false := decide_eq_false (by omega)
    have f8 : decide ((X.op : Int) = 8) = true := decide_eq_true (by omega)
    have krH := kr.pre pH
    rw [hks] at krH
    obtain ⟨iK, oK, cK, eK, lK, qK⟩ := krH.el (fun _ => rfl) (show 0 < [k0].length by simp)
    have qK := rd_1 qK
    rw [Nat.zero_mul, Nat.add_zero] at qK
    have qK : rd1 H iK oK = some (.int .i64 (k0 : Nat)) := qK
    subst eK
    simp (maxSteps := 1000000) -implicitDefEqProofs only [push_cast, seval, f5, f6, f9, f7, f8, eb, rd_of eb, rd1_of eb, lb, u, lK, qK]
    repeat (with_reducible refine And.intro ?_ ?_; · (first | omega | decide))
    with_reducible refine CC.mono (again_s b1 mp _ _ _ L s D E k0 (by omega) ok (ih k0 hk0 (by omega)) hs H T i mH hi) (fun v h5 hv => ?_)
    with_reducible refine Exists.elim hv (fun T5 hv => ?_)
    with_reducible refine Exists.elim hv (fun F hv => ?_)
    have G : Got h h5 b1 mp (.slice (some ⟨iP, oP, none⟩) L.length cP) (.slice (some ⟨iD, oD, none⟩) L.length cD) (.slice (some ⟨iE, oE, none⟩) L.length cE) L s D E T T5 v (Mt (L.map Prod.fst) s k i) := by
      obtain ⟨a1, a2, a3, a4, a5, l5, a7⟩ := hv
      subst a3
      refine ⟨a1, (Fe.ofPre pH (Nat.le_refl _)).trans a2 (by omega), ⟨F, rd_bT a4 l5, fun j hj => by rw [a7 j hj, hMt, step8 h8, kd0]⟩, fun c hc => ?_⟩
      have e : H.n = c := hc
      subst e
      exact ⟨by omega, .inl ⟨_, line_solo a4⟩⟩
    clear hv
    simp (maxSteps := 1000000) -implicitDefEqProofs only [push_cast, seval]
    have m5 := G.me
    have n5 := G.fe.n
    have pt5 := m5.pt
    have lt5 : mp < h5.n := by omega
    have zD := m5.rD.el (fun _ => rfl) kD
    have zE := m5.rE.el (fun _ => rfl) kE
    have qD5 : iD < h5.n ∧ rd1 h5 iD (oD + k * 1) = some (.slice (some ⟨D[k], 0, none⟩) N 1) := by
      obtain ⟨a, b, c, e, l, q⟩ := zD
      injection e with e _ _
      injection e with e
      injection e with e1 e2
      subst e1 e2
      rw [hN]
      exact ⟨l, rd_1 q⟩
    have qE5 : iE < h5.n ∧ rd1 h5 iE (oE + k * 1) = some (.slice (some ⟨E[k], 0, none⟩) N 1) := by
      obtain ⟨a, b, c, e, l, q⟩ := zE
      injection e with e _ _
      injection e with e
      injection e with e1 e2
      subst e1 e2
      rw [hN]
      exact ⟨l, rd_1 q⟩
    have lD5 := qD5.1
    have rD5 := qD5.2
    have lE5 := qE5.1
    have rE5 := qE5.2
    clear zD zE qD5 qE5
    have dk5 := m5.dk k kD
    have ek5 := m5.ek k kE
    rw [← hN] at dk5 ek5
    have lD6 : D[k] < h5.n := by omega
    have lE6 : E[k] < h5.n := by omega
    have fin := G.tell hb hk hi kD kE
    have yv : Sim.one v = true := by
      obtain ⟨F, r, _⟩ := G.rd
      exact r.one
    have yc : v.cells = #[v] := by
      obtain ⟨F, r, _⟩ := G.rd
      exact r.cell1
    have iEk : iE ≠ D[k] := fun e => (m5.bD iE (.inr rfl)).2.1 (by rw [e]; exact List.getElem_mem kD)
    have mpD : mp ≠ D[k] := fun e => m5.mne.1 (by rw [e]; exact List.getElem_mem kD)
    have dE : E[k] ≠ D[k] := fun e => m5.de _ (List.getElem_mem kD) (by rw [← e]; exact List.getElem_mem kE)
    rw [← hN] at fin
    simp (maxSteps := 1000000) -implicitDefEqProofs only [push_cast, seval, pt5, rd_of pt5, rd1_of pt5, lt5, lD5, rD5, dk5, rd_of dk5, rd1_of dk5, lD6, bT_len]
    repeat (with_reducible refine And.intro ?_ ?_; · (first | omega | decide))
    have eS : h5.set D[k] (.cells ((bT N fun j => (T5 k j).isSome).set (i * 1) (.bool true)) .solo D[k]) = h5.set D[k] (.cells (bT N (fun j => (updT T5 k i v k j).isSome)) .solo D[k]) := by rw [Nat.mul_one, dT_set T5 k i v]
    rw [eS]
    have pt6 : (h5.set D[k] (.cells (bT N (fun j => (updT T5 k i v k j).isSome)) .solo D[k])).ob mp = _ := (set_ne _ mpD).trans pt5
    have rE6 : rd1 (h5.set D[k] (.cells (bT N (fun j => (updT T5 k i v k j).isSome)) .solo D[k])) iE (oE + k * 1) = some (.slice (some ⟨E[k], 0, none⟩) N 1) := by rw [rd1_eq, set_ne _ iEk, ← rd1_eq]; exact rE5
    have ek6 : (h5.set D[k] (.cells (bT N (fun j => (updT T5 k i v k j).isSome)) .solo D[k])).ob E[k] = _ := (set_ne _ dE).trans ek5
    have n6 : (h5.set D[k] (.cells (bT N (fun j => (updT T5 k i v k j).isSome)) .solo D[k])).n = h5.n := rfl
    generalize (h5.set D[k] (.cells (bT N (fun j => (updT T5 k i v k j).isSome)) .solo D[k])) = h6 at *
    have lt6 : mp < h6.n := by omega
    have lE7 : iE < h6.n := by omega
    have lE8 : E[k] < h6.n := by omega
    simp (maxSteps := 1000000) -implicitDefEqProofs only [push_cast, seval, pt6, rd_of pt6, rd1_of pt6, lt6, pt5, rd_of pt5, rd1_of pt5, lt5, lE5, rE5, lE7, rE6, ek6, rd_of ek6, rd1_of ek6, lE8, eT_len, yv, yc]
    repeat (with_reducible refine And.intro ?_ ?_; · (first | omega | decide))
    rw [Nat.mul_one, eT_set T5 k i v]
    exact fin
  by_cases h7 : X.op = 7
  · have k2 : X.kids.length = 1 := by rw [okids, kidsN, if_neg (by omega), if_pos (by omega)]
    obtain ⟨k0, hks⟩ : ∃ k0, X.kids = [k0] := len1 k2
    have hk0 : k0 < k := oahead k0 (by rw [hks]; simp)
    have kd0 : kid X 0 = k0 := by simp [kid, hks]
    have f5 : decide ((X.op : Int) = 5) = false := decide_eq_false (by omega)
    have f6 : decide ((X.op : Int) = 6) = false := decide_eq_false (by omega)
    have f9 : decide ((X.op : Int) = 9) = false := decide_eq_false (by omega)
    have f7 : decide ((X.op : Int) = 7) = true := decide_eq_true (by omega)
    have f8 : decide ((X.op : Int) = 8) = false := decide_eq_false (by omega)
    have krH := kr.pre pH
    rw [hks] at krH
    obtain ⟨iK, oK, cK, eK, lK, qK⟩ := krH.el (fun _ => rfl) (show 0 < [k0].length by simp)
    have qK := rd_1 qK
    rw [Nat.zero_mul, Nat.add_zero] at qK
    have qK : rd1 H iK oK = some (.int .i64 (k0 : Nat)) := qK
    subst eK
    simp (maxSteps := 1000000) -implicitDefEqProofs only [push_cast, seval, f5, f6, f9, f7, eb, rd_of eb, rd1_of eb, lb, u, lK, qK]
    repeat (with_reducible refine And.intro ?_ ?_; · (first | omega | decide))
    with_reducible refine CC.mono (again_s b1 mp _ _ _ L s D E k0 (by omega) ok (ih k0 hk0 (by omega)) hs H T i mH hi) (fun v h4 hv => ?_)
    with_reducible refine Exists.elim hv (fun T5 hv => ?_)
    with_reducible refine Exists.elim hv (fun F hv => ?_)
    have a1 := hv.1
    have a2 := hv.2.1
    have a3 := hv.2.2.1
    have a4 := hv.2.2.2.1
    have a5 := hv.2.2.2.2.1
    have l4 := hv.2.2.2.2.2.1
    have a7 := hv.2.2.2.2.2.2
    clear hv
    rw [← hN] at a3 a4
    subst a3
    simp (maxSteps := 1000000) -implicitDefEqProofs only [push_cast, seval, a4, rd_of a4, rd1_of a4, l4, bT_len]
    repeat (with_reducible refine And.intro ?_ ?_; · (first | omega | decide))
    have G : Got h (h4.set H.n (.cells ((bT N F).set (i * 1) (.bool true)) .solo H.n)) b1 mp (.slice (some ⟨iP, oP, none⟩) L.length cP) (.slice (some ⟨iD, oD, none⟩) L.length cD) (.slice (some ⟨iE, oE, none⟩) L.length cE) L s D E T T5 (.slice (some ⟨H.n, 0, none⟩) N 1) (Mt (L.map Prod.fst) s k i) := by
      rw [Nat.mul_one, bT_set]
      have e4 : (h4.set H.n (.cells (bT N (updB F i true)) .solo H.n)).ob H.n = .cells (bT (s.size + 1) (updB F i true)) .solo H.n := by rw [set_same, hN]
      refine ⟨a1.but (Nat.le_refl _) (fun y hy => set_ne _ (by omega)) (fun k' i' w b1' b2 b3 c hc => set_ne _ (fun e => a5 w ⟨k', i', b1', b2, b3⟩ (by rw [← e]; exact hc))), ⟨by have := a2.n; show h.n ≤ h4.n; omega, fun y hy x1 x2 => (set_ne _ (by omega)).trans ((a2.ob y (by omega) x1 x2).trans (pH.ob y hy)), fun k' i' w e => (a2.new k' i' w e).imp_right (fun q c hc => by have := q c hc; omega)⟩, ⟨updB F i true, by rw [← hN]; exact rd_bT (set_same _ _) l4, fun j hj => ?_⟩, fun c hc => ?_⟩
      · rw [hMt, step7 h7, kd0, Rt_plus]
        unfold updB
        by_cases e : j = i
        · subst e; simp
        · rw [if_neg e, a7 j hj]
          exact ⟨fun q => .inr q, fun q => q.elim (fun e2 => absurd e2.symm e) (fun q => q)⟩
      · have e : H.n = c := hc
        subst e
        exact ⟨by omega, .inl ⟨_, line_solo e4⟩⟩
    generalize (h4.set H.n (.cells ((bT N F).set (i * 1) (.bool true)) .solo H.n)) = h5 at *
    generalize hv : Value.slice (some ⟨H.n, 0, none⟩) N 1 = v at G
    simp (maxSteps := 1000000) -implicitDefEqProofs only [push_cast, seval]
    have m5 := G.me
    have n5 := G.fe.n
    have pt5 := m5.pt
    have lt5 : mp < h5.n := by omega
    have zD := m5.rD.el (fun _ => rfl) kD
    have zE := m5.rE.el (fun _ => rfl) kE
    have qD5 : iD < h5.n ∧ rd1 h5 iD (oD + k * 1) = some (.slice (some ⟨D[k], 0, none⟩) N 1) := by
      obtain ⟨a, b, c, e, l, q⟩ := zD
      injection e with e _ _
      injection e with e
      injection e with e1 e2
      subst e1 e2
      rw [hN]
      exact ⟨l, rd_1 q⟩
    have qE5 : iE < h5.n ∧ rd1 h5 iE (oE + k * 1) = some (.slice (some ⟨E[k], 0, none⟩) N 1) := by
      obtain ⟨a, b, c, e, l, q⟩ := zE
      injection e with e _ _
      injection e with e
      injection e with e1 e2
      subst e1 e2
      rw [hN]
      exact ⟨l, rd_1 q⟩
    have lD5 := qD5.1
    have rD5 := qD5.2
    have lE5 := qE5.1
    have rE5 := qE5.2
    clear zD zE qD5 qE5
    have dk5 := m5.dk k kD
    have ek5 := m5.ek k kE
    rw [← hN] at dk5 ek5
    have lD6 : D[k] < h5.n := by omega
    have lE6 : E[k] < h5.n := by omega
    have fin := G.tell hb hk hi kD kE
    have yv : Sim.one v = true := by
      obtain ⟨F, r, _⟩ := G.rd
      exact r.one
    have yc : v.cells = #[v] := by
      obtain ⟨F, r, _⟩ := G.rd
      exact r.cell1
    have iEk : iE ≠ D[k] := fun e => (m5.bD iE (.inr rfl)).2.1 (by rw [e]; exact List.getElem_mem kD)
    have mpD : mp ≠ D[k] := fun e => m5.mne.1 (by rw [e]; exact List.getElem_mem kD)
    have dE : E[k] ≠ D[k] := fun e => m5.de _ (List.getElem_mem kD) (by rw [← e]; exact List.getElem_mem kE)
    rw [← hN] at fin
    subst hv
    simp (maxSteps := 1000000) -implicitDefEqProofs only [push_cast, seval, pt5, rd_of pt5, rd1_of pt5, lt5, lD5, rD5, dk5, rd_of dk5, rd1_of dk5, lD6, bT_len]
    repeat (with_reducible refine And.intro ?_ ?_; · (first | omega | decide))
    have eS : h5.set D[k] (.cells ((bT N fun j => (T5 k j).isSome).set (i * 1) (.bool true)) .solo D[k]) = h5.set D[k] (.cells (bT N (fun j => (updT T5 k i (.slice (some ⟨H.n, 0, none⟩) N 1) k j).isSome)) .solo D[k]) := by rw [Nat.mul_one, dT_set T5 k i (.slice (some ⟨H.n, 0, none⟩) N 1)]
    rw [eS]
    have pt6 : (h5.set D[k] (.cells (bT N (fun j => (updT T5 k i (.slice (some ⟨H.n, 0, none⟩) N 1) k j).isSome)) .solo D[k])).ob mp = _ := (set_ne _ mpD).trans pt5
    have rE6 : rd1 (h5.set D[k] (.cells (bT N (fun j => (updT T5 k i (.slice (some ⟨H.n, 0, none⟩) N 1) k j).isSome)) .solo D[k])) iE (oE + k * 1) = some (.slice (some ⟨E[k], 0, none⟩) N 1) := by rw [rd1_eq, set_ne _ iEk, ← rd1_eq]; exact rE5
    have ek6 : (h5.set D[k] (.cells (bT N (fun j => (updT T5 k i (.slice (some ⟨H.n, 0, none⟩) N 1) k j).isSome)) .solo D[k])).ob E[k] = _ := (set_ne _ dE).trans ek5
    have n6 : (h5.set D[k] (.cells (bT N (fun j => (updT T5 k i (.slice (some ⟨H.n, 0, none⟩) N 1) k j).isSome)) .solo D[k])).n = h5.n := rfl
    generalize (h5.set D[k] (.cells (bT N (fun j => (updT T5 k i (.slice (some ⟨H.n, 0, none⟩) N 1) k j).isSome)) .solo D[k])) = h6 at *
    have lt6 : mp < h6.n := by omega
    have lE7 : iE < h6.n := by omega
    have lE8 : E[k] < h6.n := by omega
    simp (maxSteps := 1000000) -implicitDefEqProofs only [push_cast, seval, pt6, rd_of pt6, rd1_of pt6, lt6, pt5, rd_of pt5, rd1_of pt5, lt5, lE5, rE5, lE7, rE6, ek6, rd_of ek6, rd1_of ek6, lE8, eT_len, yv, yc]
    repeat (with_reducible refine And.intro ?_ ?_; · (first | omega | decide))
    rw [Nat.mul_one, eT_set T5 k i (.slice (some ⟨H.n, 0, none⟩) N 1)]
    exact fin
  by_cases h9 : X.op = 9
  · have k2 : X.kids.length = 1 := by rw [okids, kidsN, if_neg (by omega), if_pos (by omega)]
    obtain ⟨k0, hks⟩ : ∃ k0, X.kids = [k0] := len1 k2
    have hk0 : k0 < k := oahead k0 (by rw [hks]; simp)
    have kd0 : kid X 0 = k0 := by simp [kid, hks]
    have f5 : decide ((X.op : Int) = 5) = false := decide_eq_false (by omega)
    have f6 : decide ((X.op : Int) = 6) = false := decide_eq_false (by omega)
    have f9 : decide ((X.op : Int) = 9) = true := decide_eq_true (by omega)
    have f7 : decide ((X.op : Int) = 7) = false := decide_eq_false (by omega)
    have f8 : decide ((X.op : Int) = 8) = false := decide_eq_false (by omega)
    have krH := kr.pre pH
    rw [hks] at krH
    obtain ⟨iK, oK, cK, eK, lK, qK⟩ := krH.el (fun _ => rfl) (show 0 < [k0].length by simp)
    have qK := rd_1 qK
    rw [Nat.zero_mul, Nat.add_zero] at qK
    have qK : rd1 H iK oK = some (.int .i64 (k0 : Nat)) := qK
    subst eK
    have E0 := ih k0 hk0 (by omega)
    unfold AtOk at E0
    simp (maxSteps := 1000000) -implicitDefEqProofs only [push_cast, seval, f5, f6, f9, eb, rd_of eb, rd1_of eb, lb, u, lK, qK]
    repeat (with_reducible refine And.intro ?_ ?_; · (first | omega | decide))
    with_reducible refine CC.mono (CC.wf (E0 H T i mH hi)) (fun va h2 hv => ?_)
    have wf2 := hv.2
    have hv := hv.1
    with_reducible refine Exists.elim hv (fun T5 hv => ?_)
    have m2 := hv.1
    have fe2 := hv.2.1
    have tv := hv.2.2
    clear hv
    have told := m2.told k0 i va (by omega) hi tv
    have n2 := fe2.n
    have el2 : h2.ob (h.n + 1) = .cells [] .solo (h.n + 1) := (fe2.ob _ (by omega) (nDE _ (by omega)).1 (nDE _ (by omega)).2).trans el
    have fr2 : FrT L s T5 (h.n + 1) := fe2.fr (by omega) (m.frN (by omega))
    have cu2 : Cu h2 (h.n + 1) 0 0 (h.n + 1) [] := ⟨by omega, rfl, [], .solo, el2, .inl rfl, by simp, rfl⟩
    have to2 := m2.to wf2.fit cu2.line fr2
    have ha := told.1.asrc
    rw [bT_bL, bL_len, ← hN] at ha
    have hA := fun q => mB_iff (L := L.map Prod.fst) (s := s) (k := k0) (i := i) (j := q)
    generalize mB (L.map Prod.fst) s k0 i = A at *
    refine app_cut si152 (by decide) (notInt_sl und152) cu2 ha (bT_len _ _) (by omega) (fun h3 cu3 n3 f3 => ?_)
    rw [Nat.zero_add, List.nil_append] at cu3
    have l3 := cu3.lt
    simp (maxSteps := 1000000) -implicitDefEqProofs only [push_cast, seval, l3, Nat.zero_add]
    repeat (with_reducible refine And.intro ?_ ?_; · (first | omega | decide))
    rw [show i * 1 = 0 + i by omega]
    refine cu3.wr (by omega) (fun h5 cu5 n5' f5' => ?_)
    have own2 : ∀ y, y < h.n → (h2.ob y).own ≠ some (h.n + 1) := fun y hy e => by
      by_cases c1 : y ∈ D
      · obtain ⟨q, hq, e1⟩ := List.getElem_of_mem c1
        have := m2.dk q hq
        rw [← e1, this] at e
        simp only [AOb.own, Option.some.injEq] at e
        omega
      by_cases c2 : y ∈ E
      · obtain ⟨q, hq, e1⟩ := List.getElem_of_mem c2
        have := m2.ek q hq
        rw [← e1, this] at e
        simp only [AOb.own, Option.some.injEq] at e
        omega
      · rw [fe2.ob y (by omega) c1 c2, pH.ob y hy] at e
        have := lin y _ e
        omega
    have fr5 : ∀ y, y < h2.n → (h2.ob y).own ≠ some (h.n + 1) → h5.ob y = h2.ob y := fun y hy ho => by
      have e3 := f3 y hy ho
      exact (f5' y (by omega) (by rw [e3]; exact ho)).trans e3
    have G : Got h h5 b1 mp (.slice (some ⟨iP, oP, none⟩) L.length cP) (.slice (some ⟨iD, oD, none⟩) L.length cD) (.slice (some ⟨iE, oE, none⟩) L.length cE) L s D E T T5 (.slice (some ⟨h2.n, 0, none⟩) N 1) (Mt (L.map Prod.fst) s k i) := by
      rw [bT_set] at cu5
      refine ⟨m2.but (by omega) (fun y hy => fr5 y (by omega) (own2 y (by omega))) (fun k' i' w b1' b2 b3 c hc => fr5 c (m2.lts ⟨k', i', b1', b2, b3⟩ hc).1 (to2 w ⟨k', i', b1', b2, b3⟩ c hc)), ⟨by omega, fun y hy x1 x2 => (fr5 y (by omega) (own2 y hy)).trans ((fe2.ob y (by omega) x1 x2).trans (pH.ob y hy)), fun k' i' w e => (fe2.new k' i' w e).imp_right (fun q c hc => by have := q c hc; omega)⟩, ⟨updB A i true, ?_, fun j hj => ?_⟩, fun c hc => ?_⟩
      · rw [← hN]
        refine .inr ⟨h2.n, 0, 1, by rw [bL_len], ?_, cu5.lt⟩
        rw [bL_len, Nat.mul_one, bT_bL]
        exact cu5.rd
      · rw [hMt, step9 h9, kd0]
        unfold updB
        by_cases e : j = i
        · subst e; simp
        · rw [if_neg e, hA j]
          exact ⟨fun q => .inr q, fun q => q.elim (fun e2 => absurd e2 e) (fun q => q)⟩
      · have e : h2.n = c := hc
        subst e
        exact ⟨by omega, .inl ⟨_, cu5.line⟩⟩
    simp (maxSteps := 1000000) -implicitDefEqProofs only [push_cast, seval]
    have m5 := G.me
    have n5 := G.fe.n
    have pt5 := m5.pt
    have lt5 : mp < h5.n := by omega
    have zD := m5.rD.el (fun _ => rfl) kD
    have zE := m5.rE.el (fun _ => rfl) kE
    have qD5 : iD < h5.n ∧ rd1 h5 iD (oD + k * 1) = some (.slice (some ⟨D[k], 0, none⟩) N 1) := by
      obtain ⟨a, b, c, e, l, q⟩ := zD
      injection e with e _ _
      injection e with e
      injection e with e1 e2
      subst e1 e2
      rw [hN]
      exact ⟨l, rd_1 q⟩
    have qE5 : iE < h5.n ∧ rd1 h5 iE (oE + k * 1) = some (.slice (some ⟨E[k], 0, none⟩) N 1) := by
      obtain ⟨a, b, c, e, l, q⟩ := zE
      injection e with e _ _
      injection e with e
      injection e with e1 e2
      subst e1 e2
      rw [hN]
      exact ⟨l, rd_1 q⟩
    have lD5 := qD5.1
    have rD5 := qD5.2
    have lE5 := qE5.1
    have rE5 := qE5.2
    clear zD zE qD5 qE5
    have dk5 := m5.dk k kD
    have ek5 := m5.ek k kE
    rw [← hN] at dk5 ek5
    have lD6 : D[k] < h5.n := by omega
    have lE6 : E[k] < h5.n := by omega
    have fin := G.tell hb hk hi kD kE
    have yv : Sim.one (.slice (some ⟨h2.n, 0, none⟩) N 1) = true := by
      obtain ⟨F, r, _⟩ := G.rd
      exact r.one
    have yc : (Value.slice (some ⟨h2.n, 0, none⟩) N 1).cells = #[.slice (some ⟨h2.n, 0, none⟩) N 1] := by
      obtain ⟨F, r, _⟩ := G.rd
      exact r.cell1
    have iEk : iE ≠ D[k] := fun e => (m5.bD iE (.inr rfl)).2.1 (by rw [e]; exact List.getElem_mem kD)
    have mpD : mp ≠ D[k] := fun e => m5.mne.1 (by rw [e]; exact List.getElem_mem kD)
    have dE : E[k] ≠ D[k] := fun e => m5.de _ (List.getElem_mem kD) (by rw [← e]; exact List.getElem_mem kE)
    rw [← hN] at fin
    simp (maxSteps := 1000000) -implicitDefEqProofs only [push_cast, seval, pt5, rd_of pt5, rd1_of pt5, lt5, lD5, rD5, dk5, rd_of dk5, rd1_of dk5, lD6, bT_len]
    repeat (with_reducible refine And.intro ?_ ?_; · (first | omega | decide))
    have eS : h5.set D[k] (.cells ((bT N fun j => (T5 k j).isSome).set (i * 1) (.bool true)) .solo D[k]) = h5.set D[k] (.cells (bT N (fun j => (updT T5 k i (.slice (some ⟨h2.n, 0, none⟩) N 1) k j).isSome)) .solo D[k]) := by rw [Nat.mul_one, dT_set T5 k i (.slice (some ⟨h2.n, 0, none⟩) N 1)]
    rw [eS]
    have pt6 : (h5.set D[k] (.cells (bT N (fun j => (updT T5 k i (.slice (some ⟨h2.n, 0, none⟩) N 1) k j).isSome)) .solo D[k])).ob mp = _ := (set_ne _ mpD).trans pt5
    have rE6 : rd1 (h5.set D[k] (.cells (bT N (fun j => (updT T5 k i (.slice (some ⟨h2.n, 0, none⟩) N 1) k j).isSome)) .solo D[k])) iE (oE + k * 1) = some (.slice (some ⟨E[k], 0, none⟩) N 1) := by rw [rd1_eq, set_ne _ iEk, ← rd1_eq]; exact rE5
    have ek6 : (h5.set D[k] (.cells (bT N (fun j => (updT T5 k i (.slice (some ⟨h2.n, 0, none⟩) N 1) k j).isSome)) .solo D[k])).ob E[k] = _ := (set_ne _ dE).trans ek5
    have n6 : (h5.set D[k] (.cells (bT N (fun j => (updT T5 k i (.slice (some ⟨h2.n, 0, none⟩) N 1) k j).isSome)) .solo D[k])).n = h5.n := rfl
    generalize (h5.set D[k] (.cells (bT N (fun j => (updT T5 k i (.slice (some ⟨h2.n, 0, none⟩) N 1) k j).isSome)) .solo D[k])) = h6 at *
    have lt6 : mp < h6.n := by omega
    have lE7 : iE < h6.n := by omega
    have lE8 : E[k] < h6.n := by omega
    simp (maxSteps := 1000000) -implicitDefEqProofs only [push_cast, seval, pt6, rd_of pt6, rd1_of pt6, lt6, pt5, rd_of pt5, rd1_of pt5, lt5, lE5, rE5, lE7, rE6, ek6, rd_of ek6, rd1_of ek6, lE8, eT_len, yv, yc]
    repeat (with_reducible refine And.intro ?_ ?_; · (first | omega | decide))
    rw [Nat.mul_one, eT_set T5 k i (.slice (some ⟨h2.n, 0, none⟩) N 1)]
    exact fin
  exfalso
  omega
end Go.Proofs.Ytciajhpeikemoaa
namespace Go.Proofs.Ytciajhpeikemoaa
open Go Go.Sim Go.Proofs
set_option linter.unusedSimpArgs false
set_option linter.unusedVariables false
set_option maxRecDepth 100000
set_option maxHeartbeats 1000000
/-- A matcher that is being made. -/
structure NwJ (h h' : AH) (vP vD vE : Value) (s : ByteArray) (N : Nat) (D E : List Nat) : Prop where
  p : Pre h h'
  bx : h'.ob h.n = .cells [vP] .solo h.n
  pt : h'.ob (h.n + 1) = .cells [vP, .string s, vD, vE] .solo (h.n + 1)
  n2 : h.n + 2 ≤ h'.n
  gD : Gr (h.n + 2) h' vD 1 (D.map (encSl s)).flatten
  gE : Gr (h.n + 2) h' vE 1 (E.map (encSl s)).flatten
  bD : ∀ i, atBlock vD i → i ∉ D ∧ i ∉ E ∧ ¬ atBlock vE i
  bE : ∀ i, atBlock vE i → i ∉ D ∧ i ∉ E
  nd : D.Nodup
  ne : E.Nodup
  de : ∀ x ∈ D, x ∉ E
  lt : ∀ x, x ∈ D ∨ x ∈ E → h.n + 2 ≤ x ∧ x < h'.n
  dk : ∀ k (hk : k < D.length), h'.ob D[k] = .cells (bT N (fun _ => false)) .solo D[k]
  ek : ∀ k (hk : k < E.length), h'.ob E[k] = .cells (eT N (fun _ => none)) .solo E[k]
theorem nodup_snoc {l : List Nat} {a : Nat} (h : l.Nodup) (ha : a ∉ l) : (l ++ [a]).Nodup := by
  rw [List.nodup_append]
  exact ⟨h, by simp, fun x hx y hy e => by rw [List.mem_singleton] at hy; subst hy; subst e; exact ha hx⟩
theorem snoc_get {l : List Nat} {a k : Nat} (hk : k < (l ++ [a]).length) : (k < l.length ∧ ∃ h : k < l.length, (l ++ [a])[k] = l[k]) ∨ (k = l.length ∧ (l ++ [a])[k] = a) := by
  by_cases c : k < l.length
  · exact .inl ⟨c, c, List.getElem_append_left c⟩
  · rw [List.length_append, List.length_singleton] at hk
    have : k = l.length := by omega
    subst this
    exact .inr ⟨rfl, by simp⟩
theorem NwJ.addD {h h1 h3 : AH} {vP vD vE v' : Value} {s : ByteArray} {N : Nat} {D E : List Nat} (J : NwJ h h1 vP vD vE s N D E) (gr : Gr (h.n + 2) h3 v' 1 ((D ++ [h1.n]).map (encSl s)).flatten) (n3 : h3.n = h1.n + 3) (e1 : h3.ob h1.n = .cells (bT N (fun _ => false)) .solo h1.n)
    (he : ∀ i, i < h1.n → ¬ atBlock vD i → h3.ob i = h1.ob i) (hv : ∀ i, atBlock v' i → i = h1.n + 2) : NwJ h (h3.set (h.n + 1) (.cells [vP, .string s, v', vE] .solo (h.n + 1))) vP v' vE s N (D ++ [h1.n]) E := by
  have n2 := J.n2
  have rD : ∀ i, atBlock vD i → h.n + 2 ≤ i ∧ i < h1.n := fun i e => J.gD.range e
  have rE : ∀ i, atBlock vE i → h.n + 2 ≤ i ∧ i < h1.n := fun i e => J.gE.range e
  have q : ∀ i, i < h1.n → i ≠ h.n + 1 → ¬ atBlock vD i → (h3.set (h.n + 1) (.cells [vP, .string s, v', vE] .solo (h.n + 1))).ob i = h1.ob i := fun i a b c => (set_ne _ b).trans (he i a c)
  have low : ∀ i, i < h.n + 2 → ¬ atBlock vD i := fun i hi e => by have := rD i e; omega
  refine ⟨⟨by have := J.p.n; show h.n ≤ h3.n; omega, fun i hi => (q i (by have := J.p.n; omega) (by omega) (low i (by omega))).trans (J.p.ob i hi)⟩, (q _ (by omega) (by omega) (low _ (by omega))).trans J.bx, set_same _ _, by show _ ≤ h3.n; omega, gr.keep (Nat.le_refl _) (fun i e => set_ne _ (by have := hv i e; omega)), J.gE.keep (by show h1.n ≤ h3.n; omega) (fun i e => q i (rE i e).2 (by have := rE i e; omega) (fun e2 => (J.bD i e2).2.2 e)), fun i e => ?_, fun i e => ?_, nodup_snoc J.nd (fun e => by have := J.lt _ (.inl e); omega), J.ne, fun x hx => ?_, fun x hx => ?_, fun k hk => ?_, fun k hk => ?_⟩
  · have := hv i e
    subst this
    refine ⟨fun e2 => ?_, fun e2 => by have := J.lt _ (.inr e2); omega, fun e2 => by have := rE _ e2; omega⟩
    rcases List.mem_append.1 e2 with e2 | e2
    · have := J.lt _ (.inl e2); omega
    · rw [List.mem_singleton] at e2; omega
  · refine ⟨fun e2 => ?_, (J.bE i e).2⟩
    rcases List.mem_append.1 e2 with e2 | e2
    · exact (J.bE i e).1 e2
    · rw [List.mem_singleton] at e2; have := rE i e; omega
  · rcases List.mem_append.1 hx with h1' | h1'
    · exact J.de x h1'
    · rw [List.mem_singleton] at h1'; subst h1'; exact fun e => by have := J.lt _ (.inr e); omega
  · show _ ∧ x < h3.n
    rcases hx with hx | hx
    · rcases List.mem_append.1 hx with h1' | h1'
      · have := J.lt x (.inl h1'); omega
      · rw [List.mem_singleton] at h1'; omega
    · have := J.lt x (.inr hx); omega
  · rcases snoc_get hk with ⟨a, b, e⟩ | ⟨a, e⟩
    · rw [e]
      have hm := List.getElem_mem b
      have := J.lt _ (.inl hm)
      exact (q _ (by omega) (by omega) (fun e2 => (J.bD _ e2).1 hm)).trans (J.dk k b)
    · rw [e]; exact (set_ne _ (by omega)).trans e1
  · have hm := List.getElem_mem hk
    have := J.lt _ (.inr hm)
    exact (q _ (by omega) (by omega) (fun e2 => (J.bD _ e2).2.1 hm)).trans (J.ek k hk)
theorem NwJ.addE {h h1 h3 : AH} {vP vD vE v' : Value} {s : ByteArray} {N : Nat} {D E : List Nat} (J : NwJ h h1 vP vD vE s N D E) (gr : Gr (h.n + 2) h3 v' 1 ((E ++ [h1.n]).map (encSl s)).flatten) (n3 : h3.n = h1.n + 3) (e1 : h3.ob h1.n = .cells (eT N (fun _ => none)) .solo h1.n)
    (he : ∀ i, i < h1.n → ¬ atBlock vE i → h3.ob i = h1.ob i) (hv : ∀ i, atBlock v' i → i = h1.n + 2) : NwJ h (h3.set (h.n + 1) (.cells [vP, .string s, vD, v'] .solo (h.n + 1))) vP vD v' s N D (E ++ [h1.n]) := by
  have n2 := J.n2
  have rD : ∀ i, atBlock vD i → h.n + 2 ≤ i ∧ i < h1.n := fun i e => J.gD.range e
  have rE : ∀ i, atBlock vE i → h.n + 2 ≤ i ∧ i < h1.n := fun i e => J.gE.range e
  have q : ∀ i, i < h1.n → i ≠ h.n + 1 → ¬ atBlock vE i → (h3.set (h.n + 1) (.cells [vP, .string s, vD, v'] .solo (h.n + 1))).ob i = h1.ob i := fun i a b c => (set_ne _ b).trans (he i a c)
  have low : ∀ i, i < h.n + 2 → ¬ atBlock vE i := fun i hi e => by have := rE i e; omega
  refine ⟨⟨by have := J.p.n; show h.n ≤ h3.n; omega, fun i hi => (q i (by have := J.p.n; omega) (by omega) (low i (by omega))).trans (J.p.ob i hi)⟩, (q _ (by omega) (by omega) (low _ (by omega))).trans J.bx, set_same _ _, by show _ ≤ h3.n; omega, J.gD.keep (by show h1.n ≤ h3.n; omega) (fun i e => q i (rD i e).2 (by have := rD i e; omega) (J.bD i e).2.2), gr.keep (Nat.le_refl _) (fun i e => set_ne _ (by have := hv i e; omega)), fun i e => ?_, fun i e => ?_, J.nd, nodup_snoc J.ne (fun e => by have := J.lt _ (.inr e); omega), fun x hx e2 => ?_, fun x hx => ?_, fun k hk => ?_, fun k hk => ?_⟩
  · refine ⟨(J.bD i e).1, fun e2 => ?_, fun e2 => by have := hv i e2; have := rD i e; omega⟩
    rcases List.mem_append.1 e2 with e2 | e2
    · exact (J.bD i e).2.1 e2
    · rw [List.mem_singleton] at e2; have := rD i e; omega
  · have := hv i e
    subst this
    refine ⟨fun e2 => by have := J.lt _ (.inl e2); omega, fun e2 => ?_⟩
    rcases List.mem_append.1 e2 with e2 | e2
    · have := J.lt _ (.inr e2); omega
    · rw [List.mem_singleton] at e2; omega
  · rcases List.mem_append.1 e2 with h1' | h1'
    · exact J.de x hx h1'
    · rw [List.mem_singleton] at h1'; subst h1'; have := J.lt _ (.inl hx); omega
  · show _ ∧ x < h3.n
    rcases hx with hx | hx
    · have := J.lt x (.inl hx); omega
    · rcases List.mem_append.1 hx with h1' | h1'
      · have := J.lt x (.inr h1'); omega
      · rw [List.mem_singleton] at h1'; omega
  · have hm := List.getElem_mem hk
    have := J.lt _ (.inl hm)
    exact (q _ (by omega) (by omega) (fun e2 => (J.bE _ e2).1 hm)).trans (J.dk k hk)
  · rcases snoc_get hk with ⟨a, b, e⟩ | ⟨a, e⟩
    · rw [e]
      have hm := List.getElem_mem b
      have := J.lt _ (.inr hm)
      exact (q _ (by omega) (by omega) (fun e2 => (J.bE _ e2).2 hm)).trans (J.ek k b)
    · rw [e]; exact (set_ne _ (by omega)).trans e1
theorem eT_zero (n : Nat) : eT n (fun _ => none) = List.replicate (n * 1) nilS := by
  apply List.ext_getElem?
  intro i
  rw [Nat.mul_one]
  by_cases h : i < n
  · rw [eT_get _ h, List.getElem?_replicate, if_pos h]; rfl
  · rw [List.getElem?_eq_none (by rw [eT_len]; omega), List.getElem?_eq_none (by simp; omega)]
theorem l04New_c (vP : Value) (L : List (Pc × Value)) (s : ByteArray) (h : AH) (w : RdPat h vP L) (hL : L.length ≤ 1000) (hs : s.size ≤ 100000) :
    CC Try.prog 95 [.agg #[vP], .string s] h (fun v h' => ∃ b1 mp vD vE D E, v = .pointer (some ⟨mp, 0, none⟩) ∧ Me h' b1 mp vP vD vE L s D E (fun _ _ => none) ∧ Pre h h' ∧ h.n ≤ mp ∧ (∀ x, x ∈ D ∨ x ∈ E → h.n ≤ x)) := by
  have u := w.r.one
  have y := w.r.cell1
  obtain ⟨A, c, rfl, hPR⟩ := w.r.rde (fun _ => rfl)
  obtain ⟨N, hN⟩ : ∃ N, N = s.size + 1 := ⟨_, rfl⟩
  have w1 : IntKind.i64.wrap ((s.size : Int) + 1) = (N : Int) := by rw [hN]; exact wrapSucc (by omega)
  refine CC.ofN Try.func95 Try.ntmps95 Try.results95 rfl (by decide) (by kernel_rfl) ?_
  simp (maxSteps := 1000000) -implicitDefEqProofs only [push_cast, seval, u, y]
  generalize hH : (h.alloc (.cells [.slice A L.length c] .solo h.n)).alloc (.cells [.slice A L.length c, .string s, .slice none 0 0, .slice none 0 0] .solo (h.n + 1)) = H
  have nH : H.n = h.n + 2 := by rw [← hH]; rfl
  have j0 : NwJ h H (.slice A L.length c) (.slice none 0 0) (.slice none 0 0) s N [] [] := by
    refine ⟨by rw [← hH]; exact ((Pre.refl h).alloc _).alloc _, ?_, ?_, by omega, .inl ⟨0, rfl, rfl⟩, .inl ⟨0, rfl, rfl⟩, fun i e => e.elim, fun i e => e.elim, .nil, .nil, (fun x hx => by cases hx), (fun x hx => by rcases hx with hx | hx <;> cases hx), (fun k hk => by cases hk), (fun k hk => by cases hk)⟩
    · rw [← hH, alloc_lt _ (show h.n < h.n + 1 by omega)]; exact alloc_same _
    · rw [← hH]; exact alloc_same (h := h.alloc _) _
  clear hH
  refine WC.loopA (by kernel_rfl) [6] [11, 12, 13, 14, 15, 16, 17, 18, 19, 20, 21, 22, 23, 24, 25, 26, 27, 28, 29, 30, 31, 32, 33, 34, 35, 36, 37, 38, 39, 40, 41, 42, 43] (fun i : Nat => [.int .i64 (i : Nat)]) (fun i h' => i ≤ L.length ∧ ∃ vD vE D E, (D.length = i ∧ E.length = i) ∧ NwJ h h' (.slice A L.length c) vD vE s N D E) (fun i => L.length - i) 0 (by kernel_rfl) ⟨Nat.zero_le _, _, _, _, _, ⟨rfl, rfl⟩, j0⟩ ?_
  intro i g h1 hJ
  have hi := hJ.1
  have hx := hJ.2
  clear hJ j0
  with_reducible refine Exists.elim hx (fun vD hx => ?_)
  with_reducible refine Exists.elim hx (fun vE hx => ?_)
  with_reducible refine Exists.elim hx (fun D hx => ?_)
  with_reducible refine Exists.elim hx (fun E hx => ?_)
  have lD := hx.1
  have J := hx.2
  clear hx
  have bx := J.bx
  have pt := J.pt
  have n2 := J.n2
  have l0 : h.n < h1.n := by omega
  have l1 : h.n + 1 < h1.n := by omega
  simp (maxSteps := 1000000) -implicitDefEqProofs only [push_cast, seval, bx, rd_of bx, rd1_of bx, l0, u, y]
  with_reducible refine bcase_d (fun hb => ?_) (fun hb => ?_)
  · have hi' : i < L.length := by omega
    have uD := J.gD
    have vDone : Sim.one vD = true := by
      rcases J.gD with ⟨c, rfl, _⟩ | ⟨id, off, n, rfl, _⟩ <;> rfl
    simp (maxSteps := 1000000) -implicitDefEqProofs only [push_cast, seval, bx, rd_of bx, rd1_of bx, l0, u, y]
    refine WC.drawR (by kernel_rfl) (by kernel_rfl) (.q 0 (.q 1 (.q 2 (.q 3 (.q 4 (.q 5 (.q 6 (.q 7 (.a 8 false (.a 9 false (.a 10 false (.q 11 (.q 12 (.a 13 true (.done))))))))))))))) (by kernel_rfl) ?_
    simp (maxSteps := 1000000) -implicitDefEqProofs only [push_cast, seval, pt, rd_of pt, rd1_of pt, l1, w1, vDone]
    repeat (with_reducible refine And.intro ?_ ?_; · (first | omega | decide))
    have pa : Pre h1 (h1.alloc (.cells (List.replicate (N * 1) (.bool false)) .solo h1.n)) := (Pre.refl h1).alloc _
    have ea : (h1.alloc (.cells (List.replicate (N * 1) (.bool false)) .solo h1.n)).ob h1.n = .cells (bT N (fun _ => false)) .solo h1.n := by rw [alloc_same, bT_zero]
    have na : (h1.alloc (.cells (List.replicate (N * 1) (.bool false)) .solo h1.n)).n = h1.n + 1 := rfl
    generalize (h1.alloc (.cells (List.replicate (N * 1) (.bool false)) .solo h1.n)) = ha at *
    rw [← na]
    have fl : ((D.map (encSl s)).flatten).length = D.length * 1 := flat_len (k := 1) _ (fun _ => rfl)
    refine Gr.app1 (h0 := ⟨h.n + 2, ha.ob⟩) si199 (by decide) (by decide) (notInt_sl und199) (J.gD.pre pa) ⟨by show h.n + 2 ≤ ha.n; omega, fun _ _ => rfl⟩ rfl (by rw [fl]; omega) (by decide) (fun h3 gr ow p' n3 he => ?_)
    have J3 := J.addD (v' := .slice (some ⟨ha.n + 1, 0, none⟩) (((D.map (encSl s)).flatten).length / 1 + 1) 1) (h3 := h3) (by rw [flat_snoc, encSl, ← hN]; exact gr) (by omega) ((he _ (by omega) (fun e => by have := J.gD.range e; omega)).trans ea) (fun i hi a => (he i (by omega) a).trans (pa.ob i hi)) (fun i e => by have e : ha.n + 1 = i := e; omega)
    have pt3 : h3.ob (h.n + 1) = .cells [.slice A L.length c, .string s, vD, vE] .solo (h.n + 1) := (he _ (by omega) (fun e => by have := J.gD.range e; omega)).trans ((pa.ob _ (by omega)).trans pt)
    have l3 : h.n + 1 < h3.n := by omega
    generalize hv' : Value.slice (some ⟨ha.n + 1, 0, none⟩) (((D.map (encSl s)).flatten).length / 1 + 1) 1 = v' at *
    have y' : Sim.one v' = true := by rw [← hv']; rfl
    have yc' : v'.cells = #[v'] := by rw [← hv']; rfl
    simp (maxSteps := 1000000) -implicitDefEqProofs only [push_cast, seval, pt3, rd_of pt3, rd1_of pt3, l3, y', yc']
    have n4 : (h3.set (h.n + 1) (.cells [.slice A L.length c, .string s, v', vE] .solo (h.n + 1))).n = h3.n := rfl
    generalize (h3.set (h.n + 1) (.cells [.slice A L.length c, .string s, v', vE] .solo (h.n + 1))) = h4 at *
    refine And.intro ((alloc_lt _ (by omega)).trans ((pa.ob _ (by omega)).trans pt)).symm ?_
    clear pa ea he gr ow p' pt3 bx pt
    have pt := J3.pt
    have m2 := J3.n2
    have l4 : h.n + 1 < h4.n := by omega
    have vEone : Sim.one vE = true := by
      rcases J3.gE with ⟨c, rfl, _⟩ | ⟨id, off, n, rfl, _⟩ <;> rfl
    have flE : ((E.map (encSl s)).flatten).length = E.length * 1 := flat_len (k := 1) _ (fun _ => rfl)
    refine WC.drawR (by kernel_rfl) (by kernel_rfl) (.q 0 (.q 1 (.q 2 (.q 3 (.q 4 (.q 5 (.q 6 (.q 7 (.a 8 false (.a 9 false (.a 10 false (.q 11 (.q 12 (.a 13 true (.done))))))))))))))) (by kernel_rfl) ?_
    simp (maxSteps := 1000000) -implicitDefEqProofs only [push_cast, seval, pt, rd_of pt, rd1_of pt, l4, w1, vEone]
    repeat (with_reducible refine And.intro ?_ ?_; · (first | omega | decide))
    have pa : Pre h4 (h4.alloc (.cells (List.replicate (N * 1) (.slice none 0 0)) .solo h4.n)) := (Pre.refl h4).alloc _
    have ea : (h4.alloc (.cells (List.replicate (N * 1) (.slice none 0 0)) .solo h4.n)).ob h4.n = .cells (eT N (fun _ => none)) .solo h4.n := by rw [alloc_same, eT_zero]; rfl
    have nb : (h4.alloc (.cells (List.replicate (N * 1) (.slice none 0 0)) .solo h4.n)).n = h4.n + 1 := rfl
    generalize (h4.alloc (.cells (List.replicate (N * 1) (.slice none 0 0)) .solo h4.n)) = hb4 at *
    rw [← nb]
    refine Gr.app1 (h0 := ⟨h.n + 2, hb4.ob⟩) si200 (by decide) (by decide) (notInt_sl und200) (J3.gE.pre pa) ⟨by show h.n + 2 ≤ hb4.n; omega, fun _ _ => rfl⟩ rfl (by rw [flE]; omega) (by decide) (fun h6 gr ow p' n6 he => ?_)
    have J6 := J3.addE (v' := .slice (some ⟨hb4.n + 1, 0, none⟩) (((E.map (encSl s)).flatten).length / 1 + 1) 1) (h3 := h6) (by rw [flat_snoc, encSl, ← hN]; exact gr) (by omega) ((he _ (by omega) (fun e => by have := J3.gE.range e; omega)).trans ea) (fun i hi a => (he i (by omega) a).trans (pa.ob i hi)) (fun i e => by have e : hb4.n + 1 = i := e; omega)
    have pt6 : h6.ob (h.n + 1) = .cells [.slice A L.length c, .string s, v', vE] .solo (h.n + 1) := (he _ (by omega) (fun e => by have := J3.gE.range e; omega)).trans ((pa.ob _ (by omega)).trans pt)
    have l6 : h.n + 1 < h6.n := by omega
    generalize hw' : Value.slice (some ⟨hb4.n + 1, 0, none⟩) (((E.map (encSl s)).flatten).length / 1 + 1) 1 = w' at *
    have z' : Sim.one w' = true := by rw [← hw']; rfl
    have zc' : w'.cells = #[w'] := by rw [← hw']; rfl
    simp (maxSteps := 1000000) -implicitDefEqProofs only [push_cast, seval, pt6, rd_of pt6, rd1_of pt6, l6, z', zc', y']
    refine And.intro ((alloc_lt _ (by omega)).trans ((pa.ob _ (by omega)).trans pt)).symm ?_
    rw [wrapSucc (by omega)]
    exact ⟨i + 1, by kernel_rfl, ⟨by omega, _, _, _, _, ⟨by simp [lD.1], by simp [lD.2]⟩, J6⟩, by omega⟩
  · have ei : i = L.length := by omega
    simp (maxSteps := 1000000) -implicitDefEqProofs only [push_cast, seval]
    have b1 := J.p.n
    have wP := w.pre J.p
    refine ⟨h1.n, h.n + 1, vD, vE, D, E, rfl, ?_, J.p, by omega, fun x hx => by have := J.lt x hx; omega⟩
    refine ⟨J.pt, Nat.le_refl _, by omega, ⟨fun e => by have := J.lt _ (.inl e); omega, fun e => by have := J.lt _ (.inr e); omega⟩, J.gD.rdv (by decide) (fun _ => rfl), J.gE.rdv (by decide) (fun _ => rfl), fun x hx => ?_, by omega, by omega, J.nd, J.ne, J.de, fun x hx => (J.lt x hx).2, fun k hk => by rw [J.dk k hk, hN]; rfl, fun k hk => by rw [J.ek k hk, hN], (fun k i v _ _ e => by cases e), wP, fun x hx => ?_⟩
    · rcases hx with hx | hx
      · have r := J.gD.range hx; exact ⟨r.2, (J.bD x hx).1, (J.bD x hx).2.1⟩
      · have r := J.gE.range hx; exact ⟨r.2, (J.bE x hx).1, (J.bE x hx).2⟩
    · have lx : x < h.n := by
        rcases hx with hx | ⟨y, hy, hx⟩
        · exact w.r.lt hx
        · exact (w.kids y hy).lt hx
      exact ⟨by omega, fun e => by have := J.lt _ (.inl e); omega, fun e => by have := J.lt _ (.inr e); omega⟩
end Go.Proofs.Ytciajhpeikemoaa
namespace Go.Proofs.Ytciajhpeikemoaa
open Go Go.Sim Go.Proofs
set_option linter.unusedSimpArgs false
set_option linter.unusedVariables false
set_option maxRecDepth 100000
set_option maxHeartbeats 1000000
theorem l04List_c (N : Nat) (F : Nat → Bool) (v : Value) (h : AH) (r : RdV h v 1 encT (bL N F)) (hN : N ≤ 1000000) :
    CC Try.prog 96 [v] h (fun w h' => RdV h' w 1 encNa ((List.range N).filter F) ∧ Pre h h') := by
  obtain ⟨A, c, rfl, _⟩ := r.rde (fun _ => rfl)
  rw [bL_len] at *
  refine CC.ofN Try.func96 Try.ntmps96 Try.results96 rfl (by decide) (by kernel_rfl) ?_
  simp (maxSteps := 1000000) -implicitDefEqProofs only [push_cast, seval]
  refine WC.loopA (by kernel_rfl) [3, 4] [6, 7, 8, 9, 10, 11, 12, 13, 14, 15, 16, 17, 18, 19] (fun a : Nat × Value => [a.2, .int .i64 (a.1 : Nat)]) (fun a h' => a.1 ≤ N ∧ Gr h.n h' a.2 1 ((((List.range a.1).filter F).map encNa).flatten) ∧ Pre h h') (fun a => N - a.1) (0, .slice (some ⟨h.n, 0, none⟩) 0 1) (by kernel_rfl) ⟨Nat.zero_le _, .inr ⟨h.n, 0, 0, rfl, Nat.le_refl _, Own.zero rfl 1⟩, (Pre.refl h).alloc _⟩ ?_
  intro a g h1 hJ
  have hi := hJ.1
  have hg := hJ.2.1
  have p1 := hJ.2.2
  clear hJ
  simp (maxSteps := 1000000) -implicitDefEqProofs only [push_cast, seval]
  with_reducible refine bcase_d (fun hb => ?_) (fun hb => ?_)
  · have hi' : a.1 < N := by omega
    have rb := rdBl (r.pre p1) hi'
    with_reducible refine Exists.elim rb (fun id9 rb => ?_)
    with_reducible refine Exists.elim rb (fun off9 rb => ?_)
    with_reducible refine Exists.elim rb (fun c9 rb => ?_)
    have e9 := rb.1
    have l9 := rb.2.1
    have t9 := rb.2.2
    clear rb
    injection e9 with e9 _ _
    subst e9
    have st : (List.range (a.1 + 1)).filter F = (List.range a.1).filter F ++ (if F a.1 = true then [a.1] else []) := by
      rw [List.range_succ, List.filter_append]
      cases hq : F a.1 <;> simp [hq]
    generalize hB : F a.1 = B at *
    simp (maxSteps := 1000000) -implicitDefEqProofs only [push_cast, seval, t9, l9]
    repeat (with_reducible refine And.intro ?_ ?_; · (first | omega | decide))
    with_reducible refine bcase_mk (fun hT => ?_) (fun hT => ?_)
    · rw [if_pos hT] at st
      have fl : ((((List.range a.1).filter F).map encNa).flatten).length = ((List.range a.1).filter F).length * 1 := flat_len (k := 1) _ (fun _ => rfl)
      have fl2 := List.length_filter_le F (List.range a.1)
      rw [List.length_range] at fl2
      simp (maxSteps := 1000000) -implicitDefEqProofs only [push_cast, seval]
      refine Gr.app1 (h0 := ⟨h.n, h1.ob⟩) si26 (by decide) (by decide) (notInt_sl und26) hg ⟨p1.n, fun _ _ => rfl⟩ rfl (by rw [fl]; omega) (by decide) (fun h3 gr ow p' n3 he => ?_)
      simp (maxSteps := 1000000) -implicitDefEqProofs only [push_cast, seval]
      rw [wrapSucc (by omega)]
      refine ⟨(a.1 + 1, .slice (some ⟨h1.n + 1, 0, none⟩) (((((List.range a.1).filter F).map encNa).flatten).length / 1 + 1) 1), by kernel_rfl, ⟨by show a.1 + 1 ≤ N; omega, ?_, ⟨by have := p1.n; omega, fun j hj => (he j (by have := p1.n; omega) (fun e => by have := hg.range e; omega)).trans (p1.ob j hj)⟩⟩, by show N - (a.1 + 1) < N - a.1; omega⟩
      show Gr h.n h3 _ 1 ((((List.range (a.1 + 1)).filter F).map encNa).flatten)
      rw [st, flat_snoc]; exact gr
    · rw [if_neg (by rw [hT]; simp), List.append_nil] at st
      simp (maxSteps := 1000000) -implicitDefEqProofs only [push_cast, seval]
      rw [wrapSucc (by omega)]
      exact ⟨(a.1 + 1, a.2), by kernel_rfl, ⟨by show a.1 + 1 ≤ N; omega, by show Gr h.n h1 _ 1 ((((List.range (a.1 + 1)).filter F).map encNa).flatten); rw [st]; exact hg, p1⟩, by show N - (a.1 + 1) < N - a.1; omega⟩
  · have e : a.1 = N := by omega
    rw [e] at hg
    simp (maxSteps := 1000000) -implicitDefEqProofs only [push_cast, seval]
    exact ⟨hg.rdv (by decide) (fun _ => rfl), p1⟩
theorem ml_filter (L : List Pc) (s : ByteArray) (k i : Nat) : ml L s k i = (List.range (s.size + 1)).filter (mB L s k i) := rfl
theorem pieceZ_of {x : Pc} {i : Nat} (o : OkPc x i) : pieceZ ⟨(x.op : Nat), x.text, x.kids.map Int.ofNat⟩ i = true := by
  have h1 := o.op
  have h2 := o.text
  have h3 := o.kids
  unfold pieceZ
  rw [Bool.and_eq_true, Bool.and_eq_true, Bool.and_eq_true]
  refine ⟨⟨⟨by rw [inB_iff]; show 1 ≤ ((x.op : Nat) : Int) ∧ ((x.op : Nat) : Int) ≤ 12; omega, ?_⟩, ?_⟩, ?_⟩
  · unfold textZ
    unfold textOk at h2
    simp only
    split at h2
    · rw [if_pos (by omega)]; simpa using h2
    split at h2
    · rw [if_neg (by omega), if_pos (by omega), inB_iff]; omega
    · rw [if_neg (by omega), if_neg (by omega)]; simpa using h2
  · rw [decide_eq_true_eq]
    show (x.kids.map Int.ofNat).length = kidsZ _
    rw [List.length_map, h3]
    have f5 : (((x.op : Nat) : Int) = 5) = (x.op = 5) := propext (by omega)
    have f6 : (((x.op : Nat) : Int) = 6) = (x.op = 6) := propext (by omega)
    have f7 : (((x.op : Nat) : Int) = 7) = (x.op = 7) := propext (by omega)
    have f8 : (((x.op : Nat) : Int) = 8) = (x.op = 8) := propext (by omega)
    have f9 : (((x.op : Nat) : Int) = 9) = (x.op = 9) := propext (by omega)
    unfold kidsZ kidsN
    simp only [f5, f6, f7, f8, f9]
  · rw [allN_iff]
    intro j hj
    have hj' : j < x.kids.length := by simpa using hj
    have : (x.kids.map Int.ofNat).getD j 0 = ((x.kids[j] : Nat) : Int) := by simp [List.getD_eq_getElem?_getD, hj']
    show inB ((x.kids.map Int.ofNat).getD j 0) 0 _ = true
    rw [this, inB_iff]
    have := o.ahead _ (List.getElem_mem hj')
    omega
theorem PatternOk_cs (v : Value) (L : List (Pc × Value)) (h : AH) (w : RdPat h v L) (ok : Okp (L.map Prod.fst)) (h1 : 1 ≤ L.length) (h2 : L.length ≤ 60) :
    CD Try.prog 34 [.agg #[v]] h (.bool true) h := by
  obtain ⟨M, hM⟩ : ∃ M : List (Nd × Value), M = L.map fun x => (⟨(x.1.op : Nat), x.1.text, x.1.kids.map Int.ofNat⟩, x.2) := ⟨_, rfl⟩
  have wz : RdPz h v M ∧ SmZ M := by
    subst hM
    constructor
    · constructor
      · have e1 : ((L.map fun x : Pc × Value => ((⟨(x.1.op : Nat), x.1.text, x.1.kids.map Int.ofNat⟩, x.2) : Nd × Value)).map encD).flatten = (L.map encP).flatten := by
          rw [List.map_map]; rfl
        rcases w.r with ⟨c, e, hl⟩ | ⟨id, off, c, e, r, hlt⟩
        · subst hl; exact .inl ⟨c, e, rfl⟩
        · exact .inr ⟨id, off, c, by rw [e, List.length_map], by rw [e1, List.length_map]; exact r, hlt⟩
      · intro x hx
        obtain ⟨y, hy, rfl⟩ := List.mem_map.1 hx
        have e2 : ((y.1.kids.map Int.ofNat).map encZ).flatten = (y.1.kids.map encNa).flatten := by
          rw [List.map_map]; rfl
        rcases w.kids y hy with ⟨c, e, hl⟩ | ⟨id, off, c, e, r, hlt⟩
        · refine .inl ⟨c, e, ?_⟩
          show y.1.kids.map Int.ofNat = []
          rw [hl]; rfl
        · refine .inr ⟨id, off, c, ?_, ?_, hlt⟩
          · show y.2 = _
            rw [e]; show _ = Value.slice _ (y.1.kids.map Int.ofNat).length c; rw [List.length_map]
          · show rd h id off ((y.1.kids.map Int.ofNat).length * 1) = some ((y.1.kids.map Int.ofNat).map encZ).flatten
            rw [List.length_map, e2]; exact r
    · refine ⟨by rw [List.length_map]; omega, fun x hx => ?_⟩
      obtain ⟨y, hy, rfl⟩ := List.mem_map.1 hx
      obtain ⟨i, hi, rfl⟩ := List.getElem_of_mem hy
      have o := ok i (by rw [List.length_map]; exact hi)
      rw [List.getElem_map] at o
      have k1 := o.kids
      have t1 := o.text
      have k2 : kidsN L[i].1.op ≤ 2 := by unfold kidsN; split <;> (try split) <;> omega
      have t2 : L[i].1.text.size ≤ 24 := by
        unfold textOk at t1
        split at t1
        · omega
        split at t1 <;> omega
      show (L[i].1.kids.map Int.ofNat).length ≤ 1000 ∧ L[i].1.text.size ≤ 1000
      rw [List.length_map]; omega
  have key : patZ (M.map Prod.fst) = true := by
    have hl : M.length = L.length := by rw [hM, List.length_map]
    rw [patZ_all (L := M) (fun i hi => ?_), inB_iff]
    · omega
    · subst hM
      rw [List.length_map] at hi
      have o := ok i (by rw [List.length_map]; exact hi)
      rw [List.getElem_map] at o
      rw [List.getElem_map]
      exact pieceZ_of o
  have := PatternOk_zs v M h wz.1 wz.2
  rw [key] at this
  exact this
end Go.Proofs.Ytciajhpeikemoaa
namespace Go.Proofs.Ytciajhpeikemoaa
open Go Go.Sim Go.Proofs
set_option linter.unusedSimpArgs false
set_option linter.unusedVariables false
set_option maxRecDepth 100000
set_option maxHeartbeats 1000000
theorem FindIn_s (vP : Value) (L : List (Pc × Value)) (s : ByteArray) (h : AH) (w : RdPat h vP L) (ok : Okp (L.map Prod.fst)) (h1 : 1 ≤ L.length) (h2 : L.length ≤ 60) (hs : s.size ≤ 100000) :
    CC Try.prog 41 [.agg #[vP], .string s] h (fun v h' => FindQ (L.map Prod.fst) s v ∧ Pre h h') := by
  have u := w.r.one
  have y := w.r.cell1
  obtain ⟨A, c, rfl, hPR⟩ := w.r.rde (fun _ => rfl)
  have p0 : Pre h (h.alloc (.cells [.slice A L.length c] .solo h.n)) := (Pre.refl h).alloc _
  have e0 : (h.alloc (.cells [.slice A L.length c] .solo h.n)).ob h.n = _ := alloc_same _
  have n0 : (h.alloc (.cells [.slice A L.length c] .solo h.n)).n = h.n + 1 := rfl
  have wk : IntKind.i64.wrap ((L.length : Int) - 1) = ((L.length - 1 : Nat) : Int) := by rw [w64 (by omega) (by omega)]; omega
  have dz : decide ((L.length : Int) = 0) = false := decide_eq_false (by omega)
  refine CC.ofN Try.func41 Try.ntmps41 Try.results41 rfl (by decide) (by kernel_rfl) ?_
  simp (maxSteps := 1000000) -implicitDefEqProofs only [push_cast, seval, u]
  generalize (h.alloc (.cells [.slice A L.length c] .solo h.n)) = h1 at *
  have l1 : h.n < h1.n := by omega
  simp (maxSteps := 1000000) -implicitDefEqProofs only [push_cast, seval, e0, rd_of e0, rd1_of e0, l1, u]
  with_reducible refine CD.to (PatternOk_cs _ L h1 (w.pre p0) ok (by omega) h2) ?_
  simp (maxSteps := 1000000) -implicitDefEqProofs only [push_cast, seval, e0, rd_of e0, rd1_of e0, l1, u, y, dz]
  with_reducible refine CC.mono (l04New_c _ L s h1 (w.pre p0) (by omega) hs) (fun v H hv => ?_)
  with_reducible refine Exists.elim hv (fun b1 hv => ?_)
  with_reducible refine Exists.elim hv (fun mp hv => ?_)
  with_reducible refine Exists.elim hv (fun vD hv => ?_)
  with_reducible refine Exists.elim hv (fun vE hv => ?_)
  with_reducible refine Exists.elim hv (fun D hv => ?_)
  with_reducible refine Exists.elim hv (fun E hv => ?_)
  have ev := hv.1
  have mM := hv.2.1
  have pM := hv.2.2.1
  have hmp := hv.2.2.2.1
  have hDE := hv.2.2.2.2
  clear hv
  subst ev
  have nM := pM.n
  have hE := at_ok b1 mp (.slice A L.length c) vD vE L s D E ok (by omega) hs (L.length - 1) (by omega)
  unfold AtOk at hE
  have hlen : (L.map Prod.fst).length = L.length := List.length_map _
  have nin : ∀ j, j < h1.n → j ∉ D ∧ j ∉ E := fun j hj => ⟨fun e => by have := hDE j (.inl e); omega, fun e => by have := hDE j (.inr e); omega⟩
  have fin : ∀ h', H.n ≤ h'.n → (∀ j, j < h1.n → h'.ob j = H.ob j) → Pre h h' := fun h' a b => ⟨by omega, fun j hj => (b j (by omega)).trans ((pM.ob j (by omega)).trans (p0.ob j hj))⟩
  simp (maxSteps := 1000000) -implicitDefEqProofs only [push_cast, seval]
  refine WC.loopA (by kernel_rfl) [8] [4, 5, 6, 9, 22, 23, 24, 25, 26, 27, 28, 29, 30, 31, 32, 33, 34, 35, 36, 37, 38, 39, 40, 41, 42, 43, 44, 45] (fun i : Nat => [.int .i64 (i : Nat)]) (fun i h' => i ≤ s.size + 1 ∧ (∀ j, j < i → ml (L.map Prod.fst) s (L.length - 1) j = []) ∧ (∃ T, Me h' b1 mp (.slice A L.length c) vD vE L s D E T) ∧ H.n ≤ h'.n ∧ ∀ j, j < h1.n → h'.ob j = H.ob j) (fun i => s.size + 1 - i) 0 (by kernel_rfl) ⟨by omega, fun j hj => absurd hj (Nat.not_lt_zero j), ⟨_, mM⟩, Nat.le_refl _, fun _ _ => rfl⟩ ?_
  intro i g h3 hJ
  have hi := hJ.1
  have hno := hJ.2.1
  have hes := hJ.2.2.1
  have hn3 := hJ.2.2.2.1
  have hob3 := hJ.2.2.2.2
  clear hJ
  simp (maxSteps := 1000000) -implicitDefEqProofs only [push_cast, seval]
  with_reducible refine bcase_d (fun hb => ?_) (fun hb => ?_)
  rotate_left
  · simp (maxSteps := 1000000) -implicitDefEqProofs only [push_cast, seval]
    refine ⟨.inr ⟨fun j hj => ?_, rfl⟩, fin h3 (by omega) (fun j hj => hob3 j (by omega))⟩
    rw [hlen]; exact hno j (by omega)
  have e0' : h3.ob h.n = _ := (hob3 h.n (by omega)).trans ((pM.ob h.n (by omega)).trans e0)
  have l0' : h.n < h3.n := by omega
  simp (maxSteps := 1000000) -implicitDefEqProofs only [push_cast, seval, e0', rd_of e0', rd1_of e0', l0', u, y, wk]
  with_reducible refine Exists.elim hes (fun T m3 => ?_)
  with_reducible refine CC.mono (hE h3 T i m3 (by omega)) (fun v h4 hv => ?_)
  with_reducible refine Exists.elim hv (fun T4 hv => ?_)
  have m4 := hv.1
  have fe4 := hv.2.1
  have tv := hv.2.2
  clear hv
  have n4 := fe4.n
  have told := (m4.told (L.length - 1) i v (by omega) (by omega) tv).1
  simp (maxSteps := 1000000) -implicitDefEqProofs only [push_cast, seval]
  with_reducible refine CC.mono (l04List_c (s.size + 1) (mB (L.map Prod.fst) s (L.length - 1) i) v h4 told (by omega)) (fun v5 h5 hv => ?_)
  have r4 := hv.1
  have p5 := hv.2
  clear hv
  rw [← ml_filter] at r4
  have n5 := p5.n
  have ob5 : ∀ j, j < h1.n → h5.ob j = H.ob j := fun j hj => (p5.ob j (by omega)).trans ((fe4.ob j (by omega) (nin j hj).1 (nin j hj).2).trans (hob3 j hj))
  have m5 := m4.pre p5
  have hml := places_len s.size (Mt (L.map Prod.fst) s (L.length - 1) i)
  change (ml (L.map Prod.fst) s (L.length - 1) i).length ≤ _ at hml
  have fin4 : Pre h h5 := fin h5 (by omega) (fun j hj => ob5 j (by omega))
  have hno' : ∀ j, j < i → ml (L.map Prod.fst) s ((L.map Prod.fst).length - 1) j = [] := by rw [hlen]; exact hno
  have fnd : ∀ e, (ml (L.map Prod.fst) s (L.length - 1) i).getLast? = some e → FindQ (L.map Prod.fst) s (.tuple #[.int .i64 (i : Nat), .int .i64 (e : Nat), .bool true]) := fun e he => by
    refine .inl ⟨i, e, by omega, hno', ?_, ?_, rfl⟩
    · rw [hlen]; intro e2; rw [e2] at he; cases he
    · rw [hlen]; exact he
  have hno5 : ml (L.map Prod.fst) s (L.length - 1) i = [] → ∀ j, j < i + 1 → ml (L.map Prod.fst) s (L.length - 1) j = [] := fun e j hj => by
    by_cases e2 : j = i
    · subst e2; exact e
    · exact hno j (by omega)
  generalize ml (L.map Prod.fst) s (L.length - 1) i = T5 at *
  have yv := r4.one
  have kf := r4.rde (fun _ => rfl)
  with_reducible refine Exists.elim kf (fun B kf => ?_)
  with_reducible refine Exists.elim kf (fun cB kf => ?_)
  have eB := kf.1
  clear kf
  subst eB
  simp (maxSteps := 1000000) -implicitDefEqProofs only [push_cast, seval]
  with_reducible refine bcase_d (fun hb2 => ?_) (fun hb2 => ?_)
  · have h0 : 0 < T5.length := by omega
    have rk := rdN r4 (show T5.length - 1 < T5.length by omega) rfl
    with_reducible refine Exists.elim rk (fun id hv => ?_)
    with_reducible refine Exists.elim hv (fun off hv => ?_)
    have ev := hv.1
    have vlt := hv.2.1
    have vrd := hv.2.2
    clear hv rk
    subst ev
    have wT : IntKind.i64.wrap ((T5.length : Int) - 1) = ((T5.length - 1 : Nat) : Int) := by rw [w64 (by omega) (by omega)]; omega
    refine WC.draw' (by kernel_rfl) (by kernel_rfl) (.q 0 (.q 1 (.q 2 (.q 3 (.q 4 (.q 5 (.q 6 (.q 7 (.q 8 (.q 9 (.done))))))))))) (by kernel_rfl) ?_
    simp (maxSteps := 1000000) -implicitDefEqProofs only [push_cast, seval, wT, vrd, vlt]
    refine And.intro (by omega) (And.intro (by omega) ?_)
    exact ⟨fnd _ (by rw [List.getLast?_eq_getElem?, List.getElem?_eq_getElem]), fin4⟩
  · have eT : T5 = [] := List.eq_nil_of_length_eq_zero (by omega)
    simp (maxSteps := 1000000) -implicitDefEqProofs only [push_cast, seval]
    rw [wrapSucc (by omega)]
    exact ⟨i + 1, by kernel_rfl, ⟨by omega, hno5 eT, ⟨T4, m5⟩, by omega, ob5⟩, by omega⟩
/-- Two that find tell alike. -/
theorem FindQ.same {o : List Pc} {s : ByteArray} {v w : Value} (a : FindQ o s v) (b : FindQ o s w) : v = w := by
  rcases a with ⟨i, e, h1, h2, h3, h4, rfl⟩ | ⟨h1, rfl⟩
  · rcases b with ⟨i', e', g1, g2, g3, g4, rfl⟩ | ⟨g1, rfl⟩
    · have : i = i' := by
        by_cases c : i < i'
        · exact absurd (g2 i c) h3
        · by_cases c2 : i' < i
          · exact absurd (h2 i' c2) g3
          · omega
      subst this
      rw [h4] at g4
      obtain rfl := Option.some.inj g4
      rfl
    · exact absurd (g1 i h1) h3
  · rcases b with ⟨i', e', g1, g2, g3, g4, rfl⟩ | ⟨g1, rfl⟩
    · exact absurd (h1 i' g1) g3
    · rfl
/-- What no right pattern finds. -/
theorem FindBad_i (vP : Value) (M : List (Nd × Value)) (s : ByteArray) (h : AH) (w : RdPz h vP M) (z : SmZ M) (no : patZ (M.map Prod.fst) = false) :
    CC Try.prog 30 [.agg #[vP], .string s] h (fun v h' => v = .tuple #[.int .i64 0, .int .i64 0, .bool false] ∧ Pre h h') := by
  have u := w.r.one
  have y : vP.cells = #[vP] := by rcases w.r with ⟨c, rfl, _⟩ | ⟨id, off, c, rfl, _, _⟩ <;> rfl
  have p0 : Pre h (h.alloc (.cells [vP] .solo h.n)) := (Pre.refl h).alloc _
  have e0 : (h.alloc (.cells [vP] .solo h.n)).ob h.n = _ := alloc_same _
  have n0 : (h.alloc (.cells [vP] .solo h.n)).n = h.n + 1 := rfl
  have ok := PatternOk_zi vP M _ (w.pre p0) z
  rw [no] at ok
  refine CC.ofN Try.func30 Try.ntmps30 Try.results30 rfl (by decide) (by kernel_rfl) ?_
  simp (maxSteps := 1000000) -implicitDefEqProofs only [push_cast, seval, u]
  generalize (h.alloc (.cells [vP] .solo h.n)) = h1 at *
  have l1 : h.n < h1.n := by omega
  simp (maxSteps := 1000000) -implicitDefEqProofs only [push_cast, seval, e0, rd_of e0, rd1_of e0, l1, u]
  with_reducible refine CD.to ok ?_
  simp (maxSteps := 1000000) -implicitDefEqProofs only [push_cast, seval]
  exact p0
theorem FindBad_s (vP : Value) (M : List (Nd × Value)) (s : ByteArray) (h : AH) (w : RdPz h vP M) (z : SmZ M) (no : patZ (M.map Prod.fst) = false) :
    CC Try.prog 41 [.agg #[vP], .string s] h (fun v h' => v = .tuple #[.int .i64 0, .int .i64 0, .bool false] ∧ Pre h h') := by
  have u := w.r.one
  have y : vP.cells = #[vP] := by rcases w.r with ⟨c, rfl, _⟩ | ⟨id, off, c, rfl, _, _⟩ <;> rfl
  have p0 : Pre h (h.alloc (.cells [vP] .solo h.n)) := (Pre.refl h).alloc _
  have e0 : (h.alloc (.cells [vP] .solo h.n)).ob h.n = _ := alloc_same _
  have n0 : (h.alloc (.cells [vP] .solo h.n)).n = h.n + 1 := rfl
  have ok := PatternOk_zs vP M _ (w.pre p0) z
  rw [no] at ok
  refine CC.ofN Try.func41 Try.ntmps41 Try.results41 rfl (by decide) (by kernel_rfl) ?_
  simp (maxSteps := 1000000) -implicitDefEqProofs only [push_cast, seval, u]
  generalize (h.alloc (.cells [vP] .solo h.n)) = h1 at *
  have l1 : h.n < h1.n := by omega
  simp (maxSteps := 1000000) -implicitDefEqProofs only [push_cast, seval, e0, rd_of e0, rd1_of e0, l1, u]
  with_reducible refine CD.to ok ?_
  simp (maxSteps := 1000000) -implicitDefEqProofs only [push_cast, seval, wt_undef]
  exact p0
end Go.Proofs.Ytciajhpeikemoaa
namespace Go.Proofs.Ytciajhpeikemoaa
open Go Go.Sim Go.Proofs
set_option linter.unusedSimpArgs false
set_option linter.unusedVariables false
set_option maxRecDepth 100000
set_option maxHeartbeats 1000000
/-- Both find the same. -/
theorem finds_same (vP : Value) (M : List (Nd × Value)) (s : ByteArray) (h : AH) (w : RdPz h vP M) (z : SmZ M) (hs : s.size ≤ 100000) :
    ∃ Q : Value → Prop, (∀ v, Q v → ∃ x y : Int, ∃ b : Bool, v = .tuple #[.int .i64 x, .int .i64 y, .bool b]) ∧ (∀ v w, Q v → Q w → v = w) ∧ CC Try.prog 30 [.agg #[vP], .string s] h (fun v h' => Q v ∧ Pre h h') ∧ ∀ h', Pre h h' → CC Try.prog 41 [.agg #[vP], .string s] h' (fun v h'' => Q v ∧ Pre h' h'') := by
  by_cases c : patZ (M.map Prod.fst) = true
  · obtain ⟨o, h1, h2, hn⟩ := patZ_ok c
    rw [List.length_map] at h1 h2
    have wp := w.pat (fun x hx => hn x.1 (List.mem_map.2 ⟨x, hx, rfl⟩))
    have e1 : (M.map toPv).map Prod.fst = (M.map Prod.fst).map toPc := by simp [toPv]
    rw [← e1] at o
    have l1 : (M.map toPv).length = M.length := List.length_map _
    refine ⟨FindQ ((M.map toPv).map Prod.fst) s, fun v q => ?_, fun v w a b => a.same b, FindIn_i vP _ s h wp o (by omega) (by omega) hs, fun h' p => FindIn_s vP _ s h' (wp.pre p) o (by omega) (by omega) hs⟩
    rcases q with ⟨i, e, _, _, _, _, rfl⟩ | ⟨_, rfl⟩
    · exact ⟨_, _, _, rfl⟩
    · exact ⟨_, _, _, rfl⟩
  · have c' : patZ (M.map Prod.fst) = false := by simpa using c
    exact ⟨fun v => v = .tuple #[.int .i64 0, .int .i64 0, .bool false], fun v e => ⟨_, _, _, e⟩, fun v w a b => a.trans b.symm, FindBad_i vP M s h w z c', fun h' p => FindBad_s vP M s h' (w.pre p) z c'⟩
theorem law_Finds (A : Option Addr) (c : Nat) (l : List Nat) (h : AH) (hR : RdE h A 1 byV l) (hl : ∀ n ∈ l, n < 256) (hn : l.length ≤ 1048576) : CE Try.prog 11 [.slice A l.length c] h fun v _ => v = .bool true := by
  have hml := maxLen_eq
  refine CE.withBig (fun big => ?_)
  refine CE.ofN Try.func11 Try.ntmps11 Try.results11 rfl (by kernel_rfl) ?_
  simp (maxSteps := 1000000) -implicitDefEqProofs only [push_cast, seval]
  with_reducible refine CD.to (big_c A l.length c h) ?_
  simp (maxSteps := 1000000) -implicitDefEqProofs only [push_cast, seval]
  have nb : decide ((1048576 : Int) < l.length) = false := decide_eq_false (by omega)
  simp (maxSteps := 1000000) -implicitDefEqProofs only [push_cast, seval, nb]
  with_reducible refine DrawPatterns_to hR hl hn (fun a b s h1 ha hb hs p1 => ?_)
  simp (maxSteps := 1000000) -implicitDefEqProofs only [push_cast, seval]
  have tw := tx_ok ha
  with_reducible refine Exists.elim tw (fun LA eA => ?_)
  have kA := readP_ok eA
  have za := tx_size ha
  have zs := hs.1
  with_reducible refine ReadPattern_to eA (by omega) (fun rv LZ h2 eL w p2 => ?_)
  have u := w.r.one
  have yy := w.r.cell1
  simp (maxSteps := 1000000) -implicitDefEqProofs only [push_cast, seval, u, yy, all1]
  have pz : Pre h2 ((h2.alloc (.cells [.slice none 0 0] .solo h2.n)).set h2.n (.cells [rv] .solo h2.n)) := ((Pre.refl h2).alloc _).set (Nat.le_refl _) _
  generalize ((h2.alloc (.cells [.slice none 0 0] .solo h2.n)).set h2.n (.cells [rv] .solo h2.n)) = h3 at *
  with_reducible refine find_to eA eL (w.pre pz) (by omega) (fun v h4 q p4 => ?_)
  have fin : ∃ b : Bool, ∃ x y : Int, v = .tuple #[.int .i64 x, .int .i64 y, .bool b] ∧ ((b = true ∧ ∃ i e : Nat, x = i ∧ y = e ∧ i ≤ s.size ∧ (∀ j, j < i → ml LA s (LA.length - 1) j = []) ∧ ml LA s (LA.length - 1) i ≠ [] ∧ (ml LA s (LA.length - 1) i).getLast? = some e) ∨ (b = false ∧ ∀ j, j ≤ s.size → ml LA s (LA.length - 1) j = [])) := by
    rcases q with ⟨i, e, h1, h2, h3, h4, ev⟩ | ⟨h1, ev⟩
    · exact ⟨true, _, _, ev, .inl ⟨rfl, i, e, rfl, rfl, h1, h2, h3, h4⟩⟩
    · exact ⟨false, _, _, ev, .inr ⟨rfl, h1⟩⟩
  with_reducible refine Exists.elim fin (fun fb fin => ?_)
  with_reducible refine Exists.elim fin (fun fx fin => ?_)
  with_reducible refine Exists.elim fin (fun fy fin => ?_)
  have ev := fin.1
  have fq := fin.2
  clear fin q
  subst ev
  simp (maxSteps := 1000000) -implicitDefEqProofs only [push_cast, seval]
  refine WC.loopA (by kernel_rfl) [11] [2, 12, 41, 42, 43, 44, 45, 46, 47, 48, 49, 50, 51, 52, 53, 54, 55, 56, 57, 58, 59, 60, 61, 62, 63, 64, 65, 66, 67, 68, 69, 70, 71, 72] (fun i : Nat => [.int .i64 (i : Nat)]) (fun i h' => (i ≤ s.size + 1 ∧ ∀ j, j < i → ml LA s (LA.length - 1) j = []) ∧ Pre h4 h') (fun i => s.size + 1 - i) 0 (by kernel_rfl) ⟨⟨by omega, fun j hj => absurd hj (Nat.not_lt_zero j)⟩, Pre.refl _⟩ ?_
  intro i g h5 hJ
  have hi := hJ.1.1
  have hno := hJ.1.2
  have p5 := hJ.2
  clear hJ
  simp (maxSteps := 1000000) -implicitDefEqProofs only [push_cast, seval]
  with_reducible refine bcase_d (fun hb1 => ?_) (fun hb1 => ?_)
  · simp (maxSteps := 1000000) -implicitDefEqProofs only [push_cast, seval]
    with_reducible refine ends_to eA (by omega) (by omega) (by omega) (fun x h6 rx p6 => ?_)
    have hx := places_len s.size (Mt LA s (LA.length - 1) i)
    change (ml LA s (LA.length - 1) i).length ≤ _ at hx
    have more : ml LA s (LA.length - 1) i = [] → ∀ j, j < i + 1 → ml LA s (LA.length - 1) j = [] := fun e j hj => by
      by_cases e2 : j = i
      · subst e2; exact e
      · exact hno j (by omega)
    have hit : ml LA s (LA.length - 1) i ≠ [] → ∃ e : Nat, fb = true ∧ fx = i ∧ fy = e ∧ (ml LA s (LA.length - 1) i).getLast? = some e := fun hne => by
      rcases fq with ⟨b1, i', e, e1, e2, b2, b3, b4, b5⟩ | ⟨_, b1⟩
      · have : i' = i := by
          by_cases c1 : i' < i
          · exact absurd (hno i' c1) b4
          · by_cases c2 : i < i'
            · exact absurd (b3 i c2) hne
            · omega
        subst this
        exact ⟨e, b1, e1, e2, b5⟩
      · exact absurd (b1 i (by omega)) hne
    generalize ml LA s (LA.length - 1) i = X at *
    have rl := fun hne : X ≠ [] => rx.el (fun _ => rfl) (show X.length - 1 < X.length by have := List.length_pos_iff.2 hne; omega)
    have kf := rx.rde (fun _ => rfl)
    with_reducible refine Exists.elim kf (fun Ax kf => ?_)
    with_reducible refine Exists.elim kf (fun cx kf => ?_)
    have ex := kf.1
    clear kf
    subst ex
    simp (maxSteps := 1000000) -implicitDefEqProofs only [push_cast, seval]
    with_reducible refine bcase_d (fun hz => ?_) (fun hz => ?_)
    · have eX : X = [] := List.eq_nil_of_length_eq_zero (by omega)
      simp (maxSteps := 1000000) -implicitDefEqProofs only [push_cast, seval]
      rw [wrapSucc (by omega)]
      exact ⟨i + 1, by kernel_rfl, ⟨⟨by omega, more eX⟩, p5.trans p6⟩, by omega⟩
    · have hne : X ≠ [] := fun e => by subst e; exact hz rfl
      have ht := hit hne
      with_reducible refine Exists.elim ht (fun e ht => ?_)
      have t1 := ht.1
      have t2 := ht.2.1
      have t3 := ht.2.2.1
      have t4 := ht.2.2.2
      clear ht hit more fq
      subst t1 t2 t3
      have rl := rl hne
      have eg : X[X.length - 1]'(by have := List.length_pos_iff.2 hne; omega) = e := by
        rw [List.getLast?_eq_getElem?, List.getElem?_eq_getElem (by have := List.length_pos_iff.2 hne; omega)] at t4
        exact Option.some.inj t4
      rw [eg] at rl
      have lp := List.length_pos_iff.2 hne
      have wT : IntKind.i64.wrap ((X.length : Int) - 1) = ((X.length - 1 : Nat) : Int) := by rw [w64 (by omega) (by omega)]; omega
      with_reducible refine Exists.elim rl (fun id rl => ?_)
      with_reducible refine Exists.elim rl (fun off rl => ?_)
      with_reducible refine Exists.elim rl (fun cc rl => ?_)
      have e9 := rl.1
      injection e9 with e9 _ _
      subst e9
      have l9 := rl.2.1
      have t9 := rd_1 rl.2.2
      clear rl
      simp (maxSteps := 1000000) -implicitDefEqProofs only [push_cast, seval, wT, l9, t9]
      exact ⟨by omega, by omega⟩
  · have ei : i = s.size + 1 := by omega
    have fn : fb = false := by
      rcases fq with ⟨b1, i', e, e1, e2, b2, b3, b4, b5⟩ | ⟨b0, _⟩
      · exact absurd (hno i' (by omega)) b4
      · exact b0
    subst fn
    have pA := ((p1.trans p2).trans pz).trans (p4.trans p5)
    simp (maxSteps := 1000000) -implicitDefEqProofs only [push_cast, seval]
    with_reducible refine CC.mono (DrawFindIn_c A c l h5 (hR.pre big pA) hl hn) (fun v h6 hv => ?_)
    have p6 := hv.2
    have hv := hv.1
    with_reducible refine Exists.elim hv (fun rz hv => ?_)
    with_reducible refine Exists.elim hv (fun M hv => ?_)
    with_reducible refine Exists.elim hv (fun t hv => ?_)
    have ev := hv.1
    have wz := hv.2.1
    have zm := hv.2.2.1
    have wt := hv.2.2.2.1
    clear hv
    subst ev
    have u3 := wz.r.one
    have c3 : rz.cells = #[rz] := by rcases wz.r with ⟨c, rfl, _⟩ | ⟨id, off, c, rfl, _, _⟩ <;> rfl
    simp (maxSteps := 1000000) -implicitDefEqProofs only [push_cast, seval, u3, c3, all1]
    have pt : Pre h6 ((h6.alloc (.cells [.slice none 0 0] .solo h6.n)).set h6.n (.cells [rz] .solo h6.n)) := ((Pre.refl h6).alloc _).set (Nat.le_refl _) _
    have e7 : ((h6.alloc (.cells [.slice none 0 0] .solo h6.n)).set h6.n (.cells [rz] .solo h6.n)).ob h6.n = .cells [rz] .solo h6.n := set_same _ _
    have n7 : ((h6.alloc (.cells [.slice none 0 0] .solo h6.n)).set h6.n (.cells [rz] .solo h6.n)).n = h6.n + 1 := rfl
    generalize ((h6.alloc (.cells [.slice none 0 0] .solo h6.n)).set h6.n (.cells [rz] .solo h6.n)) = h7 at *
    have fs := finds_same rz M t h7 (wz.pre pt) zm (by omega)
    with_reducible refine Exists.elim fs (fun Q fs => ?_)
    have fv := fs.1
    have fu := fs.2.1
    have fi := fs.2.2.1
    have fsp := fs.2.2.2
    clear fs
    with_reducible refine CC.mono fi (fun v8 h8 hv => ?_)
    have q8 := hv.1
    have p8 := hv.2
    have v8' := fv v8 q8
    clear hv
    with_reducible refine Exists.elim v8' (fun x8 v8' => ?_)
    with_reducible refine Exists.elim v8' (fun y8 v8' => ?_)
    with_reducible refine Exists.elim v8' (fun b8 v8' => ?_)
    subst v8'
    have e8 : h8.ob h6.n = _ := (p8.ob _ (by omega)).trans e7
    have l8 : h6.n < h8.n := by have := p8.n; omega
    simp (maxSteps := 1000000) -implicitDefEqProofs only [push_cast, seval, e8, rd_of e8, rd1_of e8, l8, u3, c3]
    with_reducible refine CC.mono (fsp h8 p8) (fun v9 h9 hv => ?_)
    have e9 := fu _ _ q8 hv.1
    clear hv
    subst e9
    simp (maxSteps := 1000000) -implicitDefEqProofs only [push_cast, seval, beq_self_eq_true]
theorem law_Finds0 (A : Option Addr) (c : Nat) (l : List Nat) (h : AH) (hR : RdE h A 1 byV l) (hl : ∀ n ∈ l, n < 256) (hn : l.length ≤ maxLen) : CE Try.prog 11 [.slice A l.length c] h fun v _ => v = .bool true := by
  by_cases hb : l.length ≤ 1048576
  · exact law_Finds A c l h hR hl hb
  refine CE.ofN Try.func11 Try.ntmps11 Try.results11 rfl (by kernel_rfl) ?_
  simp (maxSteps := 1000000) -implicitDefEqProofs only [push_cast, seval]
  with_reducible refine CD.to (big_c A l.length c h) ?_
  have nb : decide ((1048576 : Int) < l.length) = true := decide_eq_true (by omega)
  simp (maxSteps := 1000000) -implicitDefEqProofs only [push_cast, seval, nb]
end Go.Proofs.Ytciajhpeikemoaa
