/- Parts of the proof of the row: the ground, contracts of the functions that it reaches (Q11). Conditions: those that each theorem names. -/
import Derived.Test.YtciajhpeikemoaaB6
namespace Go.Proofs.Ytciajhpeikemoaa
open Go Go.Sim Go.Proofs
set_option linter.unusedSimpArgs false
set_option linter.unusedVariables false
set_option maxRecDepth 100000
set_option maxHeartbeats 1000000
theorem rp_set : readP ⟨#[91, 97, 98, 99, 93]⟩ = some [⟨3, ⟨#[97, 98, 99]⟩, []⟩] := rdE'_eq (by decide +kernel)
theorem rp_not : readP ⟨#[91, 94, 97, 98, 99, 93]⟩ = some [⟨4, ⟨#[97, 98, 99]⟩, []⟩] := rdE'_eq (by decide +kernel)
theorem rp_any : readP ⟨#[46]⟩ = some [⟨2, ⟨#[]⟩, []⟩] := rdE'_eq (by decide +kernel)
theorem six_set (r : Nat) (h : r < 6) : (ml [⟨3, ⟨#[97, 98, 99]⟩, []⟩] ⟨#[UInt8.ofNat (97 + r)]⟩ 0 0).length = (if r < 3 then 1 else 0) ∧ (ml [⟨4, ⟨#[97, 98, 99]⟩, []⟩] ⟨#[UInt8.ofNat (97 + r)]⟩ 0 0).length = (if r < 3 then 0 else 1) ∧ (ml [⟨2, ⟨#[]⟩, []⟩] ⟨#[UInt8.ofNat (97 + r)]⟩ 0 0).length = 1 := by
  have o3 := (readP_ok rp_set).1
  have o4 := (readP_ok rp_not).1
  have o2 := (readP_ok rp_any).1
  have t3 : tk ⟨3, ⟨#[97, 98, 99]⟩, []⟩ ⟨#[UInt8.ofNat (97 + r)]⟩ 0 = decide (r < 3) := by
    have : r = 0 ∨ r = 1 ∨ r = 2 ∨ r = 3 ∨ r = 4 ∨ r = 5 := by omega
    rcases this with rfl | rfl | rfl | rfl | rfl | rfl <;> decide +kernel
  have t4 : tk ⟨4, ⟨#[97, 98, 99]⟩, []⟩ ⟨#[UInt8.ofNat (97 + r)]⟩ 0 = !decide (r < 3) := by
    have : r = 0 ∨ r = 1 ∨ r = 2 ∨ r = 3 ∨ r = 4 ∨ r = 5 := by omega
    rcases this with rfl | rfl | rfl | rfl | rfl | rfl <;> decide +kernel
  have t2 : tk ⟨2, ⟨#[]⟩, []⟩ ⟨#[UInt8.ofNat (97 + r)]⟩ 0 = true := rfl
  have sz : (⟨#[UInt8.ofNat (97 + r)]⟩ : ByteArray).size = 1 := rfl
  generalize (⟨#[UInt8.ofNat (97 + r)]⟩ : ByteArray) = b at *
  have yes : ∀ {x : Pc}, Okp [x] → 1 ≤ x.op ∧ x.op ≤ 4 → tk x b 0 = true → (ml [x] b 0 0).length = 1 := fun {x} o hx ht => by
    rw [ml_yes o (.inl (by omega)) (Nat.zero_le _) (e := 1) (fun j => by rw [leaf1 hx]; exact ⟨fun h => h.2.1, fun h => ⟨by omega, h, ht⟩⟩)]; rfl
  have no : ∀ {x : Pc}, Okp [x] → 1 ≤ x.op ∧ x.op ≤ 4 → tk x b 0 = false → (ml [x] b 0 0).length = 0 := fun {x} o hx ht => by
    rw [ml_no o (.inl (by omega)) (Nat.zero_le _) (fun j => by rw [leaf1 hx, ht]; simp)]; rfl
  by_cases c : r < 3
  · rw [if_pos c, if_pos c]
    refine ⟨yes o3 (by decide) (by rw [t3]; simpa using c), no o4 (by decide) (by rw [t4]; simpa using c), yes o2 (by decide) t2⟩
  · rw [if_neg c, if_neg c]
    refine ⟨no o3 (by decide) (by rw [t3]; simpa using c), yes o4 (by decide) (by rw [t4]; simpa using c), yes o2 (by decide) t2⟩
theorem any_none : ml [⟨2, ⟨#[]⟩, []⟩] ⟨#[]⟩ 0 0 = [] :=
  ml_no (readP_ok rp_any).1 (.inl (by decide)) (Nat.zero_le _) (fun j => by rw [leaf1 (by decide)]; exact fun h => absurd h.1 (by decide))
theorem law_Sets (A : Option Addr) (c : Nat) (l : List Nat) (h : AH) (hR : RdE h A 1 byV l) (hl : ∀ n ∈ l, n < 256) (hn : l.length ≤ 1048576) : CE Try.prog 9 [.slice A l.length c] h fun v _ => v = .bool true := by
  have hml := maxLen_eq
  refine CE.withBig (fun big => ?_)
  refine CE.ofN Try.func9 Try.ntmps9 Try.results9 rfl (by kernel_rfl) ?_
  simp (maxSteps := 1000000) -implicitDefEqProofs only [push_cast, seval]
  with_reducible refine CD.to (big_c A l.length c h) ?_
  simp (maxSteps := 1000000) -implicitDefEqProofs only [push_cast, seval]
  have nb : decide ((1048576 : Int) < l.length) = false := decide_eq_false (by omega)
  simp (maxSteps := 1000000) -implicitDefEqProofs only [push_cast, seval, nb]
  with_reducible refine CC.mono (DrawPlaces_c A c l h hR hl hn) (fun v h1 hv => ?_)
  have p1 := hv.2
  have hps := hv.1
  clear hv
  with_reducible refine Exists.elim hps (fun ps hps => ?_)
  have plen := hps.1
  have plt := hps.2.1
  have rp := hps.2.2
  clear hps
  have yv := rp.one
  have rl : ∃ X : Nat, X < 10000 ∧ ∃ id off c, v = .slice (some ⟨id, off, none⟩) ps.length c ∧ id < h1.n ∧ rd h1 id (off + 0 * 1) 1 = some (encNa X) := by
    refine ⟨ps[0], plt _ (List.getElem_mem _), rp.el (fun _ => rfl) (show 0 < ps.length by omega)⟩
  with_reducible refine Exists.elim rl (fun X rl => ?_)
  have hX := rl.1
  have rl := rl.2
  with_reducible refine Exists.elim rl (fun id rl => ?_)
  with_reducible refine Exists.elim rl (fun off rl => ?_)
  with_reducible refine Exists.elim rl (fun cc rl => ?_)
  have erv := rl.1
  have hlt := rl.2.1
  have hrd := rl.2.2
  clear rl
  subst erv
  simp only [encNa, Nat.zero_mul, Nat.add_zero] at hrd
  have r0 := rd_1 hrd
  have tm : (X : Int).tmod 6 = ((X % 6 : Nat) : Int) := by rw [Int.tmod_eq_emod_of_nonneg (by omega)]; rfl
  have hr := Nat.mod_lt X (show 0 < 6 by omega)
  have w1 : IntKind.i64.wrap (97 + ((X % 6 : Nat) : Int)) = ((97 + X % 6 : Nat) : Int) := by rw [w64 (by omega) (by omega)]; omega
  have w2 : IntKind.u8.wrap ((97 + X % 6 : Nat) : Int) = ((97 + X % 6 : Nat) : Int) := w8 (by omega) (by omega)
  have rb := six_set (X % 6) hr
  have tm3 := tm
  generalize X % 6 = r at *
  with_reducible refine nameN (97 + r) (fun N hN => ?_)
  rw [← hN] at w1 w2 rb
  simp (maxSteps := 1000000) -implicitDefEqProofs only [push_cast, seval, plen, tm, w1, w2, r0, hlt]
  have sB : (⟨#[UInt8.ofNat N]⟩ : ByteArray).size = 1 := rfl
  generalize (⟨#[UInt8.ofNat N]⟩ : ByteArray) = B at *
  have px : Pre h1 (h1.alloc (.cells [.int .u8 (N : Nat)] .solo h1.n)) := (Pre.refl h1).alloc _
  generalize (h1.alloc (.cells [.int .u8 (N : Nat)] .solo h1.n)) = h1' at *
  with_reducible refine ends_toZ (i := 0) (z := 0) rp_set rfl (Nat.zero_le _) (by omega) (by have : (⟨#[91, 97, 98, 99, 93]⟩ : ByteArray).size = 5 := rfl; omega) (fun v3 h3 r3 p3 => ?_)
  have r3 := r3.rde (fun _ => rfl)
  with_reducible refine Exists.elim r3 (fun A3 r3 => ?_)
  with_reducible refine Exists.elim r3 (fun c3 r3 => ?_)
  have e3 := r3.1
  clear r3
  subst e3
  rw [show ([⟨3, ⟨#[97, 98, 99]⟩, []⟩] : List Pc).length - 1 = 0 from rfl]
  simp (maxSteps := 1000000) -implicitDefEqProofs only [push_cast, seval]
  with_reducible refine ends_toZ (i := 0) (z := 0) rp_not rfl (Nat.zero_le _) (by omega) (by have : (⟨#[91, 94, 97, 98, 99, 93]⟩ : ByteArray).size = 6 := rfl; omega) (fun v4 h4 r4 p4 => ?_)
  have r4 := r4.rde (fun _ => rfl)
  with_reducible refine Exists.elim r4 (fun A4 r4 => ?_)
  with_reducible refine Exists.elim r4 (fun c4 r4 => ?_)
  have e4 := r4.1
  clear r4
  subst e4
  rw [show ([⟨4, ⟨#[97, 98, 99]⟩, []⟩] : List Pc).length - 1 = 0 from rfl]
  simp (maxSteps := 1000000) -implicitDefEqProofs only [push_cast, seval]
  with_reducible refine CC.mono (DrawReadPattern_c A c l h4 (hR.pre big (((p1.trans px).trans p3).trans p4)) hl hn) (fun v h5' hv => ?_)
  have p5' := hv.2
  have ht := hv.1
  clear hv
  with_reducible refine Exists.elim ht (fun t ht => ?_)
  have et := ht.1
  have zt := ht.2
  clear ht
  subst et
  simp (maxSteps := 1000000) -implicitDefEqProofs only [push_cast, seval]
  with_reducible refine CC.mono (ReadPattern_i t h5' (by omega)) (fun v h5 hv => ?_)
  have p5 := hv.1
  have hv2 := hv.2
  clear hv
  unfold PatV at hv2
  with_reducible refine Or.elim hv2 (fun hn0 => ?_) (fun hy => ?_)
  · have et := hn0.1
    have ev := hn0.2
    clear hn0 hv2
    subst ev
    have u1 : Sim.one (.slice none 0 0) = true := rfl
    have c1 : (Value.slice none 0 0).cells = #[.slice none 0 0] := rfl
    simp (maxSteps := 1000000) -implicitDefEqProofs only [push_cast, seval, u1, c1, all1]
    have pq : Pre h5 ((h5.alloc (.cells [.slice none 0 0] .solo h5.n)).set h5.n (.cells [.slice none 0 0] .solo h5.n)) := ((Pre.refl h5).alloc _).set (Nat.le_refl _) _
    have eq5 : ((h5.alloc (.cells [.slice none 0 0] .solo h5.n)).set h5.n (.cells [.slice none 0 0] .solo h5.n)).ob h5.n = .cells [.slice none 0 0] .solo h5.n := set_same _ _
    have nq5 : ((h5.alloc (.cells [.slice none 0 0] .solo h5.n)).set h5.n (.cells [.slice none 0 0] .solo h5.n)).n = h5.n + 1 := rfl
    generalize ((h5.alloc (.cells [.slice none 0 0] .solo h5.n)).set h5.n (.cells [.slice none 0 0] .solo h5.n)) = h6 at *
    with_reducible refine CC.mono (ReadPattern_s t h6 (by omega)) (fun v h7 hv => ?_)
    have p7 := hv.1
    have hv2 := hv.2
    clear hv
    have hw : ∃ rw2, v = .tuple #[.agg #[rw2], .bool false] ∧ Sim.one rw2 = true ∧ rw2.cells = #[rw2] := by
      rcases hv2 with ⟨e, ev⟩ | ⟨rv2, L2, e, ev, w2⟩
      · exact ⟨_, ev, rfl, rfl⟩
      · rw [et] at e; cases e
    clear hv2
    with_reducible refine Exists.elim hw (fun rw2 hw => ?_)
    have ev2 := hw.1
    have u2 := hw.2.1
    have c2 := hw.2.2
    clear hw
    subst ev2
    simp (maxSteps := 1000000) -implicitDefEqProofs only [push_cast, seval, u2, c2, all1]
    have ps : Pre h7 ((h7.alloc (.cells [.slice none 0 0] .solo h7.n)).set h7.n (.cells [rw2] .solo h7.n)) := ((Pre.refl h7).alloc _).set (Nat.le_refl _) _
    generalize ((h7.alloc (.cells [.slice none 0 0] .solo h7.n)).set h7.n (.cells [rw2] .solo h7.n)) = h8 at *
    with_reducible refine CC.mono (DrawPatternOk_c A c l h8 (hR.pre big (((((p1.trans px).trans p3).trans p4).trans p5').trans (((p5.trans pq).trans p7).trans ps))) hl hn) (fun v h9 hv => ?_)
    have p9 := hv.2
    have hv := hv.1
    with_reducible refine Exists.elim hv (fun rz hv => ?_)
    with_reducible refine Exists.elim hv (fun M hv => ?_)
    have ev := hv.1
    have wz := hv.2.1
    have zm := hv.2.2
    clear hv
    subst ev
    have u3 := wz.r.one
    have c3 : rz.cells = #[rz] := by rcases wz.r with ⟨c, rfl, _⟩ | ⟨id, off, c, rfl, _, _⟩ <;> rfl
    simp (maxSteps := 1000000) -implicitDefEqProofs only [push_cast, seval, u3, c3, all1]
    have pt : Pre h9 ((h9.alloc (.cells [.slice none 0 0] .solo h9.n)).set h9.n (.cells [rz] .solo h9.n)) := ((Pre.refl h9).alloc _).set (Nat.le_refl _) _
    have e10 : ((h9.alloc (.cells [.slice none 0 0] .solo h9.n)).set h9.n (.cells [rz] .solo h9.n)).ob h9.n = .cells [rz] .solo h9.n := set_same _ _
    have n10 : ((h9.alloc (.cells [.slice none 0 0] .solo h9.n)).set h9.n (.cells [rz] .solo h9.n)).n = h9.n + 1 := rfl
    generalize ((h9.alloc (.cells [.slice none 0 0] .solo h9.n)).set h9.n (.cells [rz] .solo h9.n)) = h10 at *
    have pA := ((px.trans p3).trans p4).trans (p5'.trans p5)
    have pB := ((pq.trans p7).trans ps).trans (p9.trans pt)
    have r10 : rd1 h10 id off = some (.int .i64 (X : Nat)) := ((pA.trans pB).rd1 hlt _).trans r0
    have hlt10 : id < h10.n := Nat.lt_of_lt_of_le hlt (pA.trans pB).n
    have e6 : h10.ob h5.n = _ := (((p7.trans ps).trans (p9.trans pt)).ob _ (by omega)).trans eq5
    have l6 : h5.n < h10.n := by have := ((p7.trans ps).trans (p9.trans pt)).n; omega
    have l10 : h9.n < h10.n := by omega
    refine WC.draw' (by kernel_rfl) (by kernel_rfl) (.q 0 (.q 1 (.q 2 (.q 3 (.q 4 (.q 5 (.q 6 (.q 7 (.q 8 (.q 9 (.q 10 (.q 11 (.q 12 (.q 13 (.q 14 (.q 15 (.a 16 false (.q 17 (.q 18 (.q 19 (.q 20 (.a 21 false (.q 22 (.q 23 (.q 24 (.q 25 (.q 26 (.q 27 (.q 28 (.q 29 (.q 30 (.q 31 (.q 32 (.q 33 (.q 34 (.a 35 false (.q 36 (.q 37 (.q 38 (.q 39 (.q 41 (.a 40 false (.a 42 false (.q 43 (.q 44 (.q 45 (.done))))))))))))))))))))))))))))))))))))))))))))))) (by kernel_rfl) ?_
    simp (maxSteps := 1000000) -implicitDefEqProofs only [push_cast, seval, plen, tm, r10, hlt10]
    have xy : decide (IntKind.i64.wrap (((ml [⟨3, ⟨#[97, 98, 99]⟩, []⟩] B 0 0).length : Int) + (ml [⟨4, ⟨#[97, 98, 99]⟩, []⟩] B 0 0).length) = 1) = true := by
      rw [rb.1, rb.2.1]
      by_cases c : r < 3
      · rw [if_pos c, if_pos c]; decide
      · rw [if_neg c, if_neg c]; decide
    have xz : (decide (((ml [⟨3, ⟨#[97, 98, 99]⟩, []⟩] B 0 0).length : Int) = 1) == decide ((r : Int) < 3)) = true := by
      rw [rb.1]
      by_cases c : r < 3
      · rw [if_pos c, decide_eq_true (show (r : Int) < 3 by omega)]; decide
      · rw [if_neg c, decide_eq_false (show ¬ (r : Int) < 3 by omega)]; decide
    simp (maxSteps := 1000000) -implicitDefEqProofs only [push_cast, seval, xy, xz, plen, tm, r10, hlt10]
    with_reducible refine ends_toZ (i := 0) (z := 0) rp_any rfl (Nat.zero_le _) (by omega) (by have : (⟨#[46]⟩ : ByteArray).size = 1 := rfl; omega) (fun v11 h11 r11 p11 => ?_)
    have r11 := r11.rde (fun _ => rfl)
    with_reducible refine Exists.elim r11 (fun A11 r11 => ?_)
    with_reducible refine Exists.elim r11 (fun c11 r11 => ?_)
    have e11 := r11.1
    clear r11
    rw [show ([⟨2, ⟨#[]⟩, []⟩] : List Pc).length - 1 = 0 from rfl, rb.2.2] at e11
    subst e11
    simp (maxSteps := 1000000) -implicitDefEqProofs only [push_cast, seval]
    refine And.intro (p11.ob _ hlt10) ?_
    with_reducible refine ends_toZ (i := 0) (z := 0) rp_any rfl (Nat.zero_le _) (by decide) (by have : (⟨#[46]⟩ : ByteArray).size = 1 := rfl; omega) (fun v12 h12 r12 p12 => ?_)
    have r12 := r12.rde (fun _ => rfl)
    with_reducible refine Exists.elim r12 (fun A12 r12 => ?_)
    with_reducible refine Exists.elim r12 (fun c12 r12 => ?_)
    have e12 := r12.1
    clear r12
    rw [show ([⟨2, ⟨#[]⟩, []⟩] : List Pc).length - 1 = 0 from rfl, any_none] at e12
    subst e12
    have e6' : h12.ob h5.n = _ := ((p11.trans p12).ob _ l6).trans e6
    have l6' : h5.n < h12.n := by have := (p11.trans p12).n; omega
    have e10' : h12.ob h9.n = _ := ((p11.trans p12).ob _ l10).trans e10
    have l10' : h9.n < h12.n := by have := (p11.trans p12).n; omega
    have wz12 := wz.pre (pt.trans (p11.trans p12))
    have q12 := p12.ob _ (Nat.lt_of_lt_of_le hlt10 p11.n)
    simp (maxSteps := 1000000) -implicitDefEqProofs only [push_cast, seval]
    refine And.intro q12 ?_
    simp (maxSteps := 1000000) -implicitDefEqProofs only [push_cast, seval, e6', rd_of e6', rd1_of e6', l6', e10', rd_of e10', rd1_of e10', l10', u1, c1, u3, c3, all1, beq_self_eq_true]
    with_reducible refine CD.to (PatternOk_zi rz M h12 wz12 zm) ?_
    simp (maxSteps := 1000000) -implicitDefEqProofs only [push_cast, seval, e6', rd_of e6', rd1_of e6', l6', e10', rd_of e10', rd1_of e10', l10', u1, c1, u3, c3, all1]
    with_reducible refine CD.to (PatternOk_zs rz M h12 wz12 zm) ?_
    simp (maxSteps := 1000000) -implicitDefEqProofs only [push_cast, seval, beq_self_eq_true]
  · with_reducible refine Exists.elim hy (fun rq hy => ?_)
    with_reducible refine Exists.elim hy (fun LQ hy => ?_)
    have et := hy.1
    have ev := hy.2.1
    have wq := hy.2.2
    clear hy hv2
    subst ev
    have u1 := wq.r.one
    have c1 := wq.r.cell1
    simp (maxSteps := 1000000) -implicitDefEqProofs only [push_cast, seval, u1, c1, all1]
    have pq : Pre h5 ((h5.alloc (.cells [.slice none 0 0] .solo h5.n)).set h5.n (.cells [rq] .solo h5.n)) := ((Pre.refl h5).alloc _).set (Nat.le_refl _) _
    have eq5 : ((h5.alloc (.cells [.slice none 0 0] .solo h5.n)).set h5.n (.cells [rq] .solo h5.n)).ob h5.n = .cells [rq] .solo h5.n := set_same _ _
    have nq5 : ((h5.alloc (.cells [.slice none 0 0] .solo h5.n)).set h5.n (.cells [rq] .solo h5.n)).n = h5.n + 1 := rfl
    generalize ((h5.alloc (.cells [.slice none 0 0] .solo h5.n)).set h5.n (.cells [rq] .solo h5.n)) = h6 at *
    with_reducible refine CC.mono (ReadPattern_s t h6 (by omega)) (fun v h7 hv => ?_)
    have p7 := hv.1
    have hv2 := hv.2
    clear hv
    have hw : ∃ rw2, v = .tuple #[.agg #[rw2], .bool true] ∧ Sim.one rw2 = true ∧ rw2.cells = #[rw2] := by
      rcases hv2 with ⟨e, ev⟩ | ⟨rv2, L2, e, ev, w2⟩
      · rw [et] at e; cases e
      · exact ⟨_, ev, w2.r.one, w2.r.cell1⟩
    clear hv2
    with_reducible refine Exists.elim hw (fun rw2 hw => ?_)
    have ev2 := hw.1
    have u2 := hw.2.1
    have c2 := hw.2.2
    clear hw
    subst ev2
    simp (maxSteps := 1000000) -implicitDefEqProofs only [push_cast, seval, u2, c2, all1]
    have ps : Pre h7 ((h7.alloc (.cells [.slice none 0 0] .solo h7.n)).set h7.n (.cells [rw2] .solo h7.n)) := ((Pre.refl h7).alloc _).set (Nat.le_refl _) _
    generalize ((h7.alloc (.cells [.slice none 0 0] .solo h7.n)).set h7.n (.cells [rw2] .solo h7.n)) = h8 at *
    with_reducible refine CC.mono (DrawPatternOk_c A c l h8 (hR.pre big (((((p1.trans px).trans p3).trans p4).trans p5').trans (((p5.trans pq).trans p7).trans ps))) hl hn) (fun v h9 hv => ?_)
    have p9 := hv.2
    have hv := hv.1
    with_reducible refine Exists.elim hv (fun rz hv => ?_)
    with_reducible refine Exists.elim hv (fun M hv => ?_)
    have ev := hv.1
    have wz := hv.2.1
    have zm := hv.2.2
    clear hv
    subst ev
    have u3 := wz.r.one
    have c3 : rz.cells = #[rz] := by rcases wz.r with ⟨c, rfl, _⟩ | ⟨id, off, c, rfl, _, _⟩ <;> rfl
    simp (maxSteps := 1000000) -implicitDefEqProofs only [push_cast, seval, u3, c3, all1]
    have pt : Pre h9 ((h9.alloc (.cells [.slice none 0 0] .solo h9.n)).set h9.n (.cells [rz] .solo h9.n)) := ((Pre.refl h9).alloc _).set (Nat.le_refl _) _
    have e10 : ((h9.alloc (.cells [.slice none 0 0] .solo h9.n)).set h9.n (.cells [rz] .solo h9.n)).ob h9.n = .cells [rz] .solo h9.n := set_same _ _
    have n10 : ((h9.alloc (.cells [.slice none 0 0] .solo h9.n)).set h9.n (.cells [rz] .solo h9.n)).n = h9.n + 1 := rfl
    generalize ((h9.alloc (.cells [.slice none 0 0] .solo h9.n)).set h9.n (.cells [rz] .solo h9.n)) = h10 at *
    have pA := ((px.trans p3).trans p4).trans (p5'.trans p5)
    have pB := ((pq.trans p7).trans ps).trans (p9.trans pt)
    have r10 : rd1 h10 id off = some (.int .i64 (X : Nat)) := ((pA.trans pB).rd1 hlt _).trans r0
    have hlt10 : id < h10.n := Nat.lt_of_lt_of_le hlt (pA.trans pB).n
    have e6 : h10.ob h5.n = _ := (((p7.trans ps).trans (p9.trans pt)).ob _ (by omega)).trans eq5
    have l6 : h5.n < h10.n := by have := ((p7.trans ps).trans (p9.trans pt)).n; omega
    have l10 : h9.n < h10.n := by omega
    refine WC.draw' (by kernel_rfl) (by kernel_rfl) (.q 0 (.q 1 (.q 2 (.q 3 (.q 4 (.q 5 (.q 6 (.q 7 (.q 8 (.q 9 (.q 10 (.q 11 (.q 12 (.q 13 (.q 14 (.q 15 (.a 16 false (.q 17 (.q 18 (.q 19 (.q 20 (.a 21 false (.q 22 (.q 23 (.q 24 (.q 25 (.q 26 (.q 27 (.q 28 (.q 29 (.q 30 (.q 31 (.q 32 (.q 33 (.q 34 (.a 35 false (.q 36 (.q 37 (.q 38 (.q 39 (.q 41 (.a 40 false (.a 42 false (.q 43 (.q 44 (.q 45 (.done))))))))))))))))))))))))))))))))))))))))))))))) (by kernel_rfl) ?_
    simp (maxSteps := 1000000) -implicitDefEqProofs only [push_cast, seval, plen, tm, r10, hlt10]
    have xy : decide (IntKind.i64.wrap (((ml [⟨3, ⟨#[97, 98, 99]⟩, []⟩] B 0 0).length : Int) + (ml [⟨4, ⟨#[97, 98, 99]⟩, []⟩] B 0 0).length) = 1) = true := by
      rw [rb.1, rb.2.1]
      by_cases c : r < 3
      · rw [if_pos c, if_pos c]; decide
      · rw [if_neg c, if_neg c]; decide
    have xz : (decide (((ml [⟨3, ⟨#[97, 98, 99]⟩, []⟩] B 0 0).length : Int) = 1) == decide ((r : Int) < 3)) = true := by
      rw [rb.1]
      by_cases c : r < 3
      · rw [if_pos c, decide_eq_true (show (r : Int) < 3 by omega)]; decide
      · rw [if_neg c, decide_eq_false (show ¬ (r : Int) < 3 by omega)]; decide
    simp (maxSteps := 1000000) -implicitDefEqProofs only [push_cast, seval, xy, xz, plen, tm, r10, hlt10]
    with_reducible refine ends_toZ (i := 0) (z := 0) rp_any rfl (Nat.zero_le _) (by omega) (by have : (⟨#[46]⟩ : ByteArray).size = 1 := rfl; omega) (fun v11 h11 r11 p11 => ?_)
    have r11 := r11.rde (fun _ => rfl)
    with_reducible refine Exists.elim r11 (fun A11 r11 => ?_)
    with_reducible refine Exists.elim r11 (fun c11 r11 => ?_)
    have e11 := r11.1
    clear r11
    rw [show ([⟨2, ⟨#[]⟩, []⟩] : List Pc).length - 1 = 0 from rfl, rb.2.2] at e11
    subst e11
    simp (maxSteps := 1000000) -implicitDefEqProofs only [push_cast, seval]
    refine And.intro (p11.ob _ hlt10) ?_
    with_reducible refine ends_toZ (i := 0) (z := 0) rp_any rfl (Nat.zero_le _) (by decide) (by have : (⟨#[46]⟩ : ByteArray).size = 1 := rfl; omega) (fun v12 h12 r12 p12 => ?_)
    have r12 := r12.rde (fun _ => rfl)
    with_reducible refine Exists.elim r12 (fun A12 r12 => ?_)
    with_reducible refine Exists.elim r12 (fun c12 r12 => ?_)
    have e12 := r12.1
    clear r12
    rw [show ([⟨2, ⟨#[]⟩, []⟩] : List Pc).length - 1 = 0 from rfl, any_none] at e12
    subst e12
    have e6' : h12.ob h5.n = _ := ((p11.trans p12).ob _ l6).trans e6
    have l6' : h5.n < h12.n := by have := (p11.trans p12).n; omega
    have e10' : h12.ob h9.n = _ := ((p11.trans p12).ob _ l10).trans e10
    have l10' : h9.n < h12.n := by have := (p11.trans p12).n; omega
    have wz12 := wz.pre (pt.trans (p11.trans p12))
    have q12 := p12.ob _ (Nat.lt_of_lt_of_le hlt10 p11.n)
    simp (maxSteps := 1000000) -implicitDefEqProofs only [push_cast, seval]
    refine And.intro q12 ?_
    simp (maxSteps := 1000000) -implicitDefEqProofs only [push_cast, seval, e6', rd_of e6', rd1_of e6', l6', e10', rd_of e10', rd1_of e10', l10', u1, c1, u3, c3, all1, beq_self_eq_true]
    have kq := readP_ok et
    rw [List.length_map] at kq
    with_reducible refine CD.to (PatternOk_c rq LQ h12 (wq.pre (pq.trans (((p7.trans ps).trans (p9.trans pt)).trans (p11.trans p12)))) kq.1 kq.2.1 kq.2.2) ?_
    simp (maxSteps := 1000000) -implicitDefEqProofs only [push_cast, seval, e6', rd_of e6', rd1_of e6', l6', e10', rd_of e10', rd1_of e10', l10', u1, c1, u3, c3, all1]
    with_reducible refine CD.to (PatternOk_zi rz M h12 wz12 zm) ?_
    simp (maxSteps := 1000000) -implicitDefEqProofs only [push_cast, seval, e6', rd_of e6', rd1_of e6', l6', e10', rd_of e10', rd1_of e10', l10', u1, c1, u3, c3, all1]
    with_reducible refine CD.to (PatternOk_zs rz M h12 wz12 zm) ?_
    simp (maxSteps := 1000000) -implicitDefEqProofs only [push_cast, seval, beq_self_eq_true]
theorem law_Sets0 (A : Option Addr) (c : Nat) (l : List Nat) (h : AH) (hR : RdE h A 1 byV l) (hl : ∀ n ∈ l, n < 256) (hn : l.length ≤ maxLen) : CE Try.prog 9 [.slice A l.length c] h fun v _ => v = .bool true := by
  by_cases hb : l.length ≤ 1048576
  · exact law_Sets A c l h hR hl hb
  refine CE.ofN Try.func9 Try.ntmps9 Try.results9 rfl (by kernel_rfl) ?_
  simp (maxSteps := 1000000) -implicitDefEqProofs only [push_cast, seval]
  with_reducible refine CD.to (big_c A l.length c h) ?_
  have nb : decide ((1048576 : Int) < l.length) = true := decide_eq_true (by omega)
  simp (maxSteps := 1000000) -implicitDefEqProofs only [push_cast, seval, nb]
end Go.Proofs.Ytciajhpeikemoaa
