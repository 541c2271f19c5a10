/- Parts of the proof of the row: the ground, contracts of the functions that it reaches (L63, L64, L65, N7, Q2, Q3, Q4, Q5, SimR2, Q6, P17, Q7, Q8, P18, Q9, Q10). Conditions: those that each theorem names. -/
import Derived.Test.YtciajhpeikemoaaB5
namespace Go.Proofs.Ytciajhpeikemoaa
open Go Go.Sim Go.Proofs
set_option linter.unusedSimpArgs false
set_option linter.unusedVariables false
set_option maxRecDepth 100000
set_option maxHeartbeats 1000000
def LqS (s : ByteArray) (k0 n0 p : Nat) (h : AH) (m mg : Nat) (cont : Nat → Nat → List Pc → Nat → PRes) (res : PRes) (a : Nat × Nat × List Pc × Nat) (h' : AH) : Prop :=
  Fr n0 h h' ∧ ((k0 ≤ a.2.1 ∧ s.size - a.2.1 < a.1 ∧ Rg (cS s) s n0 p h' a.2.1 a.2.2.1 ∧ cont a.1 a.2.1 a.2.2.1 a.2.2.2 = res ∧ a.2.2.1.length + 2 * (s.size - a.2.1) ≤ mg) ∨ (a.1 = 0 ∧ res = none ∧ Rb (cS s) s n0 p h' m))
theorem isAt_byte {s : ByteArray} {k c : Nat} (h : isAt s k c = true) : (byteAt s k).toNat = c := by
  simp only [isAt, Bool.and_eq_true, beq_iff_eq] at h; exact h.2
theorem many_os (s : ByteArray) (hs : s.size ≤ 24) (lo : Nat) (alt : Nat → List Pc → PRes) (ha : OweS 47 s (lo + 1) alt) (hg : GoodR 1 s alt) : OweS 150 s lo (pThing alt s) := by
  intro n0 p k out h hlo G hj
  have hA := thing_s n0 p s k out h hs alt (fun n0 p k' out h hk => ha n0 p k' out h (by omega)) hg G hj
  have hb0 := fun k' o' r => pBase_gd hg k out k' o' r G.hi
  have hp := G.lt
  have hn := G.le
  have hk := G.hi
  generalize hm : out.length + 2 * (s.size - k) = m at *
  have eP : pThing alt s k out = pK (pBase alt s k out) (fun k o r => some (pStars s (s.size + 1) k o r)) := rfl
  rw [eP]
  generalize pBase alt s k out = res0 at *
  refine CC.ofN Try.func150 Try.ntmps150 Try.results150 rfl (by decide) (by kernel_rfl) ?_
  simp (maxSteps := 1000000) -implicitDefEqProofs only [push_cast, seval]
  with_reducible refine CC.mono hA (fun y h1 hy => ?_)
  have key : ∃ (a : Nat × Nat × List Pc × Nat) (res : PRes), LqS s k n0 p h m m (fun g k o r => some (pStars s g k o r)) res a h1 ∧ y = .int .i64 (a.2.2.2 : Nat) ∧ res = pK res0 (fun k o r => some (pStars s (s.size + 1) k o r)) := by
    refine hy.cases (fun k1 o1 r1 er ey f1 G1 => ?_) (fun er r1 ey f1 B1 => ?_)
    · subst er
      have hb1 := (hb0 _ _ _ rfl).pot
      exact ⟨(s.size + 1, k1, o1, r1), _, ⟨f1, .inl ⟨(hb0 _ _ _ rfl).le, by show s.size - k1 < s.size + 1; omega, G1, rfl, by show o1.length + 2 * (s.size - k1) ≤ m; omega⟩⟩, ey, rfl⟩
    · subst er
      exact ⟨(0, 0, [], r1), none, ⟨f1, .inr ⟨rfl, rfl, B1⟩⟩, ey, rfl⟩
  clear hy hA
  with_reducible refine Exists.elim key (fun a0 key => ?_)
  with_reducible refine Exists.elim key (fun res key => ?_)
  have hJ0 := key.1
  have ey := key.2.1
  have er := key.2.2
  clear key
  rw [← er]
  subst ey
  clear er hb0
  simp (maxSteps := 1000000) -implicitDefEqProofs only [push_cast, seval]
  refine WC.loopA (by kernel_rfl) [3] [4, 7, 8, 9, 10, 11, 12, 13, 14, 15, 16, 17, 18, 19, 20, 21, 22, 23, 24, 25, 26, 27, 28, 29, 30, 31, 32, 33, 34, 35, 36, 37, 38, 39, 40, 41, 42, 43, 44, 45, 46, 47, 48, 49, 50] (fun a : Nat × Nat × List Pc × Nat => [.int .i64 (a.2.2.2 : Nat)]) (LqS s k n0 p h m m (fun g k o r => some (pStars s g k o r)) res) (fun a => a.1) a0 (by kernel_rfl) hJ0 ?_
  clear hJ0
  intro a g h2 hJ
  unfold LqS at hJ
  have f2 := hJ.1
  with_reducible refine Or.elim hJ.2 (fun hl => ?_) (fun hl => ?_)
  · have hk0 := hl.1
    have hg2 := hl.2.1
    have G2 := hl.2.2.1
    have hr2 := hl.2.2.2.1
    have hb2 := hl.2.2.2.2
    clear hl hJ
    simp only at hr2
    have hgs : ∃ g0, a.1 = g0 + 1 := ⟨a.1 - 1, by omega⟩
    with_reducible refine Exists.elim hgs (fun g0 hg0 => ?_)
    rw [hg0, pStars] at hr2
    have hp2 := G2.lt
    have hk2 := G2.hi
    with_reducible refine G2.cell (fun v L e w hL hl2 => ?_)
    have j1 := is_s p s a.2.1 false v 42 42 rfl h2 e hp2 hs
    have j2 := is_s p s a.2.1 false v 43 43 rfl h2 e hp2 hs
    have j3 := is_s p s a.2.1 false v 63 63 rfl h2 e hp2 hs
    simp only [Bool.not_false, Bool.true_and] at j1 j2 j3
    simp only [cS] at e
    obtain ⟨k3, ek3⟩ : ∃ k3, k3 = a.2.1 + 1 := ⟨_, rfl⟩
    rw [← ek3] at hr2
    have w3 : IntKind.i64.wrap ((a.2.1 : Int) + 1) = (k3 : Int) := by rw [wrapSucc (by omega), ek3]
    have hR : a.2.1 < s.size → Rg (cS s) s n0 p (h2.set p (.cells [.string s, .int .i64 (k3 : Nat), .bool false, v] .solo p)) k3 a.2.2.1 := fun hx => by rw [← hL]; exact Rg.at (C := cS s) hp2 hn w (by omega)
    simp (maxSteps := 1000000) -implicitDefEqProofs only [push_cast, seval]
    with_reducible refine CD.to j1 ?_
    cases c1 : isAt s a.2.1 42 with
    | true =>
      have hlt := isAt_lt c1
      have hby := isAt_byte c1
      simp (maxSteps := 1000000) -implicitDefEqProofs only [push_cast, seval]
      refine WC.draw' (by kernel_rfl) (by kernel_rfl) (.q 0 (.q 1 (.q 2 (.q 3 (.q 4 (.q 5 (.q 6 (.q 7 (.q 8 (.q 9 (.done))))))))))) (by kernel_rfl) ?_
      simp (maxSteps := 1000000) -implicitDefEqProofs only [push_cast, seval, e, rd_of e, rd1_of e, hp2]
      repeat (with_reducible refine And.intro ?_ ?_; · (first | omega | decide))
      simp (maxSteps := 1000000) -implicitDefEqProofs only [push_cast, seval, e, rd_of e, rd1_of e, hp2, hby]
      refine WC.draw' (by kernel_rfl) (by kernel_rfl) (.q 0 (.q 1 (.q 2 (.q 3 (.q 4 (.q 5 (.q 6 (.q 7 (.q 8 (.q 9 (.done))))))))))) (by kernel_rfl) ?_
      simp (maxSteps := 1000000) -implicitDefEqProofs only [push_cast, seval, e, rd_of e, rd1_of e, hp2]
      repeat (with_reducible refine And.intro ?_ ?_; · (first | omega | decide))
      simp (maxSteps := 1000000) -implicitDefEqProofs only [push_cast, seval, e, rd_of e, rd1_of e, hp2, hby, w3]
      have hU := putGs1 n0 p s k3 _ 7 a.2.2.2 7 rfl _ (hR hlt) (by omega)
      simp only [n_set] at hU
      with_reducible refine CC.mono hU (fun y h4 hy => ?_)
      clear hU
      have ey := hy.1
      have f4 := hy.2.1
      have G4 := hy.2.2
      clear hy
      subst ey
      simp (maxSteps := 1000000) -implicitDefEqProofs only [push_cast, seval]
      simp only [c1, if_true, Bool.false_eq_true, if_false] at hr2
      refine ⟨(g0, k3, a.2.2.1 ++ ([⟨7, ⟨#[]⟩, [a.2.2.2]⟩] : List Pc), a.2.2.1.length), by kernel_rfl, ⟨f2.trans (((Fr.refl _ _).set hn _).trans f4), .inl ⟨by show k ≤ k3; omega, by show s.size - k3 < g0; omega, G4, hr2, by show (a.2.2.1 ++ [_]).length + 2 * (s.size - k3) ≤ m; rw [List.length_append]; simp only [List.length_cons, List.length_nil]; omega⟩⟩, by show g0 < a.1; omega⟩
    | false =>
      simp (maxSteps := 1000000) -implicitDefEqProofs only [push_cast, seval]
      with_reducible refine CD.to j2 ?_
      cases c2 : isAt s a.2.1 43 with
      | true =>
        have hlt := isAt_lt c2
        have hby := isAt_byte c2
        simp (maxSteps := 1000000) -implicitDefEqProofs only [push_cast, seval]
        refine WC.draw' (by kernel_rfl) (by kernel_rfl) (.q 0 (.q 1 (.q 2 (.q 3 (.q 4 (.q 5 (.q 6 (.q 7 (.q 8 (.q 9 (.done))))))))))) (by kernel_rfl) ?_
        simp (maxSteps := 1000000) -implicitDefEqProofs only [push_cast, seval, e, rd_of e, rd1_of e, hp2]
        repeat (with_reducible refine And.intro ?_ ?_; · (first | omega | decide))
        simp (maxSteps := 1000000) -implicitDefEqProofs only [push_cast, seval, e, rd_of e, rd1_of e, hp2, hby]
        refine WC.draw' (by kernel_rfl) (by kernel_rfl) (.q 0 (.q 1 (.q 2 (.q 3 (.q 4 (.q 5 (.q 6 (.q 7 (.q 8 (.q 9 (.done))))))))))) (by kernel_rfl) ?_
        simp (maxSteps := 1000000) -implicitDefEqProofs only [push_cast, seval, e, rd_of e, rd1_of e, hp2]
        repeat (with_reducible refine And.intro ?_ ?_; · (first | omega | decide))
        simp (maxSteps := 1000000) -implicitDefEqProofs only [push_cast, seval, e, rd_of e, rd1_of e, hp2, hby, w3]
        have hU := putGs1 n0 p s k3 _ 8 a.2.2.2 8 rfl _ (hR hlt) (by omega)
        simp only [n_set] at hU
        with_reducible refine CC.mono hU (fun y h4 hy => ?_)
        clear hU
        have ey := hy.1
        have f4 := hy.2.1
        have G4 := hy.2.2
        clear hy
        subst ey
        simp (maxSteps := 1000000) -implicitDefEqProofs only [push_cast, seval]
        simp only [c1, c2, if_true, Bool.false_eq_true, if_false] at hr2
        refine ⟨(g0, k3, a.2.2.1 ++ ([⟨8, ⟨#[]⟩, [a.2.2.2]⟩] : List Pc), a.2.2.1.length), by kernel_rfl, ⟨f2.trans (((Fr.refl _ _).set hn _).trans f4), .inl ⟨by show k ≤ k3; omega, by show s.size - k3 < g0; omega, G4, hr2, by show (a.2.2.1 ++ [_]).length + 2 * (s.size - k3) ≤ m; rw [List.length_append]; simp only [List.length_cons, List.length_nil]; omega⟩⟩, by show g0 < a.1; omega⟩
      | false =>
        simp (maxSteps := 1000000) -implicitDefEqProofs only [push_cast, seval]
        with_reducible refine CD.to j3 ?_
        cases c3 : isAt s a.2.1 63 with
        | true =>
          have hlt := isAt_lt c3
          have hby := isAt_byte c3
          simp (maxSteps := 1000000) -implicitDefEqProofs only [push_cast, seval]
          refine WC.draw' (by kernel_rfl) (by kernel_rfl) (.q 0 (.q 1 (.q 2 (.q 3 (.q 4 (.q 5 (.q 6 (.q 7 (.q 8 (.q 9 (.done))))))))))) (by kernel_rfl) ?_
          simp (maxSteps := 1000000) -implicitDefEqProofs only [push_cast, seval, e, rd_of e, rd1_of e, hp2]
          repeat (with_reducible refine And.intro ?_ ?_; · (first | omega | decide))
          simp (maxSteps := 1000000) -implicitDefEqProofs only [push_cast, seval, e, rd_of e, rd1_of e, hp2, hby]
          refine WC.draw' (by kernel_rfl) (by kernel_rfl) (.q 0 (.q 1 (.q 2 (.q 3 (.q 4 (.q 5 (.q 6 (.q 7 (.q 8 (.q 9 (.done))))))))))) (by kernel_rfl) ?_
          simp (maxSteps := 1000000) -implicitDefEqProofs only [push_cast, seval, e, rd_of e, rd1_of e, hp2]
          repeat (with_reducible refine And.intro ?_ ?_; · (first | omega | decide))
          simp (maxSteps := 1000000) -implicitDefEqProofs only [push_cast, seval, e, rd_of e, rd1_of e, hp2, hby, w3]
          have hU := putGs1 n0 p s k3 _ 9 a.2.2.2 9 rfl _ (hR hlt) (by omega)
          simp only [n_set] at hU
          with_reducible refine CC.mono hU (fun y h4 hy => ?_)
          clear hU
          have ey := hy.1
          have f4 := hy.2.1
          have G4 := hy.2.2
          clear hy
          subst ey
          simp (maxSteps := 1000000) -implicitDefEqProofs only [push_cast, seval]
          simp only [c1, c2, c3, if_true, Bool.false_eq_true, if_false] at hr2
          refine ⟨(g0, k3, a.2.2.1 ++ ([⟨9, ⟨#[]⟩, [a.2.2.2]⟩] : List Pc), a.2.2.1.length), by kernel_rfl, ⟨f2.trans (((Fr.refl _ _).set hn _).trans f4), .inl ⟨by show k ≤ k3; omega, by show s.size - k3 < g0; omega, G4, hr2, by show (a.2.2.1 ++ [_]).length + 2 * (s.size - k3) ≤ m; rw [List.length_append]; simp only [List.length_cons, List.length_nil]; omega⟩⟩, by show g0 < a.1; omega⟩
        | false =>
          simp (maxSteps := 1000000) -implicitDefEqProofs only [push_cast, seval]
          simp only [c1, c2, c3, Bool.false_eq_true, if_false] at hr2
          rw [← hr2]
          exact Ro.some f2 G2
  · have hB := hl.2.2
    have hr := hl.2.1
    clear hl hJ
    have hp2 := hB.lt
    with_reducible refine hB.cell (fun k v cs j a e g d c f => ?_)
    have j1 := is_s p s k true v 42 42 rfl h2 e hp2 hs
    have j2 := is_s p s k true v 43 43 rfl h2 e hp2 hs
    have j3 := is_s p s k true v 63 63 rfl h2 e hp2 hs
    simp only [Bool.not_true, Bool.false_and] at j1 j2 j3
    simp (maxSteps := 1000000) -implicitDefEqProofs only [push_cast, seval]
    with_reducible refine CD.to j1 ?_
    simp (maxSteps := 1000000) -implicitDefEqProofs only [push_cast, seval]
    with_reducible refine CD.to j2 ?_
    simp (maxSteps := 1000000) -implicitDefEqProofs only [push_cast, seval]
    with_reducible refine CD.to j3 ?_
    simp (maxSteps := 1000000) -implicitDefEqProofs only [push_cast, seval]
    rw [hr]
    exact Ro.none f2 hB
end Go.Proofs.Ytciajhpeikemoaa
namespace Go.Proofs.Ytciajhpeikemoaa
open Go Go.Sim Go.Proofs
set_option linter.unusedSimpArgs false
set_option linter.unusedVariables false
set_option maxRecDepth 100000
set_option maxHeartbeats 1000000
theorem row_os (s : ByteArray) (hs : s.size ≤ 24) (lo : Nat) (th : Nat → List Pc → PRes) (ht : OweS 150 s lo th) (hg : GoodR 3 s th) : OweS 100 s lo (pRow th s) := by
  intro n0 p k out h hlo G hj
  have hA := ht n0 p k out h hlo G hj
  have hb0 := fun k' o' r => hg k out k' o' r G.hi
  have hp := G.lt
  have hn := G.le
  have hk := G.hi
  have hz : k ≤ s.size := G.hi
  generalize hm : out.length + 2 * (s.size - k) = m at *
  rw [pRow_eq]
  with_reducible refine G.cell (fun v L e w hL hl => ?_)
  simp only [cS] at e
  have hput := putNs n0 p s k out 12 12 rfl ⟨#[]⟩ h G (by omega)
  by_cases hst : pStop s k = true
  · rw [if_pos hst]
    simp only [pStop, Bool.or_eq_true, decide_eq_true_eq] at hst
    refine CC.ofN Try.func100 Try.ntmps100 Try.results100 rfl (by decide) (by kernel_rfl) ?_
    simp (maxSteps := 1000000) -implicitDefEqProofs only [push_cast, seval]
    refine WC.draw' (by kernel_rfl) (by kernel_rfl) (.q 0 (.q 1 (.q 2 (.q 3 (.q 4 (.q 5 (.q 6 (.q 7 (.q 8 (.q 9 (.q 10 (.q 11 (.q 12 (.q 13 (.q 14 (.q 15 (.q 16 (.q 17 (.q 18 (.q 19 (.q 20 (.q 21 (.q 22 (.q 23 (.q 24 (.q 25 (.q 26 (.q 27 (.q 28 (.q 29 (.q 30 (.q 31 (.q 32 (.q 33 (.done))))))))))))))))))))))))))))))))))) (by kernel_rfl) ?_
    simp (maxSteps := 1000000) -implicitDefEqProofs only [push_cast, seval, e, rd_of e, rd1_of e, hp]
    with_reducible refine bcase_d (fun hb => ?_) (fun hb => ?_)
    · simp (maxSteps := 1000000) -implicitDefEqProofs only [push_cast, seval, e, rd_of e, rd1_of e, hp]
      with_reducible refine CC.mono hput (fun y h2 hy => ?_)
      have ey := hy.1
      have f2 := hy.2.1
      have G2 := hy.2.2
      clear hy
      subst ey
      simp (maxSteps := 1000000) -implicitDefEqProofs only [push_cast, seval]
      exact Ro.some f2 G2
    have hkl : k < s.size := by omega
    simp (maxSteps := 1000000) -implicitDefEqProofs only [push_cast, seval, e, rd_of e, rd1_of e, hp]
    repeat (with_reducible refine And.intro ?_ ?_; · (first | omega | decide))
    with_reducible refine bcase_d (fun hb1 => ?_) (fun hb1 => ?_)
    · simp (maxSteps := 1000000) -implicitDefEqProofs only [push_cast, seval, e, rd_of e, rd1_of e, hp]
      with_reducible refine CC.mono hput (fun y h2 hy => ?_)
      have ey := hy.1
      have f2 := hy.2.1
      have G2 := hy.2.2
      clear hy
      subst ey
      simp (maxSteps := 1000000) -implicitDefEqProofs only [push_cast, seval]
      exact Ro.some f2 G2
    simp (maxSteps := 1000000) -implicitDefEqProofs only [push_cast, seval, e, rd_of e, rd1_of e, hp]
    repeat (with_reducible refine And.intro ?_ ?_; · (first | omega | decide))
    with_reducible refine bcase_d (fun hb2 => ?_) (fun hb2 => ?_)
    · simp (maxSteps := 1000000) -implicitDefEqProofs only [push_cast, seval, e, rd_of e, rd1_of e, hp]
      with_reducible refine CC.mono hput (fun y h2 hy => ?_)
      have ey := hy.1
      have f2 := hy.2.1
      have G2 := hy.2.2
      clear hy
      subst ey
      simp (maxSteps := 1000000) -implicitDefEqProofs only [push_cast, seval]
      exact Ro.some f2 G2
    · exfalso
      rw [isAt_of hkl, isAt_of hkl, beq_iff_eq, beq_iff_eq] at hst
      omega
  · rw [if_neg hst]
    simp only [pStop, Bool.or_eq_true, decide_eq_true_eq, not_or, Bool.not_eq_true] at hst
    have n1 := hst.1.1
    have c1 := hst.1.2
    have c2 := hst.2
    have hkl : k < s.size := by omega
    rw [isAt_of hkl, beq_eq_false_iff_ne] at c1 c2
    generalize th k out = res0 at *
    refine CC.ofN Try.func100 Try.ntmps100 Try.results100 rfl (by decide) (by kernel_rfl) ?_
    simp (maxSteps := 1000000) -implicitDefEqProofs only [push_cast, seval]
    refine WC.draw' (by kernel_rfl) (by kernel_rfl) (.q 0 (.q 1 (.q 2 (.q 3 (.q 4 (.q 5 (.q 6 (.q 7 (.q 8 (.q 9 (.q 10 (.q 11 (.q 12 (.q 13 (.q 14 (.q 15 (.q 16 (.q 17 (.q 18 (.q 19 (.q 20 (.q 21 (.q 22 (.q 23 (.q 24 (.q 25 (.q 26 (.q 27 (.q 28 (.q 29 (.q 30 (.q 31 (.q 32 (.q 33 (.done))))))))))))))))))))))))))))))))))) (by kernel_rfl) ?_
    simp (maxSteps := 1000000) -implicitDefEqProofs only [push_cast, seval, e, rd_of e, rd1_of e, hp]
    with_reducible refine bcase_d (fun hb => ?_) (fun hb => ?_)
    · exfalso; omega
    simp (maxSteps := 1000000) -implicitDefEqProofs only [push_cast, seval, e, rd_of e, rd1_of e, hp]
    repeat (with_reducible refine And.intro ?_ ?_; · (first | omega | decide))
    with_reducible refine bcase_d (fun hb => ?_) (fun hb => ?_)
    · exfalso; omega
    simp (maxSteps := 1000000) -implicitDefEqProofs only [push_cast, seval, e, rd_of e, rd1_of e, hp]
    repeat (with_reducible refine And.intro ?_ ?_; · (first | omega | decide))
    with_reducible refine bcase_d (fun hb => ?_) (fun hb => ?_)
    · exfalso; omega
    simp (maxSteps := 1000000) -implicitDefEqProofs only [push_cast, seval, e, rd_of e, rd1_of e, hp]
    with_reducible refine CC.mono hA (fun y h1 hy => ?_)
    have key : ∃ (a : Nat × Nat × List Pc × Nat) (res : PRes), LqS s k n0 p h m (m - 1) (pCats th s) res a h1 ∧ y = .int .i64 (a.2.2.2 : Nat) ∧ res = pK res0 (pCats th s (s.size + 1)) := by
      refine hy.cases (fun k1 o1 r1 er ey f1 G1 => ?_) (fun er r1 ey f1 B1 => ?_)
      · subst er
        have hb1 := (hb0 _ _ _ rfl).pot
        exact ⟨(s.size + 1, k1, o1, r1), _, ⟨f1, .inl ⟨(hb0 _ _ _ rfl).le, by show s.size - k1 < s.size + 1; omega, G1, rfl, by show o1.length + 2 * (s.size - k1) ≤ m - 1; omega⟩⟩, ey, rfl⟩
      · subst er
        exact ⟨(0, 0, [], r1), none, ⟨f1, .inr ⟨rfl, rfl, B1⟩⟩, ey, rfl⟩
    clear hy hA
    with_reducible refine Exists.elim key (fun a0 key => ?_)
    with_reducible refine Exists.elim key (fun res key => ?_)
    have hJ0 := key.1
    have ey := key.2.1
    have er := key.2.2
    clear key
    rw [← er]
    subst ey
    clear er hb0
    simp (maxSteps := 1000000) -implicitDefEqProofs only [push_cast, seval]
    refine WC.loopA (by kernel_rfl) [3] [4, 44, 45, 46, 47, 48, 49, 50, 51, 52, 53, 54, 55, 56, 57, 58, 59, 60, 61, 62, 63, 64, 65, 66, 67, 68, 69, 70, 71, 72, 73, 74, 75, 76, 77, 78, 79, 80, 81, 82, 83, 84, 85, 86, 87, 88, 89, 90, 91, 92] (fun a : Nat × Nat × List Pc × Nat => [.int .i64 (a.2.2.2 : Nat)]) (LqS s k n0 p h m (m - 1) (pCats th s) res) (fun a => a.1) a0 (by kernel_rfl) hJ0 ?_
    clear hJ0 hput e w
    intro a g h2 hJ
    unfold LqS at hJ
    have f2 := hJ.1
    with_reducible refine Or.elim hJ.2 (fun hl => ?_) (fun hl => ?_)
    · have hk0 := hl.1
      have hg2 := hl.2.1
      have G2 := hl.2.2.1
      have hr2 := hl.2.2.2.1
      have hb2 := hl.2.2.2.2
      clear hl hJ
      have hgs : ∃ g0, a.1 = g0 + 1 := ⟨a.1 - 1, by omega⟩
      with_reducible refine Exists.elim hgs (fun g0 hg0 => ?_)
      rw [hg0, pCats_eq] at hr2
      have ex : pStop s a.2.1 = true → Ro (cS s) s n0 p h m res (.int .i64 (a.2.2.2 : Nat)) h2 := fun hs => by
        rw [if_pos hs] at hr2
        rw [← hr2]
        exact Ro.some f2 G2
      have hp2 := G2.lt
      have hk2 := G2.hi
      with_reducible refine G2.cell (fun v L e w hL hl2 => ?_)
      simp only [cS] at e
      simp (maxSteps := 1000000) -implicitDefEqProofs only [push_cast, seval]
      refine WC.draw' (by kernel_rfl) (by kernel_rfl) (.q 0 (.q 1 (.q 2 (.q 3 (.q 4 (.q 5 (.q 6 (.q 7 (.q 8 (.q 9 (.q 10 (.q 11 (.q 12 (.q 13 (.q 14 (.q 15 (.q 16 (.q 17 (.q 18 (.q 19 (.q 20 (.q 21 (.q 22 (.q 23 (.q 24 (.q 25 (.q 26 (.q 27 (.q 28 (.q 29 (.q 30 (.q 31 (.q 32 (.q 33 (.q 34 (.q 35 (.q 36 (.q 37 (.q 38 (.q 39 (.q 40 (.done)))))))))))))))))))))))))))))))))))))))))) (by kernel_rfl) ?_
      simp (maxSteps := 1000000) -implicitDefEqProofs only [push_cast, seval, e, rd_of e, rd1_of e, hp2]
      with_reducible refine bcase_d (fun hb => ?_) (fun hb => ?_)
      case refine_2 =>
        simp (maxSteps := 1000000) -implicitDefEqProofs only [push_cast, seval, e, rd_of e, rd1_of e, hp2]
        exact ex (by simp [pStop]; omega)
      have hkl2 : a.2.1 < s.size := by omega
      simp (maxSteps := 1000000) -implicitDefEqProofs only [push_cast, seval, e, rd_of e, rd1_of e, hp2]
      repeat (with_reducible refine And.intro ?_ ?_; · (first | omega | decide))
      with_reducible refine bcase_d (fun hb1 => ?_) (fun hb1 => ?_)
      · simp (maxSteps := 1000000) -implicitDefEqProofs only [push_cast, seval, e, rd_of e, rd1_of e, hp2]
        exact ex (by simp [pStop, isAt_of hkl2]; omega)
      simp (maxSteps := 1000000) -implicitDefEqProofs only [push_cast, seval, e, rd_of e, rd1_of e, hp2]
      repeat (with_reducible refine And.intro ?_ ?_; · (first | omega | decide))
      with_reducible refine bcase_d (fun hb2 => ?_) (fun hb2 => ?_)
      · simp (maxSteps := 1000000) -implicitDefEqProofs only [push_cast, seval, e, rd_of e, rd1_of e, hp2]
        exact ex (by simp [pStop, isAt_of hkl2]; omega)
      simp (maxSteps := 1000000) -implicitDefEqProofs only [push_cast, seval, e, rd_of e, rd1_of e, hp2]
      clear ex
      have hst : ¬ pStop s a.2.1 = true := by simp [pStop, isAt_of hkl2]; omega
      rw [if_neg hst] at hr2
      have hA := ht n0 p a.2.1 a.2.2.1 h2 (by omega) G2 (by omega)
      have hb0 := fun k' o' r => hg a.2.1 a.2.2.1 k' o' r G2.hi
      generalize th a.2.1 a.2.2.1 = res0 at *
      with_reducible refine CC.mono hA (fun y h3 hy => ?_)
      clear hA
      with_reducible refine hy.cases (fun k3 o3 r3 er ey f3 G3 => ?_) (fun er r3 ey f3 B3 => ?_)
      · clear hy
        subst er ey
        have GG := hb0 _ _ _ rfl
        have gp := GG.pot
        have gl := GG.lt (Nat.le_refl _)
        have gh := GG.hi
        clear hb0 GG
        simp (maxSteps := 1000000) -implicitDefEqProofs only [push_cast, seval]
        with_reducible refine CC.mono (putGs2 n0 p s _ _ 5 a.2.2.2 r3 5 rfl h3 G3 (by omega)) (fun y h4 hy => ?_)
        have ey := hy.1
        have f4 := hy.2.1
        have G4 := hy.2.2
        clear hy
        subst ey
        simp (maxSteps := 1000000) -implicitDefEqProofs only [push_cast, seval]
        refine ⟨(g0, k3, o3 ++ ([⟨5, ⟨#[]⟩, [a.2.2.2, r3]⟩] : List Pc), o3.length), by kernel_rfl, ⟨f2.trans (f3.trans f4), .inl ⟨by show k ≤ k3; omega, by show s.size - k3 < g0; omega, G4, hr2, by show (o3 ++ [_]).length + 2 * (s.size - k3) ≤ m - 1; rw [List.length_append]; simp only [List.length_cons, List.length_nil]; omega⟩⟩, by show g0 < a.1; omega⟩
      · clear hy
        subst er ey
        simp (maxSteps := 1000000) -implicitDefEqProofs only [push_cast, seval]
        with_reducible refine CC.mono (putBs2 n0 p _ s 5 a.2.2.2 r3 5 rfl h3 B3 (by omega)) (fun y h4 hy => ?_)
        with_reducible refine Exists.elim hy.1 (fun r4 ey => ?_)
        have f4 := hy.2.1
        have B4 := hy.2.2
        clear hy
        subst ey
        simp (maxSteps := 1000000) -implicitDefEqProofs only [push_cast, seval]
        refine ⟨(0, 0, [], r4), by kernel_rfl, ⟨f2.trans (f3.trans f4), .inr ⟨rfl, hr2.symm, B4.mono (by omega)⟩⟩, by show 0 < a.1; omega⟩
    · have hB := hl.2.2
      have hr := hl.2.1
      clear hl hJ
      have hp2 := hB.lt
      with_reducible refine hB.cell (fun k v cs j a e g d c f => ?_)
      simp only [cS] at e
      simp (maxSteps := 1000000) -implicitDefEqProofs only [push_cast, seval]
      refine WC.draw' (by kernel_rfl) (by kernel_rfl) (.q 0 (.q 1 (.q 2 (.q 3 (.q 4 (.q 5 (.q 6 (.q 7 (.q 8 (.q 9 (.q 10 (.q 11 (.q 12 (.q 13 (.q 14 (.q 15 (.q 16 (.q 17 (.q 18 (.q 19 (.q 20 (.q 21 (.q 22 (.q 23 (.q 24 (.q 25 (.q 26 (.q 27 (.q 28 (.q 29 (.q 30 (.q 31 (.q 32 (.q 33 (.q 34 (.q 35 (.q 36 (.q 37 (.q 38 (.q 39 (.q 40 (.done)))))))))))))))))))))))))))))))))))))))))) (by kernel_rfl) ?_
      simp (maxSteps := 1000000) -implicitDefEqProofs only [push_cast, seval, e, rd_of e, rd1_of e, hp2]
      rw [hr]
      exact Ro.none f2 hB
end Go.Proofs.Ytciajhpeikemoaa
namespace Go.Proofs.Ytciajhpeikemoaa
open Go Go.Sim Go.Proofs
set_option linter.unusedSimpArgs false
set_option linter.unusedVariables false
set_option maxRecDepth 100000
set_option maxHeartbeats 1000000
theorem alt_os (s : ByteArray) (hs : s.size ≤ 24) (lo : Nat) (rw_ : Nat → List Pc → PRes) (ht : OweS 100 s lo rw_) (hg : GoodR 1 s rw_) : OweS 47 s lo (fun k out => pK (rw_ k out) (pBars rw_ s (s.size + 1))) := by
  intro n0 p k out h hlo G hj
  have hA := ht n0 p k out h hlo G hj
  have hb0 := fun k' o' r => hg k out k' o' r G.hi
  have hp := G.lt
  have hn := G.le
  have hk := G.hi
  have hz : k ≤ s.size := G.hi
  generalize hm : out.length + 2 * (s.size - k) = m at *
  simp only
  generalize rw_ k out = res0 at *
  refine CC.ofN Try.func47 Try.ntmps47 Try.results47 rfl (by decide) (by kernel_rfl) ?_
  simp (maxSteps := 1000000) -implicitDefEqProofs only [push_cast, seval]
  with_reducible refine CC.mono hA (fun y h1 hy => ?_)
  have key : ∃ (a : Nat × Nat × List Pc × Nat) (res : PRes), LqS s k n0 p h m (m + 1) (pBars rw_ s) res a h1 ∧ y = .int .i64 (a.2.2.2 : Nat) ∧ res = pK res0 (pBars rw_ s (s.size + 1)) := by
    refine hy.cases (fun k1 o1 r1 er ey f1 G1 => ?_) (fun er r1 ey f1 B1 => ?_)
    · subst er
      have hb1 := (hb0 _ _ _ rfl).pot
      exact ⟨(s.size + 1, k1, o1, r1), _, ⟨f1, .inl ⟨(hb0 _ _ _ rfl).le, by show s.size - k1 < s.size + 1; omega, G1, rfl, by show o1.length + 2 * (s.size - k1) ≤ m + 1; omega⟩⟩, ey, rfl⟩
    · subst er
      exact ⟨(0, 0, [], r1), none, ⟨f1, .inr ⟨rfl, rfl, B1⟩⟩, ey, rfl⟩
  clear hy hA
  with_reducible refine Exists.elim key (fun a0 key => ?_)
  with_reducible refine Exists.elim key (fun res key => ?_)
  have hJ0 := key.1
  have ey := key.2.1
  have er := key.2.2
  clear key
  rw [← er]
  subst ey
  clear er hb0
  simp (maxSteps := 1000000) -implicitDefEqProofs only [push_cast, seval]
  refine WC.loopA (by kernel_rfl) [3] [4, 7, 8, 9, 10, 11, 12, 13, 14, 15, 16, 17, 18, 19, 20, 21, 22, 23, 24] (fun a : Nat × Nat × List Pc × Nat => [.int .i64 (a.2.2.2 : Nat)]) (LqS s k n0 p h m (m + 1) (pBars rw_ s) res) (fun a => a.1) a0 (by kernel_rfl) hJ0 ?_
  clear hJ0
  intro a g h2 hJ
  unfold LqS at hJ
  have f2 := hJ.1
  with_reducible refine Or.elim hJ.2 (fun hl => ?_) (fun hl => ?_)
  · have hk0 := hl.1
    have hg2 := hl.2.1
    have G2 := hl.2.2.1
    have hr2 := hl.2.2.2.1
    have hb2 := hl.2.2.2.2
    clear hl hJ
    have hgs : ∃ g0, a.1 = g0 + 1 := ⟨a.1 - 1, by omega⟩
    with_reducible refine Exists.elim hgs (fun g0 hg0 => ?_)
    rw [hg0, pBars_eq] at hr2
    have hp2 := G2.lt
    have hk2 := G2.hi
    with_reducible refine G2.cell (fun v L e w hL hl2 => ?_)
    have j1 := is_s p s a.2.1 false v 124 124 rfl h2 e hp2 hs
    simp only [Bool.not_false, Bool.true_and] at j1
    simp only [cS] at e
    simp (maxSteps := 1000000) -implicitDefEqProofs only [push_cast, seval]
    with_reducible refine CD.to j1 ?_
    clear j1
    cases c1 : isAt s a.2.1 124 with
    | true =>
      have hlt := isAt_lt c1
      obtain ⟨h3, eh3⟩ : ∃ h3, h3 = h2.set p (.cells [.string s, .int .i64 ((a.2.1 + 1 : Nat) : Int), .bool false, v] .solo p) := ⟨_, rfl⟩
      have f3 : Fr n0 h2 h3 := by rw [eh3]; exact (Fr.refl _ _).set hn _
      have G3 : Rg (cS s) s n0 p h3 (a.2.1 + 1) a.2.2.1 := by rw [eh3, ← hL]; exact Rg.at (C := cS s) hp2 hn w (by omega)
      obtain ⟨k3, ek3⟩ : ∃ k3, k3 = a.2.1 + 1 := ⟨_, rfl⟩
      have w3 : IntKind.i64.wrap ((a.2.1 : Int) + 1) = (k3 : Int) := by rw [wrapSucc (by omega), ek3]
      rw [← ek3] at eh3
      rw [if_pos c1] at hr2
      simp (maxSteps := 1000000) -implicitDefEqProofs only [push_cast, seval, e, rd_of e, rd1_of e, hp2, w3]
      rw [← eh3]
      have hA := ht n0 p (a.2.1 + 1) a.2.2.1 h3 (by omega) G3 (by omega)
      have hb0 := fun k' o' r => hg (a.2.1 + 1) a.2.2.1 k' o' r G3.hi
      generalize rw_ (a.2.1 + 1) a.2.2.1 = res0 at *
      with_reducible refine CC.mono hA (fun y h3b hy => ?_)
      clear hA
      with_reducible refine hy.cases (fun k3 o3 r3 er ey f3b G3b => ?_) (fun er r3 ey f3b B3 => ?_)
      · clear hy
        subst er ey
        have GG := hb0 _ _ _ rfl
        have gp := GG.pot
        have gl := GG.le
        have gh := GG.hi
        clear hb0 GG
        simp (maxSteps := 1000000) -implicitDefEqProofs only [push_cast, seval]
        with_reducible refine CC.mono (putGs2 n0 p s _ _ 6 a.2.2.2 r3 6 rfl h3b G3b (by omega)) (fun y h4 hy => ?_)
        have ey := hy.1
        have f4 := hy.2.1
        have G4 := hy.2.2
        clear hy
        subst ey
        simp (maxSteps := 1000000) -implicitDefEqProofs only [push_cast, seval]
        refine ⟨(g0, k3, o3 ++ ([⟨6, ⟨#[]⟩, [a.2.2.2, r3]⟩] : List Pc), o3.length), by kernel_rfl, ⟨f2.trans (f3.trans (f3b.trans f4)), .inl ⟨by show k ≤ k3; omega, by show s.size - k3 < g0; omega, G4, hr2, by show (o3 ++ [_]).length + 2 * (s.size - k3) ≤ m + 1; rw [List.length_append]; simp only [List.length_cons, List.length_nil]; omega⟩⟩, by show g0 < a.1; omega⟩
      · clear hy
        subst er ey
        simp (maxSteps := 1000000) -implicitDefEqProofs only [push_cast, seval]
        with_reducible refine CC.mono (putBs2 n0 p _ s 6 a.2.2.2 r3 6 rfl h3b B3 (by omega)) (fun y h4 hy => ?_)
        with_reducible refine Exists.elim hy.1 (fun r4 ey => ?_)
        have f4 := hy.2.1
        have B4 := hy.2.2
        clear hy
        subst ey
        simp (maxSteps := 1000000) -implicitDefEqProofs only [push_cast, seval]
        refine ⟨(0, 0, [], r4), by kernel_rfl, ⟨f2.trans (f3.trans (f3b.trans f4)), .inr ⟨rfl, hr2.symm, B4.mono (by omega)⟩⟩, by show 0 < a.1; omega⟩
    | false =>
      simp (maxSteps := 1000000) -implicitDefEqProofs only [push_cast, seval]
      rw [if_neg (by rw [c1]; decide)] at hr2
      rw [← hr2]
      exact Ro.some f2 G2
  · have hB := hl.2.2
    have hr := hl.2.1
    clear hl hJ
    have hp2 := hB.lt
    with_reducible refine hB.cell (fun k v cs j a e g d c f => ?_)
    have j1 := is_s p s k true v 124 124 rfl h2 e hp2 hs
    simp only [Bool.not_true, Bool.false_and] at j1
    simp (maxSteps := 1000000) -implicitDefEqProofs only [push_cast, seval]
    with_reducible refine CD.to j1 ?_
    simp (maxSteps := 1000000) -implicitDefEqProofs only [push_cast, seval]
    rw [hr]
    exact Ro.none f2 hB
theorem alternatives_os (s : ByteArray) (hs : s.size ≤ 24) : ∀ (f lo : Nat), s.size < lo + f → OweS 47 s lo (pAlt s f)
  | 0, lo, hl => fun n0 p k out h hk G => by have := G.hi; omega
  | f + 1, lo, hl => by
    have ha := alternatives_os s hs f (lo + 1) (by omega)
    have gt := pThing_gd (pAlt_gd s f)
    exact alt_os s hs lo _ (row_os s hs lo _ (many_os s hs lo _ ha (pAlt_gd s f)) gt) (pRow_gd gt)
theorem ReadPattern_sF (s : ByteArray) (h : AH) (hs0 : s.size ≤ maxLen) : CC Try.prog 15 [.string s] h (fun v h' => Pre h h' ∧ PatVF s h.n v h') := by
  have hml := maxLen_eq
  by_cases hs : 1 ≤ s.size ∧ s.size ≤ 24
  · have hin : inB (s.size : Nat) 1 24 = true := by simp only [inB, Bool.and_eq_true, decide_eq_true_eq]; omega
    have eN : pAlt s (s.size + 1) 0 [] = none → readP s = none := fun e => by unfold readP; rw [if_pos hs, e]
    have eS : ∀ k o r, pAlt s (s.size + 1) 0 [] = some (k, o, r) → readP s = if k = s.size then some o else none := fun k o r e => by unfold readP; rw [if_pos hs, e]
    refine CC.ofN Try.func15 Try.ntmps15 Try.results15 rfl (by decide) (by kernel_rfl) ?_
    simp (maxSteps := 1000000) -implicitDefEqProofs only [push_cast, seval]
    with_reducible refine CD.to (l01In_c _ _ _ _) ?_
    rw [hin]
    simp (maxSteps := 1000000) -implicitDefEqProofs only [push_cast, seval]
    have hA := alternatives_os s hs.2 (s.size + 1) 0 (by omega) (h.n + 1) (h.n + 1) 0 [] ((h.alloc (AOb.cells [.slice none 0 0] .solo h.n)).alloc (AOb.cells [.string s, .int .i64 0, .bool false, .slice none 0 0] .solo (h.n + 1))) (Nat.zero_le _)
      ⟨Nat.lt_succ_self _, Nat.le_refl _, Nat.zero_le _, .slice none 0 0, [], alloc_same _, Pcs.nil _ _ _ _, rfl⟩ (by simp; omega)
    have p0 : Pre h ((h.alloc (AOb.cells [.slice none 0 0] .solo h.n)).alloc (AOb.cells [.string s, .int .i64 0, .bool false, .slice none 0 0] .solo (h.n + 1))) := ((Pre.refl h).alloc _).alloc _
    have c0 : ((h.alloc (AOb.cells [.slice none 0 0] .solo h.n)).alloc (AOb.cells [.string s, .int .i64 0, .bool false, .slice none 0 0] .solo (h.n + 1))).ob h.n = AOb.cells [.slice none 0 0] .solo h.n := (alloc_lt _ (Nat.lt_succ_self _)).trans (alloc_same _)
    have l0 : ((h.alloc (AOb.cells [.slice none 0 0] .solo h.n)).alloc (AOb.cells [.string s, .int .i64 0, .bool false, .slice none 0 0] .solo (h.n + 1))).n = h.n + 2 := rfl
    generalize (h.alloc (AOb.cells [.slice none 0 0] .solo h.n)).alloc (AOb.cells [.string s, .int .i64 0, .bool false, .slice none 0 0] .solo (h.n + 1)) = H at *
    generalize pAlt s (s.size + 1) 0 [] = res at *
    with_reducible refine CC.mono hA (fun y h1 hy => ?_)
    clear hA
    with_reducible refine hy.cases (fun k1 o1 r1 er ey f1 G1 => ?_) (fun er r1 ey f1 B1 => ?_)
    · clear hy
      subst ey
      have eS := eS _ _ _ er
      clear er eN
      have hp1 := G1.lt
      have hk1 := G1.hi
      have c1 : h1.ob h.n = _ := (f1.ob _ (Nat.lt_succ_self _)).trans c0
      have lc : h.n < h1.n := by have := f1.n; omega
      have fp : Pre h h1 := ⟨by have := f1.n; omega, fun i hi => (f1.ob i (by omega)).trans (p0.ob i hi)⟩
      with_reducible refine G1.cell (fun v L e w hL hl => ?_)
      simp only [cS] at e
      simp (maxSteps := 1000000) -implicitDefEqProofs only [push_cast, seval, e, rd_of e, rd1_of e, hp1, c1, rd_of c1, rd1_of c1, lc]
      with_reducible refine bcase_d (fun hb => ?_) (fun hb => ?_)
      · have ek : ¬ k1 = s.size := by omega
        rw [if_neg ek] at eS
        simp (maxSteps := 1000000) -implicitDefEqProofs only [push_cast, seval, e, rd_of e, rd1_of e, hp1, c1, rd_of c1, rd1_of c1, lc]
        exact ⟨fp.set (Nat.le_refl _) _, .inl ⟨eS, rfl⟩⟩
      · have ek : k1 = s.size := by omega
        rw [if_pos ek] at eS
        rw [← hL] at eS
        have y1 := w.pat.r.one
        have y2 := rdv_cells w.pat.r
        simp (maxSteps := 1000000) -implicitDefEqProofs only [push_cast, seval, e, rd_of e, rd1_of e, hp1, c1, rd_of c1, rd1_of c1, lc, y1, y2]
        refine ⟨fp.set (Nat.le_refl _) _, .inr ⟨v, L, eS, rfl, ⟨w.pat.r.keep (Nat.le_refl _) (fun i hi => set_ne _ ?_), fun x hx => (w.kids x hx).keep (Nat.le_refl _) (fun i hi => set_ne _ ?_)⟩, fun i hi => hi.elim (fun e => by have := (w.gr.range e).1; omega) (fun ⟨x, hx, e⟩ => by have := (w.far x hx i e).1; omega)⟩⟩
        · have := (w.gr.range hi).1
          omega
        · have := (w.far x hx i hi).1
          omega
    · clear hy
      subst ey
      have eN := eN er
      clear er eS
      have c1 : h1.ob h.n = _ := (f1.ob _ (Nat.lt_succ_self _)).trans c0
      have lc : h.n < h1.n := by have := f1.n; omega
      have fp : Pre h h1 := ⟨by have := f1.n; omega, fun i hi => (f1.ob i (by omega)).trans (p0.ob i hi)⟩
      have hp1 := B1.lt
      with_reducible refine B1.cell (fun k v cs j a e g d c f => ?_)
      simp only [cS] at e
      simp (maxSteps := 1000000) -implicitDefEqProofs only [push_cast, seval, e, rd_of e, rd1_of e, hp1, c1, rd_of c1, rd1_of c1, lc]
      exact ⟨fp.set (Nat.le_refl _) _, .inl ⟨eN, rfl⟩⟩
  · have hin : inB (s.size : Nat) 1 24 = false := by rw [Bool.eq_false_iff]; simp only [inB, ne_eq, Bool.and_eq_true, decide_eq_true_eq]; omega
    have eR : readP s = none := by unfold readP; rw [if_neg hs]
    refine CC.ofN Try.func15 Try.ntmps15 Try.results15 rfl (by decide) (by kernel_rfl) ?_
    simp (maxSteps := 1000000) -implicitDefEqProofs only [push_cast, seval]
    with_reducible refine CD.to (l01In_c _ _ _ _) ?_
    rw [hin]
    simp (maxSteps := 1000000) -implicitDefEqProofs only [push_cast, seval]
    exact ⟨((Pre.refl h).alloc _).set (Nat.le_refl _) _, .inl ⟨eR, rfl⟩⟩
theorem ReadPattern_s (s : ByteArray) (h : AH) (hs0 : s.size ≤ maxLen) : CC Try.prog 15 [.string s] h (fun v h' => Pre h h' ∧ PatV s v h') :=
  CC.mono (ReadPattern_sF s h hs0) (fun _ _ hv => ⟨hv.1, hv.2.v⟩)
end Go.Proofs.Ytciajhpeikemoaa
namespace Go.Proofs.Ytciajhpeikemoaa
open Go Go.Sim Go.Proofs
set_option linter.unusedSimpArgs false
set_option linter.unusedVariables false
set_option maxRecDepth 100000
set_option maxHeartbeats 1000000
theorem EndsAt_c (vP : Value) (L : List (Pc × Value)) (s : ByteArray) (k i : Nat) (h : AH) (w : RdPat h vP L) (ok : Okp (L.map Prod.fst)) (h1 : 1 ≤ L.length) (h2 : L.length ≤ 60) (hk : k < L.length) (hi : i ≤ s.size) (hs : s.size ≤ 100000) :
    CC Try.prog 45 [.agg #[vP], .int .i64 (k : Nat), .string s, .int .i64 (i : Nat)] h (fun v h' => RdV h' v 1 encNa (ml (L.map Prod.fst) s k i) ∧ Pre h h') := by
  have u := w.r.one
  have y := w.r.cell1
  obtain ⟨A, c, rfl, hPR⟩ := w.r.rde (fun _ => rfl)
  have p0 : Pre h (h.alloc (.cells [.slice A L.length c] .solo h.n)) := (Pre.refl h).alloc _
  have e0 : (h.alloc (.cells [.slice A L.length c] .solo h.n)).ob h.n = _ := alloc_same _
  have n0 : (h.alloc (.cells [.slice A L.length c] .solo h.n)).n = h.n + 1 := rfl
  have wk : IntKind.i64.wrap ((L.length : Int) - 1) = ((L.length - 1 : Nat) : Int) := by rw [w64 (by omega) (by omega)]; omega
  have bk : inB (k : Nat) 0 ((L.length - 1 : Nat) : Int) = true := by simp [inB]; omega
  have bi : inB (i : Nat) 0 (s.size : Nat) = true := by simp [inB]; omega
  refine CC.ofN Try.func45 Try.ntmps45 Try.results45 rfl (by decide) (by kernel_rfl) ?_
  simp (maxSteps := 1000000) -implicitDefEqProofs only [push_cast, seval, u]
  generalize (h.alloc (.cells [.slice A L.length c] .solo h.n)) = h1 at *
  have l1 : h.n < h1.n := by omega
  simp (maxSteps := 1000000) -implicitDefEqProofs only [push_cast, seval, e0, rd_of e0, rd1_of e0, l1, u]
  with_reducible refine CD.to (PatternOk_c _ L h1 (w.pre p0) ok (by omega) h2) ?_
  simp (maxSteps := 1000000) -implicitDefEqProofs only [push_cast, seval, e0, rd_of e0, rd1_of e0, l1, u]
  with_reducible refine CD.to (within_c _ _ _ _) ?_
  simp (maxSteps := 1000000) -implicitDefEqProofs only [push_cast, seval, e0, rd_of e0, rd1_of e0, l1, u, wk, bk]
  with_reducible refine CD.to (within_c _ _ _ _) ?_
  simp (maxSteps := 1000000) -implicitDefEqProofs only [push_cast, seval, e0, rd_of e0, rd1_of e0, l1, u, y, bi]
  have pM : Pre h1 ((h1.alloc (.map [])).alloc (.cells [.slice A L.length c, .string s, .map (some h1.n)] .solo (h1.n + 1))) := ((Pre.refl h1).alloc _).alloc _
  have mM : Mm ((h1.alloc (.map [])).alloc (.cells [.slice A L.length c, .string s, .map (some h1.n)] .solo (h1.n + 1))) (h1.n + 1) h1.n (.slice A L.length c) L s [] :=
    ⟨alloc_same (h := h1.alloc _) _, Nat.lt_succ_self _, Nat.lt_succ_of_lt (Nat.lt_succ_self _), (alloc_lt (h := h1.alloc (.map [])) _ (Nat.lt_succ_self _)).trans (alloc_same _), fun e he => (by cases he), (w.pre p0).pre pM⟩
  generalize ((h1.alloc (.map [])).alloc (.cells [.slice A L.length c, .string s, .map (some h1.n)] .solo (h1.n + 1))) = H at *
  have hE := ends_ok (h1.n + 1) h1.n (.slice A L.length c) L s ok (by omega) hs k hk
  unfold EndsOk at hE
  simp (maxSteps := 1000000) -implicitDefEqProofs only [push_cast, seval]
  with_reducible refine CC.mono (hE H [] i mM hi) (fun v h3 hv => ?_)
  with_reducible refine Exists.elim hv (fun es3 hv => ?_)
  have mo3 := hv.2.1
  have r3 := hv.2.2.1
  clear hv
  have hml := places_len s.size (Mt (L.map Prod.fst) s k i)
  change (ml (L.map Prod.fst) s k i).length ≤ _ at hml
  simp (maxSteps := 1000000) -implicitDefEqProofs only [push_cast, seval]
  with_reducible refine CC.mono (copyIntsG_c v _ h3 r3 (by omega)) (fun v4 h4 hv => ?_)
  have g4 := hv.1
  have p4 := hv.2
  clear hv
  simp (maxSteps := 1000000) -implicitDefEqProofs only [push_cast, seval]
  have n3 := mo3.n
  have nM := pM.n
  exact ⟨g4.gr.rdv (by decide) (fun _ => rfl), ⟨by have := p4.n; omega, fun j hj => (p4.ob j (by omega)).trans ((mo3.ob j (by omega) (by omega)).trans ((pM.ob j (by omega)).trans (p0.ob j hj)))⟩⟩
theorem in_c (v : Value) (l : List Nat) (x : Nat) (h : AH) (r : RdV h v 1 encNa l) (hl : l.length ≤ 1000000) : CD Try.prog 16 [v, .int .i64 (x : Nat)] h (.bool (decide (x ∈ l))) h := by
  refine CD.quiet ?_ (low_bool _ _)
  obtain ⟨A, c, rfl, hR⟩ := r.rde (fun _ => rfl)
  refine CC.ofN Try.func16 Try.ntmps16 Try.results16 rfl (by decide) (by kernel_rfl) ?_
  simp (maxSteps := 1000000) -implicitDefEqProofs only [push_cast, seval]
  refine WC.loopA (by kernel_rfl) [5] [4, 6, 7, 8, 9, 10, 11, 12, 13, 14, 15, 16, 17] (fun i : Nat => [.int .i64 (i : Nat)]) (fun i h' => (i ≤ l.length ∧ ∀ j (hj : j < l.length), j < i → l[j] ≠ x) ∧ Pre h h') (fun i => l.length - i) 0 (by kernel_rfl) ⟨⟨Nat.zero_le _, fun j hj h0 => absurd h0 (Nat.not_lt_zero j)⟩, Pre.refl _⟩ ?_
  intro i g h1 hJ
  have hi := hJ.1.1
  have hj := hJ.1.2
  have p1 := hJ.2
  clear hJ
  simp (maxSteps := 1000000) -implicitDefEqProofs only [push_cast, seval]
  with_reducible refine bcase_d (fun hb => ?_) (fun hb => ?_)
  rotate_left
  · have ei : i = l.length := by omega
    have : decide (x ∈ l) = false := decide_eq_false (fun hx => by
      obtain ⟨j, hj1, e⟩ := List.getElem_of_mem hx
      exact hj j hj1 (by omega) e)
    simp (maxSteps := 1000000) -implicitDefEqProofs only [push_cast, seval]
    rw [this]
    exact ⟨rfl, p1.keep⟩
  have hi' : i < l.length := by omega
  have rk := rdN (r.pre p1) hi' rfl
  have hno : l[i] ≠ x → ∀ j (hj : j < l.length), j < i + 1 → l[j] ≠ x := fun e j hj1 hj2 => by
    by_cases e2 : j = i
    · subst e2; exact e
    · exact hj j hj1 (by omega)
  have hyes : l[i] = x → decide (x ∈ l) = true := fun e => decide_eq_true (by rw [← e]; exact List.getElem_mem hi')
  generalize l[i] = T at *
  with_reducible refine Exists.elim rk (fun id hv => ?_)
  with_reducible refine Exists.elim hv (fun off hv => ?_)
  have ev := hv.1
  have vlt := hv.2.1
  have vrd := hv.2.2
  clear hv rk
  subst ev
  simp (maxSteps := 1000000) -implicitDefEqProofs only [push_cast, seval, vrd, vlt]
  repeat (with_reducible refine And.intro ?_ ?_; · (first | omega | decide))
  with_reducible refine bcase_d (fun hT => ?_) (fun hT => ?_)
  · simp (maxSteps := 1000000) -implicitDefEqProofs only [push_cast, seval]
    rw [hyes (by omega)]
    exact ⟨rfl, p1.keep⟩
  · simp (maxSteps := 1000000) -implicitDefEqProofs only [push_cast, seval]
    rw [wrapSucc (by omega)]
    exact ⟨i + 1, by kernel_rfl, ⟨⟨by omega, hno (by omega)⟩, p1⟩, by omega⟩
/-- The places at which a text's whole pattern may end. -/
theorem ends_c (t s : ByteArray) (o : List Pc) (e : readP t = some o) (i : Nat) (h : AH) (hi : i ≤ s.size) (hs : s.size ≤ 100000) (ht : t.size ≤ maxLen) :
    CC Try.prog 14 [.string t, .string s, .int .i64 (i : Nat)] h (fun v h' => RdV h' v 1 encNa (ml o s (o.length - 1) i) ∧ Pre h h') := by
  obtain ⟨ok, h1, h2⟩ := readP_ok e
  refine CC.ofN Try.func14 Try.ntmps14 Try.results14 rfl (by decide) (by kernel_rfl) ?_
  simp (maxSteps := 1000000) -implicitDefEqProofs only [push_cast, seval]
  with_reducible refine CC.mono (ReadPattern_s t h ht) (fun v h3 hv => ?_)
  have p3 := hv.1
  have hv2 := hv.2
  clear hv
  unfold PatV at hv2
  with_reducible refine Or.elim hv2 (fun hn => ?_) (fun hy => ?_)
  · exfalso
    rw [hn.1] at e; cases e
  with_reducible refine Exists.elim hy (fun rv hy => ?_)
  with_reducible refine Exists.elim hy (fun L hy => ?_)
  have eL := hy.1
  have ev := hy.2.1
  have w := hy.2.2
  clear hy hv2
  subst ev
  rw [e] at eL
  obtain rfl := Option.some.inj eL
  rw [List.length_map] at *
  have u := w.r.one
  have y := w.r.cell1
  have kf := w.r.rde (fun _ => rfl)
  with_reducible refine Exists.elim kf (fun A kf => ?_)
  with_reducible refine Exists.elim kf (fun cA kf => ?_)
  have eA := kf.1
  clear kf
  subst eA
  have wk : IntKind.i64.wrap ((L.length : Int) - 1) = ((L.length - 1 : Nat) : Int) := by rw [w64 (by omega) (by omega)]; omega
  simp (maxSteps := 1000000) -implicitDefEqProofs only [push_cast, seval, u, y]
  have p4 : Pre h3 ((h3.alloc (.cells [.slice none 0 0] .solo h3.n)).set h3.n (.cells [.slice A L.length cA] .solo h3.n)) := ((Pre.refl h3).alloc _).set (Nat.le_refl _) _
  have e4 : ((h3.alloc (.cells [.slice none 0 0] .solo h3.n)).set h3.n (.cells [.slice A L.length cA] .solo h3.n)).ob h3.n = AOb.cells [.slice A L.length cA] .solo h3.n := set_same _ _
  have n4 : ((h3.alloc (.cells [.slice none 0 0] .solo h3.n)).set h3.n (.cells [.slice A L.length cA] .solo h3.n)).n = h3.n + 1 := rfl
  generalize ((h3.alloc (.cells [.slice none 0 0] .solo h3.n)).set h3.n (.cells [.slice A L.length cA] .solo h3.n)) = h4 at *
  have l4 : h3.n < h4.n := by omega
  simp (maxSteps := 1000000) -implicitDefEqProofs only [push_cast, seval, e4, rd_of e4, rd1_of e4, l4, u, y, wk]
  with_reducible refine CC.mono (EndsAt_c _ L s (L.length - 1) i h4 (w.pre p4) ok h1 h2 (by omega) hi hs) (fun v5 h5 hv => ?_)
  simp (maxSteps := 1000000) -implicitDefEqProofs only [push_cast, seval]
  exact ⟨hv.1, (p3.trans p4).trans hv.2⟩
end Go.Proofs.Ytciajhpeikemoaa
namespace Go.Proofs.Ytciajhpeikemoaa
open Go Go.Sim Go.Proofs
set_option linter.unusedSimpArgs false
set_option linter.unusedVariables false
set_option maxRecDepth 100000
set_option maxHeartbeats 1000000
theorem l04Text_c (p : Nat) (S : Value) (l : List Nat) (h : AH) (d : Dw p S l h) :
    CC Try.prog 43 [.pointer (some ⟨p, 0, none⟩)] h (fun v h' => (∃ y : ByteArray, v = .string y ∧ y ∈ txs) ∧ Dn p S l h h') := by
  refine CC.ofN Try.func43 Try.ntmps43 Try.results43 rfl (by decide) (by kernel_rfl) ?_
  simp (maxSteps := 1000000) -implicitDefEqProofs only [push_cast, seval]
  refine CC.txt (l01Pick_c p S l h.n 21 (fun y => y ∈ txs) _ _ (d.pre ((Pre.refl h).alloc _)) (alloc_same _) (by simp [strs, txs]) rfl (by omega) (lt_alloc _)) (fun y h1 q d1 => ?_)
  simp (maxSteps := 1000000) -implicitDefEqProofs only [push_cast, seval]
  exact ⟨⟨y, rfl, q⟩, (d.toDn ((Pre.refl h).alloc _)).trans d1⟩
/-- A drawn word of n pieces: short, and no star in it. -/
def Wrd (n : Nat) (s : ByteArray) : Prop := s.size ≤ 2 * n ∧ ∀ x ∈ s.data.toList, x ≠ 42
theorem Wrd.app {n : Nat} {s t : ByteArray} (a : Wrd n s) (b : Wrd 1 t) : Wrd (n + 1) (s ++ t) := by
  have := a.1
  have := b.1
  refine ⟨by rw [ByteArray.size_append]; omega, fun x hx => ?_⟩
  rw [ByteArray.data_append, Array.toList_append, List.mem_append] at hx
  rcases hx with hx | hx
  · exact a.2 x hx
  · exact b.2 x hx
theorem l04Word_c (p : Nat) (S : Value) (l : List Nat) (h : AH) (d : Dw p S l h) :
    CC Try.prog 44 [.pointer (some ⟨p, 0, none⟩)] h (fun v h' => (∃ y : ByteArray, v = .string y ∧ Wrd 8 y) ∧ Dn p S l h h') := by
  refine CC.ofN Try.func44 Try.ntmps44 Try.results44 rfl (by decide) (by kernel_rfl) ?_
  simp (maxSteps := 1000000) -implicitDefEqProofs only [push_cast, seval]
  refine WC.loopA (by kernel_rfl) [3, 4] [5, 6, 7, 8, 9, 10, 11, 12, 13, 14, 15] (fun a : Nat × ByteArray => [.string a.2, .int .i64 (a.1 : Nat)]) (fun a h' => a.1 ≤ 8 ∧ Wrd a.1 a.2 ∧ Dn p S l h h') (fun a => 8 - a.1) (0, ⟨#[]⟩) (by kernel_rfl) ⟨by omega, ⟨Nat.le_refl _, fun x hx => by cases hx⟩, d.refl⟩ ?_
  intro a g h1 hJ
  have hi := hJ.1
  have hw := hJ.2.1
  have d1 := hJ.2.2
  clear hJ
  simp (maxSteps := 1000000) -implicitDefEqProofs only [push_cast, seval]
  with_reducible refine CC.num (l01Below_c p S l _ _ (d.dn d1)) (fun y h2 q2 d2 => ?_)
  have hy := q2.1 (by omega)
  simp (maxSteps := 1000000) -implicitDefEqProofs only [push_cast, seval]
  with_reducible refine bcase_d (fun hb => ?_) (fun hb => ?_)
  · simp (maxSteps := 1000000) -implicitDefEqProofs only [push_cast, seval]
    with_reducible refine CC.txt (l01Pick_c p S l h2.n 6 (fun y => Wrd 1 y) _ _ ((d.dn (d1.trans d2)).pre ((Pre.refl h2).alloc _)) (alloc_same _) (by simp only [strs, Wrd]; decide) rfl (by omega) (lt_alloc _)) (fun z h3 q3 d3 => ?_)
    have dz := ((d.dn (d1.trans d2)).toDn ((Pre.refl h2).alloc _)).trans d3
    have s1 := hw.1
    have s2 := q3.1
    simp (maxSteps := 1000000) -implicitDefEqProofs only [push_cast, seval]
    refine And.intro (by omega) ?_
    rw [wrapSucc (by omega)]
    exact ⟨(a.1 + 1, a.2 ++ z), by kernel_rfl, ⟨by show a.1 + 1 ≤ 8; omega, hw.app q3, (d1.trans d2).trans dz⟩, by show 8 - (a.1 + 1) < 8 - a.1; omega⟩
  · simp (maxSteps := 1000000) -implicitDefEqProofs only [push_cast, seval]
    exact ⟨⟨_, rfl, by have := hw.1; omega, hw.2⟩, d1.trans d2⟩
/-- What a draw of patterns tells. -/
theorem DrawPatterns_c (A : Option Addr) (c : Nat) (l : List Nat) (h : AH) (hR : RdE h A 1 byV l) (hl : ∀ n ∈ l, n < 256) (hn : l.length ≤ 1048576) :
    CC Try.prog 13 [.slice A l.length c] h (fun v h' => (∃ a b s, v = .tuple #[.string a, .string b, .string s] ∧ a ∈ txs ∧ b ∈ txs ∧ Wrd 8 s) ∧ Pre h h') := by
  refine CC.withBig (fun big => ?_)
  refine CC.ofN Try.func13 Try.ntmps13 Try.results13 rfl (by decide) (by kernel_rfl) ?_
  simp (maxSteps := 1000000) -implicitDefEqProofs only [push_cast, seval]
  with_reducible refine CC.mono (l01New_c A c l _ hR big hl hn) (fun v h1 hv => ?_)
  have e1 := hv.1
  have d1 := hv.2.1
  have p1 := hv.2.2
  clear hv
  subst e1
  simp (maxSteps := 1000000) -implicitDefEqProofs only [push_cast, seval]
  with_reducible refine CC.txt (l04Text_c _ _ _ _ d1) (fun a h2 qa d2 => ?_)
  simp (maxSteps := 1000000) -implicitDefEqProofs only [push_cast, seval]
  with_reducible refine CC.txt (l04Text_c _ _ _ _ (d1.dn d2)) (fun b h3 qb d3 => ?_)
  simp (maxSteps := 1000000) -implicitDefEqProofs only [push_cast, seval]
  with_reducible refine CC.txt (l04Word_c _ _ _ _ ((d1.dn d2).dn d3)) (fun s h4 qs d4 => ?_)
  simp (maxSteps := 1000000) -implicitDefEqProofs only [push_cast, seval]
  have dd := (d2.trans d3).trans d4
  exact ⟨⟨a, b, s, rfl, qa, qb, qs⟩, ⟨Nat.le_trans p1.n dd.n, fun j hj => (dd.ob j (Nat.lt_of_lt_of_le hj p1.n) (by omega)).trans (p1.ob j hj)⟩⟩
theorem DrawPlaces_c (A : Option Addr) (c : Nat) (l : List Nat) (h : AH) (hR : RdE h A 1 byV l) (hl : ∀ n ∈ l, n < 256) (hn : l.length ≤ 1048576) :
    CC Try.prog 29 [.slice A l.length c] h (fun v h' => (∃ ps : List Nat, ps.length = 12 ∧ (∀ n ∈ ps, n < 10000) ∧ RdV h' v 1 encNa ps) ∧ Pre h h') := by
  refine CC.withBig (fun big => ?_)
  refine CC.ofN Try.func29 Try.ntmps29 Try.results29 rfl (by decide) (by kernel_rfl) ?_
  simp (maxSteps := 1000000) -implicitDefEqProofs only [push_cast, seval]
  with_reducible refine CC.mono (l01New_c A c l _ hR big hl hn) (fun v h1 hv => ?_)
  have e1 := hv.1
  have d1 := hv.2.1
  have p1 := hv.2.2
  clear hv
  subst e1
  have m1 := p1.n
  have dl := d1.lt
  simp (maxSteps := 1000000) -implicitDefEqProofs only [push_cast, seval]
  with_reducible refine CC.num (l01Byte_c _ _ _ _ d1) (fun y h2 q2 d2 => ?_)
  have m2 := d2.n
  simp (maxSteps := 1000000) -implicitDefEqProofs only [push_cast, seval]
  refine WC.loopA (by kernel_rfl) [4, 5] [11, 12, 13, 14, 15, 16, 17, 18, 19] (fun a : Nat × List Nat × Value => [a.2.2, .int .i64 (a.1 : Nat)]) (fun a h' => a.1 ≤ 12 ∧ a.2.1.length = a.1 ∧ (∀ n ∈ a.2.1, n < 10000) ∧ Gr h1.n h' a.2.2 1 (a.2.1.map encNa).flatten ∧ Dn h.n (.slice A l.length c) l h1 h') (fun a => 12 - a.1) (0, [], .slice (some ⟨h2.n, 0, none⟩) 0 1) (by kernel_rfl) ⟨by omega, rfl, (fun n hn => by cases hn), .inr ⟨h2.n, 0, 0, rfl, by omega, Own.zero rfl 1⟩, d2.alloc dl _⟩ ?_
  intro a g h3 hJ
  have hi := hJ.1
  have hln := hJ.2.1
  have hsm := hJ.2.2.1
  have hg := hJ.2.2.2.1
  have d3 := hJ.2.2.2.2
  clear hJ
  have n3 := d3.n
  simp (maxSteps := 1000000) -implicitDefEqProofs only [push_cast, seval]
  with_reducible refine bcase_d (fun hb => ?_) (fun hb => ?_)
  · simp (maxSteps := 1000000) -implicitDefEqProofs only [push_cast, seval]
    with_reducible refine CC.num (l01Below_c _ _ _ _ _ (d1.dn d3)) (fun z h4 q4 d4 => ?_)
    have hz := q4.1 (by omega)
    have n4 := d4.n
    have hg4 : Gr h1.n h4 a.2.2 1 (a.2.1.map encNa).flatten := hg.keep n4 (fun i e => by have := hg.range e; exact d4.ob i this.2 (by omega))
    have fl : ((a.2.1.map encNa).flatten).length = a.2.1.length * 1 := flat_len (k := 1) _ (fun _ => rfl)
    simp (maxSteps := 1000000) -implicitDefEqProofs only [push_cast, seval]
    refine Gr.app1 (h0 := ⟨h1.n, h4.ob⟩) si26 (by decide) (by decide) (notInt_sl und26) hg4 ⟨by show h1.n ≤ h4.n; omega, fun _ _ => rfl⟩ rfl (by rw [fl]; omega) (by decide) (fun h5 gr ow p' hn' he => ?_)
    simp (maxSteps := 1000000) -implicitDefEqProofs only [push_cast, seval]
    rw [wrapSucc (by omega)]
    refine ⟨(a.1 + 1, a.2.1 ++ [z], .slice (some ⟨h4.n + 1, 0, none⟩) (((a.2.1.map encNa).flatten).length / 1 + 1) 1), by kernel_rfl, ⟨by show a.1 + 1 ≤ 12; omega, by show (a.2.1 ++ [z]).length = a.1 + 1; simp [hln], fun n hn => ?_, by rw [flat_snoc]; exact gr, ?_⟩, by show 12 - (a.1 + 1) < 12 - a.1; omega⟩
    · have hn : n ∈ a.2.1 ++ [z] := hn
      rcases List.mem_append.1 hn with e | e
      · exact hsm n e
      · rw [List.mem_singleton] at e; omega
    · exact ⟨by omega, fun j h1 h2 => (he j (by omega) (fun e => by have := hg4.range e; omega)).trans ((d3.trans d4).ob j h1 h2), (d3.trans d4).cur.pre (he _ (by omega) (fun e => by have := hg4.range e; omega))⟩
  · simp (maxSteps := 1000000) -implicitDefEqProofs only [push_cast, seval]
    exact ⟨⟨a.2.1, by omega, hsm, hg.rdv (by decide) (fun _ => rfl)⟩, ⟨by omega, fun j hj => (d3.ob j (by omega) (by omega)).trans (p1.ob j hj)⟩⟩
end Go.Proofs.Ytciajhpeikemoaa
namespace Go.Proofs.Ytciajhpeikemoaa
open Go Go.Sim Go.Proofs
set_option linter.unusedSimpArgs false
set_option linter.unusedVariables false
set_option maxRecDepth 100000
set_option maxHeartbeats 1000000
/-- What is found. -/
def FindQ (o : List Pc) (s : ByteArray) (v : Value) : Prop :=
  (∃ i e : Nat, i ≤ s.size ∧ (∀ j, j < i → ml o s (o.length - 1) j = []) ∧ ml o s (o.length - 1) i ≠ [] ∧ (ml o s (o.length - 1) i).getLast? = some e ∧ v = .tuple #[.int .i64 (i : Nat), .int .i64 (e : Nat), .bool true])
  ∨ ((∀ j, j ≤ s.size → ml o s (o.length - 1) j = []) ∧ v = .tuple #[.int .i64 0, .int .i64 0, .bool false])
theorem FindIn_i (vP : Value) (L : List (Pc × Value)) (s : ByteArray) (h : AH) (w : RdPat h vP L) (ok : Okp (L.map Prod.fst)) (h1 : 1 ≤ L.length) (h2 : L.length ≤ 60) (hs : s.size ≤ 100000) :
    CC Try.prog 30 [.agg #[vP], .string s] h (fun v h' => FindQ (L.map Prod.fst) s v ∧ Pre h h') := by
  have u := w.r.one
  have y := w.r.cell1
  obtain ⟨A, c, rfl, hPR⟩ := w.r.rde (fun _ => rfl)
  have p0 : Pre h (h.alloc (.cells [.slice A L.length c] .solo h.n)) := (Pre.refl h).alloc _
  have e0 : (h.alloc (.cells [.slice A L.length c] .solo h.n)).ob h.n = _ := alloc_same _
  have n0 : (h.alloc (.cells [.slice A L.length c] .solo h.n)).n = h.n + 1 := rfl
  have wk : IntKind.i64.wrap ((L.length : Int) - 1) = ((L.length - 1 : Nat) : Int) := by rw [w64 (by omega) (by omega)]; omega
  refine CC.ofN Try.func30 Try.ntmps30 Try.results30 rfl (by decide) (by kernel_rfl) ?_
  simp (maxSteps := 1000000) -implicitDefEqProofs only [push_cast, seval, u]
  generalize (h.alloc (.cells [.slice A L.length c] .solo h.n)) = h1 at *
  have l1 : h.n < h1.n := by omega
  simp (maxSteps := 1000000) -implicitDefEqProofs only [push_cast, seval, e0, rd_of e0, rd1_of e0, l1, u]
  with_reducible refine CD.to (PatternOk_c _ L h1 (w.pre p0) ok (by omega) h2) ?_
  simp (maxSteps := 1000000) -implicitDefEqProofs only [push_cast, seval, e0, rd_of e0, rd1_of e0, l1, u, y]
  have pM : Pre h1 ((h1.alloc (.map [])).alloc (.cells [.slice A L.length c, .string s, .map (some h1.n)] .solo (h1.n + 1))) := ((Pre.refl h1).alloc _).alloc _
  have mM : Mm ((h1.alloc (.map [])).alloc (.cells [.slice A L.length c, .string s, .map (some h1.n)] .solo (h1.n + 1))) (h1.n + 1) h1.n (.slice A L.length c) L s [] :=
    ⟨alloc_same (h := h1.alloc _) _, Nat.lt_succ_self _, Nat.lt_succ_of_lt (Nat.lt_succ_self _), (alloc_lt (h := h1.alloc (.map [])) _ (Nat.lt_succ_self _)).trans (alloc_same _), fun e he => (by cases he), (w.pre p0).pre pM⟩
  have nM : ((h1.alloc (.map [])).alloc (.cells [.slice A L.length c, .string s, .map (some h1.n)] .solo (h1.n + 1))).n = h1.n + 2 := rfl
  generalize ((h1.alloc (.map [])).alloc (.cells [.slice A L.length c, .string s, .map (some h1.n)] .solo (h1.n + 1))) = H at *
  have hE := ends_ok (h1.n + 1) h1.n (.slice A L.length c) L s ok (by omega) hs (L.length - 1) (by omega)
  unfold EndsOk at hE
  have hlen : (L.map Prod.fst).length = L.length := List.length_map _
  have fin : ∀ h', h1.n ≤ h'.n → (∀ j, j < h1.n → h'.ob j = H.ob j) → Pre h h' := fun h' a b => ⟨by omega, fun j hj => (b j (by omega)).trans ((pM.ob j (by omega)).trans (p0.ob j hj))⟩
  refine WC.loopA (by kernel_rfl) [8] [4, 5, 6, 9, 18, 19, 20, 21, 22, 23, 24, 25, 26, 27, 28, 29, 30, 31, 32, 33, 34, 35, 36, 37, 38, 39, 40] (fun i : Nat => [.int .i64 (i : Nat)]) (fun i h' => i ≤ s.size + 1 ∧ (∀ j, j < i → ml (L.map Prod.fst) s (L.length - 1) j = []) ∧ (∃ es, Mm h' (h1.n + 1) h1.n (.slice A L.length c) L s es) ∧ H.n ≤ h'.n ∧ ∀ j, j < H.n → j ≠ h1.n → h'.ob j = H.ob j) (fun i => s.size + 1 - i) 0 (by kernel_rfl) ⟨by omega, fun j hj => absurd hj (Nat.not_lt_zero j), ⟨[], mM⟩, Nat.le_refl _, fun _ _ _ => rfl⟩ ?_
  intro i g h3 hJ
  have hi := hJ.1
  have hno := hJ.2.1
  have hes := hJ.2.2.1
  have hn3 := hJ.2.2.2.1
  have hob3 := hJ.2.2.2.2
  clear hJ
  simp (maxSteps := 1000000) -implicitDefEqProofs only [push_cast, seval]
  with_reducible refine bcase_d (fun hb => ?_) (fun hb => ?_)
  rotate_left
  · simp (maxSteps := 1000000) -implicitDefEqProofs only [push_cast, seval]
    refine ⟨.inr ⟨fun j hj => ?_, rfl⟩, fin h3 (by omega) (fun j hj => hob3 j (by omega) (by omega))⟩
    rw [hlen]; exact hno j (by omega)
  have e0' : h3.ob h.n = _ := (hob3 h.n (by omega) (by omega)).trans ((pM.ob h.n (by omega)).trans e0)
  have l0' : h.n < h3.n := by omega
  simp (maxSteps := 1000000) -implicitDefEqProofs only [push_cast, seval, e0', rd_of e0', rd1_of e0', l0', u, y, wk]
  with_reducible refine Exists.elim hes (fun es m3 => ?_)
  with_reducible refine CC.mono (hE h3 es i m3 (by omega)) (fun v h4 hv => ?_)
  with_reducible refine Exists.elim hv (fun es4 hv => ?_)
  have m4 := hv.1
  have mo4 := hv.2.1
  have r4 := hv.2.2.1
  clear hv
  have n4 := mo4.n
  have hml := places_len s.size (Mt (L.map Prod.fst) s (L.length - 1) i)
  change (ml (L.map Prod.fst) s (L.length - 1) i).length ≤ _ at hml
  have fin4 : Pre h h4 := fin h4 (by omega) (fun j hj => (mo4.ob j (by omega) (by omega)).trans (hob3 j (by omega) (by omega)))
  have hno' : ∀ j, j < i → ml (L.map Prod.fst) s ((L.map Prod.fst).length - 1) j = [] := by rw [hlen]; exact hno
  have fnd : ∀ e, (ml (L.map Prod.fst) s (L.length - 1) i).getLast? = some e → FindQ (L.map Prod.fst) s (.tuple #[.int .i64 (i : Nat), .int .i64 (e : Nat), .bool true]) := fun e he => by
    refine .inl ⟨i, e, by omega, hno', ?_, ?_, rfl⟩
    · rw [hlen]; intro e2; rw [e2] at he; cases he
    · rw [hlen]; exact he
  have hno5 : ml (L.map Prod.fst) s (L.length - 1) i = [] → ∀ j, j < i + 1 → ml (L.map Prod.fst) s (L.length - 1) j = [] := fun e j hj => by
    by_cases e2 : j = i
    · subst e2; exact e
    · exact hno j (by omega)
  generalize ml (L.map Prod.fst) s (L.length - 1) i = T at *
  have yv := r4.one
  have kf := r4.rde (fun _ => rfl)
  with_reducible refine Exists.elim kf (fun B kf => ?_)
  with_reducible refine Exists.elim kf (fun cB kf => ?_)
  have eB := kf.1
  clear kf
  subst eB
  simp (maxSteps := 1000000) -implicitDefEqProofs only [push_cast, seval]
  with_reducible refine bcase_d (fun hb2 => ?_) (fun hb2 => ?_)
  · have h0 : 0 < T.length := by omega
    have rk := rdN r4 (show T.length - 1 < T.length by omega) rfl
    with_reducible refine Exists.elim rk (fun id hv => ?_)
    with_reducible refine Exists.elim hv (fun off hv => ?_)
    have ev := hv.1
    have vlt := hv.2.1
    have vrd := hv.2.2
    clear hv rk
    subst ev
    have wT : IntKind.i64.wrap ((T.length : Int) - 1) = ((T.length - 1 : Nat) : Int) := by rw [w64 (by omega) (by omega)]; omega
    refine WC.draw' (by kernel_rfl) (by kernel_rfl) (.q 0 (.q 1 (.q 2 (.q 3 (.q 4 (.q 5 (.q 6 (.q 7 (.q 8 (.q 9 (.done))))))))))) (by kernel_rfl) ?_
    simp (maxSteps := 1000000) -implicitDefEqProofs only [push_cast, seval, wT, vrd, vlt]
    refine And.intro (by omega) (And.intro (by omega) ?_)
    exact ⟨fnd _ (by rw [List.getLast?_eq_getElem?, List.getElem?_eq_getElem]), fin4⟩
  · have eT : T = [] := List.eq_nil_of_length_eq_zero (by omega)
    simp (maxSteps := 1000000) -implicitDefEqProofs only [push_cast, seval]
    rw [wrapSucc (by omega)]
    exact ⟨i + 1, by kernel_rfl, ⟨by omega, hno5 eT, ⟨es4, m4⟩, by omega, fun j hj hm => (mo4.ob j (by omega) hm).trans (hob3 j hj hm)⟩, by omega⟩
end Go.Proofs.Ytciajhpeikemoaa
namespace Go.Proofs.Ytciajhpeikemoaa
open Go Go.Sim Go.Proofs
set_option linter.unusedSimpArgs false
set_option linter.unusedVariables false
set_option maxRecDepth 100000
set_option maxHeartbeats 1000000
theorem ends_to {t s : ByteArray} {o : List Pc} (e : readP t = some o) {i : Nat} {h : AH} (hi : i ≤ s.size) (hs : s.size ≤ 100000) (ht : t.size ≤ maxLen) {K : Value → AH → Prop}
    (hk : ∀ v h', RdV h' v 1 encNa (ml o s (o.length - 1) i) → Pre h h' → K v h') : CC Try.prog 14 [.string t, .string s, .int .i64 (i : Nat)] h K :=
  CC.mono (ends_c t s o e i h hi hs ht) (fun v h' hv => hk v h' hv.1 hv.2)
theorem in_to {v : Value} {o : List Pc} (ok : Okp o) {s : ByteArray} {k i x : Nat} {h : AH} (hk : k < o.length) (hi : i ≤ s.size) (hs : s.size ≤ 100000) (r : RdV h v 1 encNa (ml o s k i)) {K : Value → AH → Prop}
    (h1 : ∀ b : Bool, (b = true ↔ Mt o s k i x) → K (.bool b) h) : CC Try.prog 16 [v, .int .i64 (x : Nat)] h K := by
  have hl := places_len s.size (Mt o s k i)
  exact CD.to (in_c v _ x h r (by unfold ml; omega)) (h1 _ (by rw [decide_eq_true_eq]; exact ml_mem ok hk hi))
theorem DrawPatterns_to {A : Option Addr} {c : Nat} {l : List Nat} {h : AH} (hR : RdE h A 1 byV l) (hl : ∀ n ∈ l, n < 256) (hn : l.length ≤ 1048576) {K : Value → AH → Prop}
    (hk : ∀ a b s h', a ∈ txs → b ∈ txs → Wrd 8 s → Pre h h' → K (.tuple #[.string a, .string b, .string s]) h') : CC Try.prog 13 [.slice A l.length c] h K :=
  CC.mono (DrawPatterns_c A c l h hR hl hn) (fun v h' hv => by
    obtain ⟨⟨a, b, s, rfl, ha, hb, hs⟩, p⟩ := hv
    exact hk a b s h' ha hb hs p)
theorem tx_one {a : ByteArray} (ha : a ∈ txs) : ∃ A, readP a = some A ∧ readP (oneT a 42) = some (oneL 7 A) ∧ readP (oneT a 43) = some (oneL 8 A) ∧ readP (oneT a 63) = some (oneL 9 A) ∧ readP (moreT a) = some (twoL 5 A (oneL 7 A)) := by
  have := List.all_eq_true.1 one_all a ha
  unfold oneB at this
  split at this
  · rename_i A e
    simp only [Bool.and_eq_true] at this
    exact ⟨A, e, rdE'_eq this.1.1.1, rdE'_eq this.1.1.2, rdE'_eq this.1.2, rdE'_eq this.2⟩
  · cases this
theorem tx_two {a b : ByteArray} (ha : a ∈ txs) (hb : b ∈ txs) : ∃ A B, readP a = some A ∧ readP b = some B ∧ readP (altT a b) = some (twoL 6 A B) ∧ readP (rowT a b) = some (twoL 5 A B) := by
  have := List.all_eq_true.1 (List.all_eq_true.1 two_all a ha) b hb
  unfold twoB at this
  split at this
  · rename_i A B e1 e2
    simp only [Bool.and_eq_true] at this
    exact ⟨A, B, e1, e2, rdE'_eq this.1, rdE'_eq this.2⟩
  · cases this
theorem tx_size {a : ByteArray} (ha : a ∈ txs) : a.size ≤ 7 := by
  have := List.all_eq_true.1 txs_small a ha
  simpa using this
theorem ReadPattern_to {t : ByteArray} {o : List Pc} (e : readP t = some o) {h : AH} (ht : t.size ≤ maxLen) {K : Value → AH → Prop}
    (hk : ∀ rv L h', o = L.map Prod.fst → RdPat h' rv L → Pre h h' → K (.tuple #[.agg #[rv], .bool true]) h') : CC Try.prog 17 [.string t] h K :=
  CC.mono (ReadPattern_i t h ht) (fun v h' hv => by
    obtain ⟨p, q⟩ := hv
    rcases q with ⟨e2, _⟩ | ⟨rv, L, e2, rfl, w⟩
    · rw [e] at e2; cases e2
    · rw [e] at e2; exact hk rv L h' (Option.some.inj e2) w p)
theorem law_Alternatives (A : Option Addr) (c : Nat) (l : List Nat) (h : AH) (hR : RdE h A 1 byV l) (hl : ∀ n ∈ l, n < 256) (hn : l.length ≤ 1048576) : CE Try.prog 6 [.slice A l.length c] h fun v _ => v = .bool true := by
  have hml := maxLen_eq
  refine CE.withBig (fun big => ?_)
  refine CE.ofN Try.func6 Try.ntmps6 Try.results6 rfl (by kernel_rfl) ?_
  simp (maxSteps := 1000000) -implicitDefEqProofs only [push_cast, seval]
  with_reducible refine CD.to (big_c A l.length c h) ?_
  simp (maxSteps := 1000000) -implicitDefEqProofs only [push_cast, seval]
  have nb : decide ((1048576 : Int) < l.length) = false := decide_eq_false (by omega)
  simp (maxSteps := 1000000) -implicitDefEqProofs only [push_cast, seval, nb]
  with_reducible refine DrawPatterns_to hR hl hn (fun a b s h1 ha hb hs p1 => ?_)
  simp (maxSteps := 1000000) -implicitDefEqProofs only [push_cast, seval]
  have tw := tx_two ha hb
  with_reducible refine Exists.elim tw (fun LA tw => ?_)
  with_reducible refine Exists.elim tw (fun LB tw => ?_)
  have eA := tw.1
  have eB := tw.2.1
  have eZ := tw.2.2.1
  clear tw
  have kA := readP_ok eA
  have kB := readP_ok eB
  have kZ := readP_ok eZ
  have za := tx_size ha
  have zb := tx_size hb
  have zs := hs.1
  have zZ : (altT a b).size = a.size + b.size + 5 := by
    unfold altT
    simp only [ByteArray.size_append]
    rw [show (⟨#[40]⟩ : ByteArray).size = 1 from rfl, show (⟨#[41, 124, 40]⟩ : ByteArray).size = 3 from rfl, show (⟨#[41]⟩ : ByteArray).size = 1 from rfl]; omega
  have eZ' := eZ
  have z1 : (⟨#[40]⟩ : ByteArray).size = 1 := rfl
  have z2 : (⟨#[41, 124, 40]⟩ : ByteArray).size = 3 := rfl
  have z3 : (⟨#[41]⟩ : ByteArray).size = 1 := rfl
  unfold altT at eZ'
  have law := fun i j => alt_law (s := s) (i := i) (j := j) kZ.1 kA.1 kB.1 kA.2.1 kB.2.1
  refine WC.loopA (by kernel_rfl) [6] [2, 7, 8, 9, 10, 21, 22, 23, 24, 25, 26, 27, 28, 29, 30, 31, 32, 33, 34, 35, 36, 37, 38, 39, 40, 41, 42, 43, 44, 45, 46, 47, 48, 49, 50, 51, 52, 53, 54, 55, 56, 57, 58, 59, 60, 61] (fun i : Nat => [.int .i64 (i : Nat)]) (fun i h' => i ≤ s.size + 1 ∧ Pre h1 h') (fun i => s.size + 1 - i) 0 (by kernel_rfl) ⟨by omega, Pre.refl _⟩ ?_
  intro i g h2 hJ
  have hi := hJ.1
  have p2 := hJ.2
  clear hJ
  simp (maxSteps := 1000000) -implicitDefEqProofs only [push_cast, seval]
  with_reducible refine bcase_d (fun hb1 => ?_) (fun hb1 => ?_)
  · simp (maxSteps := 1000000) -implicitDefEqProofs only [push_cast, seval]
    with_reducible refine ends_to eA (by omega) (by omega) (by omega) (fun x h3 rx p3 => ?_)
    simp (maxSteps := 1000000) -implicitDefEqProofs only [push_cast, seval]
    with_reducible refine ends_to eB (by omega) (by omega) (by omega) (fun y h4 ry p4 => ?_)
    simp (maxSteps := 1000000) -implicitDefEqProofs only [push_cast, seval]
    repeat (with_reducible refine And.intro (by first | omega | (simp only [ByteArray.size_append]; omega)) ?_)
    with_reducible refine ends_to eZ' (by omega) (by omega) (by rw [← altT]; omega) (fun z h5 rz p5 => ?_)
    simp (maxSteps := 1000000) -implicitDefEqProofs only [push_cast, seval]
    refine WC.loopA (by kernel_rfl) [10] [2, 44, 45, 46, 47, 48, 49, 50, 51, 52, 53, 54, 55, 56, 57, 58, 59, 60, 61] (fun k : Nat => [.int .i64 (k : Nat)]) (fun k h' => k ≤ s.size + 1 ∧ Pre h5 h') (fun k => s.size + 1 - k) 0 (by kernel_rfl) ⟨by omega, Pre.refl _⟩ ?_
    intro k g2 h6 hJ
    have hk := hJ.1
    have p6 := hJ.2
    clear hJ
    simp (maxSteps := 1000000) -implicitDefEqProofs only [push_cast, seval]
    with_reducible refine bcase_d (fun hb2 => ?_) (fun hb2 => ?_)
    · simp (maxSteps := 1000000) -implicitDefEqProofs only [push_cast, seval]
      with_reducible refine in_to kZ.1 (by omega) (by omega) (by omega) (rz.pre p6) (fun bz hz => ?_)
      simp (maxSteps := 1000000) -implicitDefEqProofs only [push_cast, seval]
      with_reducible refine in_to kA.1 (by omega) (by omega) (by omega) (rx.pre ((p4.trans p5).trans p6)) (fun bx hx => ?_)
      simp (maxSteps := 1000000) -implicitDefEqProofs only [push_cast, seval]
      have lw := law i k
      with_reducible refine bcase_mk (fun hbx => ?_) (fun hbx => ?_)
      · have eb : bz = true := hz.2 (lw.2 (.inl (hx.1 hbx)))
        simp (maxSteps := 1000000) -implicitDefEqProofs only [push_cast, seval, eb, beq_self_eq_true]
        rw [wrapSucc (by omega)]
        exact ⟨k + 1, by kernel_rfl, ⟨by omega, p6⟩, by omega⟩
      simp (maxSteps := 1000000) -implicitDefEqProofs only [push_cast, seval]
      with_reducible refine in_to kB.1 (by omega) (by omega) (by omega) (ry.pre (p5.trans p6)) (fun bY hy => ?_)
      have eb : bz = bY := by
        rw [Bool.eq_iff_iff, hz, lw, hy, ← hx, hbx]; simp
      simp (maxSteps := 1000000) -implicitDefEqProofs only [push_cast, seval, eb, beq_self_eq_true]
      rw [wrapSucc (by omega)]
      exact ⟨k + 1, by kernel_rfl, ⟨by omega, p6⟩, by omega⟩
    · simp (maxSteps := 1000000) -implicitDefEqProofs only [push_cast, seval]
      rw [wrapSucc (by omega)]
      exact ⟨i + 1, by kernel_rfl, ⟨by omega, p2.trans (((p3.trans p4).trans p5).trans p6)⟩, by omega⟩
  · simp (maxSteps := 1000000) -implicitDefEqProofs only [push_cast, seval]
    repeat (with_reducible refine And.intro (by first | omega | (simp only [ByteArray.size_append]; omega)) ?_)
    with_reducible refine ReadPattern_to eZ' (by rw [← altT]; omega) (fun rv LZ h3 eL w p3 => ?_)
    have u := w.r.one
    have yy := w.r.cell1
    have wZ : decide (IntKind.i64.wrap (IntKind.i64.wrap ((a.size : Int) + b.size) + 5) ≤ 24) = true := by
      rw [w64 (n := (a.size : Int) + b.size) (by omega) (by omega), w64 (by omega) (by omega)]
      exact decide_eq_true (by omega)
    simp (maxSteps := 1000000) -implicitDefEqProofs only [push_cast, seval, u, all1, wZ, beq_self_eq_true]
    have kk := readP_ok eZ
    rw [eL] at kk
    rw [List.length_map] at kk
    with_reducible refine CD.to (PatternOk_c _ LZ _ (w.pre (((Pre.refl h3).alloc _).set (Nat.le_refl _) _)) kk.1 kk.2.1 kk.2.2) ?_
    simp (maxSteps := 1000000) -implicitDefEqProofs only [push_cast, seval]
theorem law_Alternatives0 (A : Option Addr) (c : Nat) (l : List Nat) (h : AH) (hR : RdE h A 1 byV l) (hl : ∀ n ∈ l, n < 256) (hn : l.length ≤ maxLen) : CE Try.prog 6 [.slice A l.length c] h fun v _ => v = .bool true := by
  by_cases hb : l.length ≤ 1048576
  · exact law_Alternatives A c l h hR hl hb
  refine CE.ofN Try.func6 Try.ntmps6 Try.results6 rfl (by kernel_rfl) ?_
  simp (maxSteps := 1000000) -implicitDefEqProofs only [push_cast, seval]
  with_reducible refine CD.to (big_c A l.length c h) ?_
  have nb : decide ((1048576 : Int) < l.length) = true := decide_eq_true (by omega)
  simp (maxSteps := 1000000) -implicitDefEqProofs only [push_cast, seval, nb]
end Go.Proofs.Ytciajhpeikemoaa
namespace Go.Proofs.Ytciajhpeikemoaa
open Go Go.Sim Go.Proofs
set_option linter.unusedSimpArgs false
set_option linter.unusedVariables false
set_option maxRecDepth 100000
set_option maxHeartbeats 1000000
theorem law_Rows (A : Option Addr) (c : Nat) (l : List Nat) (h : AH) (hR : RdE h A 1 byV l) (hl : ∀ n ∈ l, n < 256) (hn : l.length ≤ 1048576) : CE Try.prog 7 [.slice A l.length c] h fun v _ => v = .bool true := by
  have hml := maxLen_eq
  refine CE.withBig (fun big => ?_)
  refine CE.ofN Try.func7 Try.ntmps7 Try.results7 rfl (by kernel_rfl) ?_
  simp (maxSteps := 1000000) -implicitDefEqProofs only [push_cast, seval]
  with_reducible refine CD.to (big_c A l.length c h) ?_
  simp (maxSteps := 1000000) -implicitDefEqProofs only [push_cast, seval]
  have nb : decide ((1048576 : Int) < l.length) = false := decide_eq_false (by omega)
  simp (maxSteps := 1000000) -implicitDefEqProofs only [push_cast, seval, nb]
  with_reducible refine DrawPatterns_to hR hl hn (fun a b s h1 ha hb hs p1 => ?_)
  simp (maxSteps := 1000000) -implicitDefEqProofs only [push_cast, seval]
  have tw := tx_two ha hb
  with_reducible refine Exists.elim tw (fun LA tw => ?_)
  with_reducible refine Exists.elim tw (fun LB tw => ?_)
  have eA := tw.1
  have eB := tw.2.1
  have eZ := tw.2.2.2
  clear tw
  have kA := readP_ok eA
  have kB := readP_ok eB
  have kZ := readP_ok eZ
  have za := tx_size ha
  have zb := tx_size hb
  have zs := hs.1
  have eZ' := eZ
  have z1 : (⟨#[40]⟩ : ByteArray).size = 1 := rfl
  have z2 : (⟨#[41, 40]⟩ : ByteArray).size = 2 := rfl
  have z3 : (⟨#[41]⟩ : ByteArray).size = 1 := rfl
  unfold rowT at eZ'
  have zZ : (⟨#[40]⟩ ++ a ++ ⟨#[41, 40]⟩ ++ b ++ ⟨#[41]⟩ : ByteArray).size = a.size + b.size + 4 := by
    simp only [ByteArray.size_append]; omega
  have law := fun i j => row_law (s := s) (i := i) (j := j) kZ.1 kA.1 kB.1 kA.2.1 kB.2.1
  repeat (with_reducible refine And.intro (by first | omega | (simp only [ByteArray.size_append]; omega)) ?_)
  with_reducible refine CC.mono (ReadPattern_s _ h1 (by omega)) (fun v h2 hv => ?_)
  have p2 := hv.1
  have hv2 := hv.2
  clear hv
  unfold PatV at hv2
  with_reducible refine Or.elim hv2 (fun hn => ?_) (fun hy => ?_)
  · exfalso
    rw [hn.1] at eZ'; cases eZ'
  with_reducible refine Exists.elim hy (fun rv hy => ?_)
  with_reducible refine Exists.elim hy (fun LZ hy => ?_)
  have eL := hy.1
  have ev := hy.2.1
  have w := hy.2.2
  clear hy hv2
  subst ev
  have u := w.r.one
  have yy := w.r.cell1
  simp (maxSteps := 1000000) -implicitDefEqProofs only [push_cast, seval, u, yy, all1]
  have pz : Pre h2 ((h2.alloc (.cells [.slice none 0 0] .solo h2.n)).set h2.n (.cells [rv] .solo h2.n)) := ((Pre.refl h2).alloc _).set (Nat.le_refl _) _
  generalize ((h2.alloc (.cells [.slice none 0 0] .solo h2.n)).set h2.n (.cells [rv] .solo h2.n)) = h2' at *
  have lenA := places_len s.size
  refine WC.loopA (by kernel_rfl) [8] [2, 9, 10, 11, 12, 13, 34, 35, 36, 37, 38, 39, 40, 41, 42, 43, 44, 45, 46, 47, 48, 49, 50, 51, 52, 53, 54, 55, 56, 57, 58, 59, 60, 61, 62, 63, 64, 65, 66, 67, 68, 69, 70, 71, 72, 73, 74, 75, 76, 77, 78, 79, 80, 81, 82, 83, 84] (fun i : Nat => [.int .i64 (i : Nat)]) (fun i h' => i ≤ s.size + 1 ∧ Pre h2' h') (fun i => s.size + 1 - i) 0 (by kernel_rfl) ⟨by omega, Pre.refl _⟩ ?_
  intro i g h3 hJ
  have hi := hJ.1
  have p3 := hJ.2
  clear hJ
  simp (maxSteps := 1000000) -implicitDefEqProofs only [push_cast, seval]
  with_reducible refine bcase_d (fun hb1 => ?_) (fun hb1 => ?_)
  · simp (maxSteps := 1000000) -implicitDefEqProofs only [push_cast, seval]
    with_reducible refine ends_to eA (by omega) (by omega) (by omega) (fun x h4 rx p4 => ?_)
    have hx := lenA (Mt LA s (LA.length - 1) i)
    change (ml LA s (LA.length - 1) i).length ≤ _ at hx
    have mx := fun m => ml_mem kA.1 (s := s) (k := LA.length - 1) (i := i) (j := m) (by omega) (by omega)
    have inx := fun m => Mt_in kA.1 (s := s) (LA.length - 1) (by omega) i m (by omega)
    simp (maxSteps := 1000000) -implicitDefEqProofs only [push_cast, seval]
    repeat (with_reducible refine And.intro (by first | omega | (simp only [ByteArray.size_append]; omega)) ?_)
    with_reducible refine ends_to eZ' (by omega) (by omega) (by omega) (fun z h5 rz p5 => ?_)
    simp (maxSteps := 1000000) -implicitDefEqProofs only [push_cast, seval]
    have rx5 := rx.pre p5
    generalize ml LA s (LA.length - 1) i = X at *
    refine WC.loopA (by kernel_rfl) [11] [2, 12, 13, 56, 57, 58, 59, 60, 61, 62, 63, 64, 65, 66, 67, 68, 69, 70, 71, 72, 73, 74, 75, 76, 77, 78, 79, 80, 81, 82, 83, 84] (fun k : Nat => [.int .i64 (k : Nat)]) (fun k h' => k ≤ s.size + 1 ∧ Pre h5 h') (fun k => s.size + 1 - k) 0 (by kernel_rfl) ⟨by omega, Pre.refl _⟩ ?_
    intro k g2 h6 hJ
    have hk := hJ.1
    have p6 := hJ.2
    clear hJ
    simp (maxSteps := 1000000) -implicitDefEqProofs only [push_cast, seval]
    with_reducible refine bcase_d (fun hb2 => ?_) (fun hb2 => ?_)
    · simp (maxSteps := 1000000) -implicitDefEqProofs only [push_cast, seval]
      refine WC.loopA (by kernel_rfl) [12, 13] [62, 63, 64, 65, 66, 67, 68, 69, 70, 71, 72, 73, 74, 75, 76, 77, 78, 79] (fun a : Nat × Bool => [.bool a.2, .int .i64 (a.1 : Nat)]) (fun a h' => a.1 ≤ X.length ∧ (a.2 = true ↔ ∃ q, ∃ hq : q < X.length, q < a.1 ∧ Mt LB s (LB.length - 1) X[q] k) ∧ Pre h6 h') (fun a => X.length - a.1) (0, false) (by kernel_rfl) ⟨Nat.zero_le _, ⟨fun e => (by cases e), fun ⟨q, _, e, _⟩ => absurd e (Nat.not_lt_zero q)⟩, Pre.refl _⟩ ?_
      intro a g3 h7 hJ
      have hq := hJ.1
      have hs7 := hJ.2.1
      have p7 := hJ.2.2
      clear hJ
      have rx7 := (rx5.pre p6).pre p7
      have yx := rx7.one
      have kf := rx7.rde (fun _ => rfl)
      with_reducible refine Exists.elim kf (fun Ax kf => ?_)
      with_reducible refine Exists.elim kf (fun cx kf => ?_)
      have ex := kf.1
      clear kf
      subst ex
      have step : ∀ b' : Bool, (b' = true ↔ a.2 = true ∨ ∃ hq : a.1 < X.length, Mt LB s (LB.length - 1) X[a.1] k) → (b' = true ↔ ∃ q, ∃ hq : q < X.length, q < a.1 + 1 ∧ Mt LB s (LB.length - 1) X[q] k) := fun b' hb' => by
        rw [hb', hs7]
        constructor
        · rintro (⟨q, h1, h2, h3⟩ | ⟨h1, h2⟩)
          · exact ⟨q, h1, by omega, h3⟩
          · exact ⟨a.1, h1, by omega, h2⟩
        · rintro ⟨q, h1, h2, h3⟩
          by_cases e : q = a.1
          · subst e; exact .inr ⟨h1, h3⟩
          · exact .inl ⟨q, h1, by omega, h3⟩
      simp (maxSteps := 1000000) -implicitDefEqProofs only [push_cast, seval]
      with_reducible refine bcase_d (fun hb3 => ?_) (fun hb3 => ?_)
      · have hq' : a.1 < X.length := by omega
        have rk := rdN rx7 hq' rfl
        have xin := inx X[a.1] ((mx X[a.1]).1 (List.getElem_mem hq'))
        have step2 := fun b' => step b'
        have mem : ∀ b' : Bool, (b' = true ↔ Mt LB s (LB.length - 1) X[a.1] k) → a.2 = false → (b' = true ↔ ∃ q, ∃ hq : q < X.length, q < a.1 + 1 ∧ Mt LB s (LB.length - 1) X[q] k) := fun b' hb' e => step b' (by
          rw [hb', e]
          exact ⟨fun h => .inr ⟨hq', h⟩, fun h => by
            rcases h with h | ⟨_, h⟩
            · cases h
            · exact h⟩)
        have mem2 : a.2 = true → (true = true ↔ ∃ q, ∃ hq : q < X.length, q < a.1 + 1 ∧ Mt LB s (LB.length - 1) X[q] k) := fun e => step true (by rw [e]; simp)
        generalize X[a.1] = T at *
        with_reducible refine Exists.elim rk (fun id hv => ?_)
        with_reducible refine Exists.elim hv (fun off hv => ?_)
        have ev := hv.1
        have vlt := hv.2.1
        have vrd := hv.2.2
        clear hv rk
        subst ev
        simp (maxSteps := 1000000) -implicitDefEqProofs only [push_cast, seval, vrd, vlt]
        with_reducible refine bcase_mk (fun ha => ?_) (fun ha => ?_)
        · simp (maxSteps := 1000000) -implicitDefEqProofs only [push_cast, seval, ha]
          rw [wrapSucc (by omega)]
          exact ⟨(a.1 + 1, true), by kernel_rfl, ⟨by show a.1 + 1 ≤ X.length; omega, mem2 ha, p7⟩, by show X.length - (a.1 + 1) < X.length - a.1; omega⟩
        · simp (maxSteps := 1000000) -implicitDefEqProofs only [push_cast, seval, ha, vrd, vlt]
          repeat (with_reducible refine And.intro ?_ ?_; · (first | omega | decide))
          with_reducible refine ends_to eB (by omega) (by omega) (by omega) (fun w h8 rw8 p8 => ?_)
          simp (maxSteps := 1000000) -implicitDefEqProofs only [push_cast, seval, ha]
          with_reducible refine in_to kB.1 (by omega) (by omega) (by omega) rw8 (fun bw hw => ?_)
          simp (maxSteps := 1000000) -implicitDefEqProofs only [push_cast, seval, ha]
          rw [wrapSucc (by omega)]
          exact ⟨(a.1 + 1, bw), by kernel_rfl, ⟨by show a.1 + 1 ≤ X.length; omega, mem bw hw ha, p7.trans p8⟩, by show X.length - (a.1 + 1) < X.length - a.1; omega⟩
      · simp (maxSteps := 1000000) -implicitDefEqProofs only [push_cast, seval]
        have ea : a.1 = X.length := by omega
        with_reducible refine in_to kZ.1 (by omega) (by omega) (by omega) (rz.pre (p6.trans p7)) (fun bz hz => ?_)
        have eb : bz = a.2 := by
          rw [Bool.eq_iff_iff, hz, law, hs7]
          constructor
          · rintro ⟨m, m1, m2⟩
            obtain ⟨q, hq1, hq2⟩ := List.getElem_of_mem ((mx m).2 m1)
            exact ⟨q, hq1, by omega, by rw [hq2]; exact m2⟩
          · rintro ⟨q, hq1, _, m2⟩
            exact ⟨_, (mx _).1 (List.getElem_mem hq1), m2⟩
        simp (maxSteps := 1000000) -implicitDefEqProofs only [push_cast, seval, eb, beq_self_eq_true]
        rw [wrapSucc (by omega)]
        exact ⟨k + 1, by kernel_rfl, ⟨by omega, p6.trans p7⟩, by omega⟩
    · simp (maxSteps := 1000000) -implicitDefEqProofs only [push_cast, seval]
      rw [wrapSucc (by omega)]
      exact ⟨i + 1, by kernel_rfl, ⟨by omega, p3.trans ((p4.trans p5).trans p6)⟩, by omega⟩
  · simp (maxSteps := 1000000) -implicitDefEqProofs only [push_cast, seval]
    with_reducible refine ReadPattern_to eA (by omega) (fun rv LZ h3 eL w p3 => ?_)
    have u := w.r.one
    have yy := w.r.cell1
    simp (maxSteps := 1000000) -implicitDefEqProofs only [push_cast, seval, u, all1]
    rw [eL] at kA
    rw [List.length_map] at kA
    with_reducible refine CD.to (PatternOk_c _ LZ _ (w.pre (((Pre.refl h3).alloc _).set (Nat.le_refl _) _)) kA.1 kA.2.1 kA.2.2) ?_
    simp (maxSteps := 1000000) -implicitDefEqProofs only [push_cast, seval]
theorem law_Rows0 (A : Option Addr) (c : Nat) (l : List Nat) (h : AH) (hR : RdE h A 1 byV l) (hl : ∀ n ∈ l, n < 256) (hn : l.length ≤ maxLen) : CE Try.prog 7 [.slice A l.length c] h fun v _ => v = .bool true := by
  by_cases hb : l.length ≤ 1048576
  · exact law_Rows A c l h hR hl hb
  refine CE.ofN Try.func7 Try.ntmps7 Try.results7 rfl (by kernel_rfl) ?_
  simp (maxSteps := 1000000) -implicitDefEqProofs only [push_cast, seval]
  with_reducible refine CD.to (big_c A l.length c h) ?_
  have nb : decide ((1048576 : Int) < l.length) = true := decide_eq_true (by omega)
  simp (maxSteps := 1000000) -implicitDefEqProofs only [push_cast, seval, nb]
end Go.Proofs.Ytciajhpeikemoaa
/- One element of a slice that is read whole; what holds of every heap that stands for a world, behind a call; fields written in place. Conditions: those that each theorem names. -/
set_option linter.unusedVariables false
set_option linter.unusedSimpArgs false
namespace Go.Sim
variable {P : Program} {h : AH}
theorem RdV.el {α : Type} {h : AH} {v : Value} {k : Nat} {enc : α → List Value} {l : List α} (r : RdV h v k enc l) (hl : ∀ x, (enc x).length = k) {i : Nat} (hi : i < l.length) : ∃ id off c, v = .slice (some ⟨id, off, none⟩) l.length c ∧ id < h.n ∧ rd h id (off + i * k) k = some (enc l[i]) := by
  rcases r with ⟨c, rfl, rfl⟩ | ⟨id, off, c, rfl, q, hlt⟩
  · cases hi
  · exact ⟨id, off, c, rfl, hlt, chunk_of (n := 0) (fun x _ => hl x) q hi⟩
/-- What holds of every heap that stands for a world. -/
structure Wf (h : AH) : Prop where
  lin : Lin h
  fit : Fit h
  big : Big h
theorem CC.wf {f : FuncId} {args : List Value} {R : Value → AH → Prop} (hc : CC P f args h R) : CC P f args h (fun v h' => R v h' ∧ Wf h') :=
  fun FB w0 μ w cargs o a K Q s ha hk => hc FB w0 μ w cargs o a K Q s ha (fun v h' μ' cv w' r p hv => hk v h' μ' cv w' ⟨r, p.sim.lin, ⟨p.sim.tipu, p.sim.solo⟩, p.sim.big⟩ p hv)
theorem CC.withWf {f : FuncId} {args : List Value} {R : Value → AH → Prop} (hc : Wf h → CC P f args h R) : CC P f args h R := fun FB w0 μ w cargs o a K Q s => hc ⟨s.lin, ⟨s.tipu, s.solo⟩, s.big⟩ FB w0 μ w cargs o a K Q s
theorem Lin.alloc (l : Lin h) (cs : List Value) : Lin (h.alloc (.cells cs .solo h.n)) := fun i n e => by
  by_cases c : i = h.n
  · subst c
    rw [alloc_same] at e
    simp [AOb.own] at e
    omega
  · have : (h.alloc (.cells cs .solo h.n)).ob i = h.ob i := by simp [AH.alloc, c]
    rw [this] at e; exact l i n e
theorem Fit.alloc (f : Fit h) (l : Lin h) (b : Big h) (cs : List Value) : Fit (h.alloc (.cells cs .solo h.n)) := by
  have old : ∀ i, i ≠ h.n → (h.alloc (.cells cs .solo h.n)).ob i = h.ob i := fun i c => by simp [AH.alloc, c]
  refine ⟨fun i j ci cj n ei ej => ?_, fun i ci n ei => ?_⟩
  · by_cases c : i = h.n
    · subst c; rw [alloc_same] at ei; cases ei
    · by_cases c2 : j = h.n
      · subst c2; rw [alloc_same] at ej; cases ej
      · rw [old i c] at ei; rw [old j c2] at ej; exact f.tipu i j ci cj n ei ej
  · by_cases c : i = h.n
    · subst c
      rw [alloc_same] at ei
      injection ei with _ _ e3
      refine ⟨e3.symm, fun j ej => ?_⟩
      by_cases c2 : j = h.n
      · exact c2
      · rw [old j c2] at ej
        have := l j _ ej
        have hn := b j this
        rw [hn] at ej
        cases ej
    · rw [old i c] at ei
      have := f.solo i ci n ei
      refine ⟨this.1, fun j ej => ?_⟩
      by_cases c2 : j = h.n
      · subst c2
        rw [alloc_same] at ej
        simp [AOb.own] at ej
        omega
      · rw [old j c2] at ej; exact this.2 j ej
theorem Wf.alloc (w : Wf h) (cs : List Value) : Wf (h.alloc (.cells cs .solo h.n)) := ⟨w.lin.alloc cs, w.fit.alloc w.lin w.big cs, w.big.alloc _⟩
/-! ### elements of so many cells each: one is written -/
theorem putL_app_left : ∀ (vs a b : List Value) (o : Nat), o + vs.length ≤ a.length → putL (a ++ b) o vs = putL a o vs ++ b
  | [], _, _, _, _ => rfl
  | v :: r, a, b, o, h => by
    simp only [List.length_cons] at h
    rw [putL, putL, List.set_append_left _ _ (by omega), putL_app_left r _ b (o + 1) (by rw [List.length_set]; omega)]
theorem putL_app_right : ∀ (vs a b : List Value) (o : Nat), putL (a ++ b) (a.length + o) vs = a ++ putL b o vs
  | [], _, _, _ => rfl
  | v :: r, a, b, o => by
    rw [putL, putL, List.set_append_right _ _ (by omega), Nat.add_sub_cancel_left, Nat.add_assoc]
    exact putL_app_right r a (b.set o v) (o + 1)
theorem putL_flat {α : Type} {enc : α → List Value} {c : Nat} (hl : ∀ x, (enc x).length = c) : ∀ (l : List α) (k : Nat) (hk : k < l.length) (j : Nat) (vs : List Value) (y : α), j + vs.length ≤ c → putL (enc l[k]) j vs = enc y →
    putL (l.map enc).flatten (k * c + j) vs = ((l.set k y).map enc).flatten
  | x :: r, 0, _, j, vs, y, hj, e => by
    simp only [List.getElem_cons_zero] at e
    rw [Nat.zero_mul, Nat.zero_add, List.map_cons, List.flatten_cons, putL_app_left _ _ _ _ (by rw [hl]; exact hj), e]
    rfl
  | x :: r, k + 1, hk, j, vs, y, hj, e => by
    simp only [List.getElem_cons_succ] at e
    have ih := putL_flat hl r k (by simpa using hk) j vs y hj e
    rw [List.map_cons, List.flatten_cons, show (k + 1) * c + j = (enc x).length + (k * c + j) by rw [hl, Nat.add_mul]; omega, putL_app_right, ih]
    rfl
theorem GrL.open {n0 : Nat} {v : Value} {k m : Nat} {cs : List Value} (w : GrL n0 h v k cs) (hm : cs.length = m * k) (h0 : 0 < m) (hk : 0 < k) : ∃ id off, v = .slice (some ⟨id, off, none⟩) m k ∧ Own h id off m k cs ∧ n0 ≤ id ∧ id < h.n := by
  have hmk : 0 < m * k := Nat.mul_pos h0 hk
  rcases w.gr with ⟨c, rfl, rfl⟩ | ⟨id, off, n, rfl, b, o⟩
  · simp at hm; omega
  · have hn : n = m := by
      have := o.len
      rw [hm] at this
      exact (Nat.eq_of_mul_eq_mul_right hk this).symm
    subst hn
    exact ⟨id, off, rfl, o, b, o.lt⟩
theorem line_solo {i ln : Nat} {cs : List Value} (e : h.ob i = .cells cs .solo ln) : Line h i ln := ⟨_, _, e, .inl rfl⟩
/-- What another object is, when one's own slice was written. -/
theorem Wr.solo {h' : AH} {id : Nat} (x : Wr h h' id) (f : Fit h) {j ln : Nat} {cs : List Value} (e : h.ob j = .cells cs .solo ln) (hj : j ≠ id) : h'.ob j = h.ob j :=
  x.ob j hj (fun l hl => f.ne hl (line_solo e) (Ne.symm hj))
theorem Gr.open {n0 : Nat} {v : Value} {k m : Nat} {cs : List Value} (w : Gr n0 h v k cs) (hm : cs.length = m * k) (h0 : 0 < m) (hk : 0 < k) : ∃ id off, v = .slice (some ⟨id, off, none⟩) m k ∧ Own h id off m k cs ∧ n0 ≤ id ∧ id < h.n := by
  have hmk : 0 < m * k := Nat.mul_pos h0 hk
  rcases w with ⟨c, rfl, rfl⟩ | ⟨id, off, n, rfl, b, o⟩
  · simp at hm; omega
  · have hn : n = m := by
      have := o.len
      rw [hm] at this
      exact (Nat.eq_of_mul_eq_mul_right hk this).symm
    subst hn
    exact ⟨id, off, rfl, o, b, o.lt⟩
theorem wt_undef (i : Nat) (S : List (Nat × Nat)) : wt i undef S = S := rfl
end Go.Sim
namespace Go.Proofs.Ytciajhpeikemoaa
open Go Go.Sim Go.Proofs
set_option linter.unusedSimpArgs false
set_option linter.unusedVariables false
set_option maxRecDepth 100000
set_option maxHeartbeats 1000000
theorem law_Stars (A : Option Addr) (c : Nat) (l : List Nat) (h : AH) (hR : RdE h A 1 byV l) (hl : ∀ n ∈ l, n < 256) (hn : l.length ≤ 1048576) : CE Try.prog 3 [.slice A l.length c] h fun v _ => v = .bool true := by
  have hml := maxLen_eq
  refine CE.withBig (fun big => ?_)
  refine CE.ofN Try.func3 Try.ntmps3 Try.results3 rfl (by kernel_rfl) ?_
  simp (maxSteps := 1000000) -implicitDefEqProofs only [push_cast, seval]
  with_reducible refine CD.to (big_c A l.length c h) ?_
  simp (maxSteps := 1000000) -implicitDefEqProofs only [push_cast, seval]
  have nb : decide ((1048576 : Int) < l.length) = false := decide_eq_false (by omega)
  simp (maxSteps := 1000000) -implicitDefEqProofs only [push_cast, seval, nb]
  with_reducible refine DrawPatterns_to hR hl hn (fun a b s h1 ha hb hs p1 => ?_)
  simp (maxSteps := 1000000) -implicitDefEqProofs only [push_cast, seval]
  have tw := tx_one ha
  with_reducible refine Exists.elim tw (fun LA tw => ?_)
  have eA := tw.1
  have eS := tw.2.1
  have eP := tw.2.2.1
  have eO := tw.2.2.2.1
  have eM := tw.2.2.2.2
  clear tw
  have kA := readP_ok eA
  have kS := readP_ok eS
  have kP := readP_ok eP
  have kO := readP_ok eO
  have kM := readP_ok eM
  have za := tx_size ha
  have zs := hs.1
  have z1 : (⟨#[40]⟩ : ByteArray).size = 1 := rfl
  have z2 : (⟨#[41, 42]⟩ : ByteArray).size = 2 := rfl
  have z3 : (⟨#[41, 43]⟩ : ByteArray).size = 2 := rfl
  have z4 : (⟨#[41, 63]⟩ : ByteArray).size = 2 := rfl
  have z5 : (⟨#[41, 40]⟩ : ByteArray).size = 2 := rfl
  unfold oneT at eS eP eO
  unfold moreT at eM
  have y1 : (⟨#[40]⟩ ++ a ++ ⟨#[41, 42]⟩ : ByteArray).size = a.size + 3 := by simp only [ByteArray.size_append]; omega
  have y2 : (⟨#[40]⟩ ++ a ++ ⟨#[41, 43]⟩ : ByteArray).size = a.size + 3 := by simp only [ByteArray.size_append]; omega
  have y3 : (⟨#[40]⟩ ++ a ++ ⟨#[41, 63]⟩ : ByteArray).size = a.size + 3 := by simp only [ByteArray.size_append]; omega
  have y4 : (⟨#[40]⟩ ++ a ++ ⟨#[41, 40]⟩ ++ a ++ ⟨#[41, 42]⟩ : ByteArray).size = a.size + a.size + 5 := by simp only [ByteArray.size_append]; omega
  have lS := fun i j => star_law (s := s) (i := i) (j := j) kS.1 kA.1 kA.2.1
  have lP := fun i j => plus_law (s := s) (i := i) (j := j) kP.1 kA.1 kA.2.1
  have lO := fun i j => opt_law (s := s) (i := i) (j := j) kO.1 kA.1 kA.2.1
  have lM := fun i j => row_law (s := s) (i := i) (j := j) kM.1 kA.1 kS.1 kA.2.1 kS.2.1
  refine WC.loopA (by kernel_rfl) [6] [2, 7, 8, 9, 10, 11, 12, 13, 14, 25, 26, 27, 28, 29, 30, 31, 32, 33, 34, 35, 36, 37, 38, 39, 40, 41, 42, 43, 44, 45, 46, 47, 48, 49, 50, 51, 52, 53, 54, 55, 56, 57, 58, 59, 60, 61, 62, 63, 64, 65, 66, 67, 68, 69, 70, 71, 72, 73, 74, 75, 76, 77, 78, 79, 80, 81, 82, 83, 84, 85, 86, 87, 88, 89, 90, 91, 92, 93, 94, 95, 96, 97, 98, 99, 100, 101, 102, 103, 104, 105, 106, 107, 108, 109, 110, 111, 112, 113, 114, 115] (fun i : Nat => [.int .i64 (i : Nat)]) (fun i h' => i ≤ s.size + 1 ∧ Pre h1 h') (fun i => s.size + 1 - i) 0 (by kernel_rfl) ⟨by omega, Pre.refl _⟩ ?_
  intro i g h2 hJ
  have hi := hJ.1
  have p2 := hJ.2
  clear hJ
  simp (maxSteps := 1000000) -implicitDefEqProofs only [push_cast, seval]
  with_reducible refine bcase_d (fun hb1 => ?_) (fun hb1 => ?_)
  · simp (maxSteps := 1000000) -implicitDefEqProofs only [push_cast, seval]
    repeat (with_reducible refine And.intro (by first | omega | (simp only [ByteArray.size_append]; omega)) ?_)
    with_reducible refine ends_to eS (by omega) (by omega) (by omega) (fun vS h3 rS p3 => ?_)
    simp (maxSteps := 1000000) -implicitDefEqProofs only [push_cast, seval]
    repeat (with_reducible refine And.intro (by first | omega | (simp only [ByteArray.size_append]; omega)) ?_)
    with_reducible refine ends_to eP (by omega) (by omega) (by omega) (fun vP h4 rP p4 => ?_)
    simp (maxSteps := 1000000) -implicitDefEqProofs only [push_cast, seval]
    repeat (with_reducible refine And.intro (by first | omega | (simp only [ByteArray.size_append]; omega)) ?_)
    with_reducible refine ends_to eO (by omega) (by omega) (by omega) (fun vO h5 rO p5 => ?_)
    simp (maxSteps := 1000000) -implicitDefEqProofs only [push_cast, seval]
    with_reducible refine ends_to eA (by omega) (by omega) (by omega) (fun vA h6 rA p6 => ?_)
    simp (maxSteps := 1000000) -implicitDefEqProofs only [push_cast, seval]
    repeat (with_reducible refine And.intro (by first | omega | (simp only [ByteArray.size_append]; omega)) ?_)
    with_reducible refine ends_to eM (by omega) (by omega) (by omega) (fun vM h7 rM p7 => ?_)
    simp (maxSteps := 1000000) -implicitDefEqProofs only [push_cast, seval]
    repeat (with_reducible refine And.intro (by first | omega | (simp only [ByteArray.size_append]; omega)) ?_)
    with_reducible refine CC.mono (ReadPattern_s _ h7 (by omega)) (fun v h8 hv => ?_)
    have p8 := hv.1
    have hv2 := hv.2
    clear hv
    unfold PatV at hv2
    with_reducible refine Or.elim hv2 (fun hn => ?_) (fun hy => ?_)
    · exfalso
      rw [hn.1] at eM; cases eM
    with_reducible refine Exists.elim hy (fun rv hy => ?_)
    with_reducible refine Exists.elim hy (fun LZ hy => ?_)
    have eL := hy.1
    have ev := hy.2.1
    have w := hy.2.2
    clear hy hv2
    subst ev
    have u := w.r.one
    have yy := w.r.cell1
    simp (maxSteps := 1000000) -implicitDefEqProofs only [push_cast, seval, u, yy, all1]
    have pz : Pre h8 ((h8.alloc (.cells [.slice none 0 0] .solo h8.n)).set h8.n (.cells [rv] .solo h8.n)) := ((Pre.refl h8).alloc _).set (Nat.le_refl _) _
    generalize ((h8.alloc (.cells [.slice none 0 0] .solo h8.n)).set h8.n (.cells [rv] .solo h8.n)) = h9 at *
    have pS := ((((p4.trans p5).trans p6).trans p7).trans p8).trans pz
    have pP := (((p5.trans p6).trans p7).trans p8).trans pz
    have pO := ((p6.trans p7).trans p8).trans pz
    have pA := (p7.trans p8).trans pz
    have pM := p8.trans pz
    refine WC.loopA (by kernel_rfl) [14] [2, 72, 73, 74, 75, 76, 77, 78, 79, 80, 81, 82, 83, 84, 85, 86, 87, 88, 89, 90, 91, 92, 93, 94, 95, 96, 97, 98, 99, 100, 101, 102, 103, 104, 105, 106, 107, 108, 109, 110, 111, 112, 113, 114, 115] (fun k : Nat => [.int .i64 (k : Nat)]) (fun k h' => k ≤ s.size + 1 ∧ Pre h9 h') (fun k => s.size + 1 - k) 0 (by kernel_rfl) ⟨by omega, Pre.refl _⟩ ?_
    intro k g2 h10 hJ
    have hk := hJ.1
    have p10 := hJ.2
    clear hJ
    simp (maxSteps := 1000000) -implicitDefEqProofs only [push_cast, seval]
    with_reducible refine bcase_d (fun hb2 => ?_) (fun hb2 => ?_)
    · have m1 := lS i k
      have m2 := lP i k
      have m3 := lO i k
      have m4 := lM i k
      simp (maxSteps := 1000000) -implicitDefEqProofs only [push_cast, seval]
      with_reducible refine in_to kS.1 (by omega) (by omega) (by omega) (rS.pre (pS.trans p10)) (fun bS hS => ?_)
      simp (maxSteps := 1000000) -implicitDefEqProofs only [push_cast, seval]
      have tail : ∀ b : Bool, True := fun _ => trivial
      with_reducible refine bcase_d (fun hik => ?_) (fun hik => ?_)
      · have hik' : k = i := by omega
        subst hik'
        have eS1 : bS = true := hS.2 (m1.2 (.refl _))
        simp (maxSteps := 1000000) -implicitDefEqProofs only [push_cast, seval, eS1, beq_self_eq_true]
        with_reducible refine in_to kO.1 (by omega) (by omega) (by omega) (rO.pre (pO.trans p10)) (fun bO hO => ?_)
        have eO1 : bO = true := hO.2 (m3.2 (.inl rfl))
        simp (maxSteps := 1000000) -implicitDefEqProofs only [push_cast, seval, eO1, beq_self_eq_true]
        with_reducible refine in_to kP.1 (by omega) (by omega) (by omega) (rP.pre (pP.trans p10)) (fun bP hP => ?_)
        simp (maxSteps := 1000000) -implicitDefEqProofs only [push_cast, seval]
        with_reducible refine in_to kM.1 (by omega) (by omega) (by omega) (rM.pre (pM.trans p10)) (fun bM hM => ?_)
        have eb : bP = bM := by
          rw [Bool.eq_iff_iff, hP, hM, m2, m4]
          simp only [lS]
        simp (maxSteps := 1000000) -implicitDefEqProofs only [push_cast, seval, eb, beq_self_eq_true]
        rw [wrapSucc (by omega)]
        exact ⟨k + 1, by kernel_rfl, ⟨by omega, p10⟩, by omega⟩
      · have dk : decide ((k : Int) = i) = false := decide_eq_false hik
        have hne : ¬ i = k := by omega
        simp (maxSteps := 1000000) -implicitDefEqProofs only [push_cast, seval, dk]
        with_reducible refine in_to kP.1 (by omega) (by omega) (by omega) (rP.pre (pP.trans p10)) (fun bP hP => ?_)
        have e1 : bS = bP := by
          rw [Bool.eq_iff_iff, hS, hP, m1, m2, Rt_plus]
          exact ⟨fun h => by
            rcases h with h | h
            · exact absurd h hne
            · exact h, fun h => .inr h⟩
        simp (maxSteps := 1000000) -implicitDefEqProofs only [push_cast, seval, e1, dk, beq_self_eq_true]
        with_reducible refine in_to kO.1 (by omega) (by omega) (by omega) (rO.pre (pO.trans p10)) (fun bO hO => ?_)
        simp (maxSteps := 1000000) -implicitDefEqProofs only [push_cast, seval, dk]
        with_reducible refine in_to kA.1 (by omega) (by omega) (by omega) (rA.pre (pA.trans p10)) (fun bA hA => ?_)
        have e2 : bO = bA := by
          rw [Bool.eq_iff_iff, hO, hA, m3]
          exact ⟨fun h => by
            rcases h with h | h
            · exact absurd h.symm hne
            · exact h, fun h => .inr h⟩
        simp (maxSteps := 1000000) -implicitDefEqProofs only [push_cast, seval, e2, dk, beq_self_eq_true]
        with_reducible refine in_to kP.1 (by omega) (by omega) (by omega) (rP.pre (pP.trans p10)) (fun bP2 hP2 => ?_)
        simp (maxSteps := 1000000) -implicitDefEqProofs only [push_cast, seval]
        with_reducible refine in_to kM.1 (by omega) (by omega) (by omega) (rM.pre (pM.trans p10)) (fun bM hM => ?_)
        have eb : bP2 = bM := by
          rw [Bool.eq_iff_iff, hP2, hM, m2, m4]
          simp only [lS]
        simp (maxSteps := 1000000) -implicitDefEqProofs only [push_cast, seval, eb, beq_self_eq_true]
        rw [wrapSucc (by omega)]
        exact ⟨k + 1, by kernel_rfl, ⟨by omega, p10⟩, by omega⟩
    · simp (maxSteps := 1000000) -implicitDefEqProofs only [push_cast, seval]
      rw [wrapSucc (by omega)]
      exact ⟨i + 1, by kernel_rfl, ⟨by omega, p2.trans ((p3.trans pS).trans p10)⟩, by omega⟩
  · simp (maxSteps := 1000000) -implicitDefEqProofs only [push_cast, seval]
    repeat (with_reducible refine And.intro (by first | omega | (simp only [ByteArray.size_append]; omega)) ?_)
    with_reducible refine ReadPattern_to eS (by omega) (fun rv LZ h3 eL w p3 => ?_)
    have u := w.r.one
    have yy := w.r.cell1
    have kZ := kS
    rw [eL] at kZ
    rw [List.length_map] at kZ
    have wk : IntKind.i64.wrap ((LZ.length : Int) - 1) = ((LZ.length - 1 : Nat) : Int) := by rw [w64 (by omega) (by omega)]; omega
    have rl : ∃ X : Pc × Value, X.1.op = 7 ∧ ∃ id off c, rv = .slice (some ⟨id, off, none⟩) LZ.length c ∧ id < h3.n ∧ rd h3 id (off + (LZ.length - 1) * 3) 3 = some (encP X) := by
      refine ⟨_, ?_, w.r.el encP_len (show LZ.length - 1 < LZ.length by omega)⟩
      have hlen : LZ.length = LA.length + 1 := by have := congrArg List.length eL; rw [oneL_len, List.length_map] at this; omega
      have h1 : (LZ.map Prod.fst)[LZ.length - 1]? = some ⟨7, ⟨#[]⟩, [LA.length - 1]⟩ := by rw [← eL, hlen]; simp [oneL]
      rw [List.getElem?_map, List.getElem?_eq_getElem (by omega)] at h1
      simp only [Option.map_some, Option.some.injEq] at h1
      rw [h1]
    with_reducible refine Exists.elim rl (fun X rl => ?_)
    have eop := rl.1
    have rl := rl.2
    with_reducible refine Exists.elim rl (fun id rl => ?_)
    with_reducible refine Exists.elim rl (fun off rl => ?_)
    with_reducible refine Exists.elim rl (fun cc rl => ?_)
    have erv := rl.1
    have hlt := rl.2.1
    have hrd := rl.2.2
    clear rl
    subst erv
    simp only [encP] at hrd
    have r0 := (rd_3 hrd).1
    simp (maxSteps := 1000000) -implicitDefEqProofs only [push_cast, seval, u, all1]
    have pz : Pre h3 ((h3.alloc (.cells [.slice none 0 0] .solo h3.n)).set h3.n (.cells [.slice (some ⟨id, off, none⟩) LZ.length cc] .solo h3.n)) := ((Pre.refl h3).alloc _).set (Nat.le_refl _) _
    have e4 : ((h3.alloc (.cells [.slice none 0 0] .solo h3.n)).set h3.n (.cells [.slice (some ⟨id, off, none⟩) LZ.length cc] .solo h3.n)).ob h3.n = AOb.cells [.slice (some ⟨id, off, none⟩) LZ.length cc] .solo h3.n := set_same _ _
    have n4 : ((h3.alloc (.cells [.slice none 0 0] .solo h3.n)).set h3.n (.cells [.slice (some ⟨id, off, none⟩) LZ.length cc] .solo h3.n)).n = h3.n + 1 := rfl
    generalize ((h3.alloc (.cells [.slice none 0 0] .solo h3.n)).set h3.n (.cells [.slice (some ⟨id, off, none⟩) LZ.length cc] .solo h3.n)) = h4 at *
    have l4 : h3.n < h4.n := by omega
    have q0 : rd1 h4 id (off + (LZ.length - 1) * 3) = some (.int .i64 (X.1.op : Nat)) := (pz.rd1 hlt _).trans r0
    have hlt4 : id < h4.n := Nat.lt_of_lt_of_le hlt pz.n
    simp (maxSteps := 1000000) -implicitDefEqProofs only [push_cast, seval, e4, rd_of e4, rd1_of e4, l4, u]
    with_reducible refine CD.to (PatternOk_c _ LZ _ (w.pre pz) kZ.1 kZ.2.1 kZ.2.2) ?_
    simp (maxSteps := 1000000) -implicitDefEqProofs only [push_cast, seval, e4, rd_of e4, rd1_of e4, l4, u, wk, q0, hlt4, eop]
    exact ⟨by omega, by omega⟩
theorem law_Stars0 (A : Option Addr) (c : Nat) (l : List Nat) (h : AH) (hR : RdE h A 1 byV l) (hl : ∀ n ∈ l, n < 256) (hn : l.length ≤ maxLen) : CE Try.prog 3 [.slice A l.length c] h fun v _ => v = .bool true := by
  by_cases hb : l.length ≤ 1048576
  · exact law_Stars A c l h hR hl hb
  refine CE.ofN Try.func3 Try.ntmps3 Try.results3 rfl (by kernel_rfl) ?_
  simp (maxSteps := 1000000) -implicitDefEqProofs only [push_cast, seval]
  with_reducible refine CD.to (big_c A l.length c h) ?_
  have nb : decide ((1048576 : Int) < l.length) = true := decide_eq_true (by omega)
  simp (maxSteps := 1000000) -implicitDefEqProofs only [push_cast, seval, nb]
end Go.Proofs.Ytciajhpeikemoaa
/- Patterns of one piece: what they take. Conditions: none. -/
set_option linter.unusedSimpArgs false
set_option linter.unusedVariables false
namespace Go.Sim
theorem pw_single {l : List Nat} {e : Nat} (pw : l.Pairwise (· < ·)) (h : ∀ j, j ∈ l ↔ j = e) : l = [e] := by
  cases l with
  | nil => have := (h e).2 rfl; cases this
  | cons a r =>
    have ea := (h a).1 (by simp)
    subst ea
    cases r with
    | nil => rfl
    | cons b r =>
      have eb := (h b).1 (by simp)
      rw [List.pairwise_cons] at pw
      have := pw.1 b (by simp)
      omega
theorem no_mem {l : List Nat} (h : ∀ j, j ∉ l) : l = [] := List.eq_nil_iff_forall_not_mem.2 h
theorem ml_leaf {x : Pc} (o : Okp [x]) (hx : x.op < 5 ∨ 9 < x.op) {s : ByteArray} {i j : Nat} (hi : i ≤ s.size) : j ∈ ml [x] s 0 i ↔ leafP x s i j := by
  rw [ml_mem o (by simp) hi, Mt_eq o (by simp)]
  exact stepL hx
theorem ml_yes {x : Pc} (o : Okp [x]) (hx : x.op < 5 ∨ 9 < x.op) {s : ByteArray} {i e : Nat} (hi : i ≤ s.size) (h : ∀ j, leafP x s i j ↔ j = e) : ml [x] s 0 i = [e] :=
  pw_single (places_pw _ _) (fun j => (ml_leaf o hx hi).trans (h j))
theorem ml_no {x : Pc} (o : Okp [x]) (hx : x.op < 5 ∨ 9 < x.op) {s : ByteArray} {i : Nat} (hi : i ≤ s.size) (h : ∀ j, ¬ leafP x s i j) : ml [x] s 0 i = [] :=
  no_mem (fun j hj => h j ((ml_leaf o hx hi).1 hj))
theorem ml_begin {s : ByteArray} : ml [⟨10, ⟨#[]⟩, []⟩] s 0 0 = [0] := by
  have o : Okp [⟨10, ⟨#[]⟩, []⟩] := (readP_ok (s := ⟨#[94]⟩) (rdE'_eq (by decide +kernel))).1
  exact ml_yes o (.inr (by decide)) (Nat.zero_le _) (fun j => by rw [leaf10 rfl]; simp)
theorem ml_begin1 {s : ByteArray} (h : 1 ≤ s.size) : ml [⟨10, ⟨#[]⟩, []⟩] s 0 1 = [] := by
  have o : Okp [⟨10, ⟨#[]⟩, []⟩] := (readP_ok (s := ⟨#[94]⟩) (rdE'_eq (by decide +kernel))).1
  exact ml_no o (.inr (by decide)) h (fun j => by rw [leaf10 rfl]; simp)
theorem ml_end {s : ByteArray} : ml [⟨11, ⟨#[]⟩, []⟩] s 0 s.size = [s.size] := by
  have o : Okp [⟨11, ⟨#[]⟩, []⟩] := (readP_ok (s := ⟨#[36]⟩) (rdE'_eq (by decide +kernel))).1
  exact ml_yes o (.inr (by decide)) (Nat.le_refl _) (fun j => by rw [leaf11 rfl]; simp)
theorem hasB_one (c : UInt8) (b : Nat) : hasB ⟨#[c]⟩ b = decide (c.toNat = b) := by
  unfold hasB allAt
  have : (⟨#[c]⟩ : ByteArray).size = 1 := rfl
  rw [this]
  simp [List.range_succ, byteAt]
  omega
theorem ml_byte {c : UInt8} {t s : ByteArray} {i : Nat} (e : readP t = some [⟨1, ⟨#[c]⟩, []⟩]) (hi : i ≤ s.size) : ml [⟨1, ⟨#[c]⟩, []⟩] s 0 i = if i < s.size ∧ c = byteAt s i then [i + 1] else [] := by
  have o := (readP_ok e).1
  by_cases h : i < s.size ∧ c = byteAt s i
  · rw [if_pos h]
    refine ml_yes o (.inl (by show 1 < 5; decide)) hi (fun j => ?_)
    rw [leaf1 (by show 1 ≤ 1 ∧ 1 ≤ 4; decide)]
    have : tk ⟨1, ⟨#[c]⟩, []⟩ s i = true := by rw [tk, if_pos (.inl rfl), hasB_one, h.2]; simp
    exact ⟨fun x => x.2.1, fun x => ⟨h.1, x, this⟩⟩
  · rw [if_neg h]
    refine ml_no o (.inl (by show 1 < 5; decide)) hi (fun j => ?_)
    rw [leaf1 (by show 1 ≤ 1 ∧ 1 ≤ 4; decide)]
    rintro ⟨h1, _, h3⟩
    rw [tk, if_pos (.inl rfl), hasB_one] at h3
    exact h ⟨h1, UInt8.toNat_inj.1 (of_decide_eq_true h3)⟩
theorem sub_byte {s : ByteArray} {i : Nat} {c : UInt8} (h : i < s.size) : s.extract i (i + 1) = ⟨#[c]⟩ ↔ c = byteAt s i := by
  have e : s.extract i (i + 1) = ⟨#[byteAt s i]⟩ := by
    apply ByteArray.ext
    apply Array.ext_getElem?
    intro k
    rw [ByteArray.data_extract, Array.getElem?_extract]
    have h' : i < s.data.size := h
    by_cases hk : k = 0
    · subst hk
      have : (byteAt s i) = s.data[i] := by unfold byteAt; simp [h']; rw [Array.getElem?_eq_getElem h']; rfl
      rw [this]
      simp [h']
      omega
    · have : ¬ k < min (i + 1) s.data.size - i := by omega
      rw [if_neg this]
      simp [hk]
  rw [e]
  constructor
  · intro h; injection h with h; injection h with h; injection h with h; exact h.symm
  · rintro rfl; rfl
end Go.Sim
namespace Go.Proofs.Ytciajhpeikemoaa
open Go Go.Sim Go.Proofs
set_option linter.unusedSimpArgs false
set_option linter.unusedVariables false
set_option maxRecDepth 100000
set_option maxHeartbeats 1000000
theorem sameInts_c (l m : List Nat) (v w : Value) (h : AH) (hA : RdV h v 1 encNa l) (hB : RdV h w 1 encNa m) (hl : l.length < 274877906944) (hm : m.length < 274877906944) :
    CD Try.prog 31 [v, w] h (.bool (decide (l = m))) h := by
  refine CD.quiet ?_ (low_bool _ _)
  obtain ⟨A, ca, rfl, _⟩ := hA.rde (fun _ => rfl)
  obtain ⟨B, cb, rfl, _⟩ := hB.rde (fun _ => rfl)
  refine CC.ofN Try.func31 Try.ntmps31 Try.results31 rfl (by decide) (by kernel_rfl) ?_
  simp (maxSteps := 1000000) -implicitDefEqProofs only [push_cast, seval]
  with_reducible refine bcase_d (fun hb => ?_) (fun hb => ?_)
  rotate_left
  · have e : decide (l = m) = false := decide_eq_false (fun e => by subst e; omega)
    simp (maxSteps := 1000000) -implicitDefEqProofs only [push_cast, seval]
    rw [e]
    exact ⟨rfl, Keep.refl _ _⟩
  have hlm : l.length = m.length := by omega
  refine WC.loopA (by kernel_rfl) [5] [4, 11, 12, 13, 14, 15, 16, 17, 18, 19, 20, 21, 22, 23, 24, 25] (fun i : Nat => [.int .i64 (i : Nat)]) (fun i h' => (i ≤ l.length ∧ ∀ j (h1 : j < l.length) (h2 : j < m.length), j < i → l[j] = m[j]) ∧ Pre h h') (fun i => l.length - i) 0 (by kernel_rfl) ⟨⟨Nat.zero_le _, fun j _ _ h0 => absurd h0 (Nat.not_lt_zero j)⟩, Pre.refl _⟩ ?_
  intro i g h1 hJ
  have hi := hJ.1.1
  have hj := hJ.1.2
  have p1 := hJ.2
  clear hJ
  simp (maxSteps := 1000000) -implicitDefEqProofs only [push_cast, seval]
  with_reducible refine bcase_d (fun hb2 => ?_) (fun hb2 => ?_)
  rotate_left
  · have e : decide (l = m) = true := decide_eq_true (List.ext_getElem hlm (fun j a b => hj j a b (by omega)))
    simp (maxSteps := 1000000) -implicitDefEqProofs only [push_cast, seval]
    rw [e]
    exact ⟨rfl, p1.keep⟩
  have hi1 : i < l.length := by omega
  have hi2 : i < m.length := by omega
  have r1 := (hA.pre p1).el (fun _ => rfl) hi1
  have r2 := (hB.pre p1).el (fun _ => rfl) hi2
  have yes : l[i] = m[i] → ∀ j (h1 : j < l.length) (h2 : j < m.length), j < i + 1 → l[j] = m[j] := fun e j a b c => by
    by_cases e2 : j = i
    · subst e2; exact e
    · exact hj j a b (by omega)
  have no : l[i] ≠ m[i] → decide (l = m) = false := fun e => decide_eq_false (fun e2 => by subst e2; exact e rfl)
  generalize l[i] = X at *
  generalize m[i] = Y at *
  with_reducible refine Exists.elim r1 (fun id1 r1 => ?_)
  with_reducible refine Exists.elim r1 (fun off1 r1 => ?_)
  with_reducible refine Exists.elim r1 (fun c1 r1 => ?_)
  with_reducible refine Exists.elim r2 (fun id2 r2 => ?_)
  with_reducible refine Exists.elim r2 (fun off2 r2 => ?_)
  with_reducible refine Exists.elim r2 (fun c2 r2 => ?_)
  have e1 := r1.1
  have e2 := r2.1
  injection e1 with e1 _ _
  injection e2 with e2 _ _
  subst e1 e2
  have t1 := rd_1 r1.2.2
  have t2 := rd_1 r2.2.2
  have l1 := r1.2.1
  have l2 := r2.2.1
  clear r1 r2
  refine WC.draw' (by kernel_rfl) (by kernel_rfl) (.q 0 (.q 1 (.q 2 (.q 3 (.q 4 (.q 5 (.q 6 (.q 7 (.q 8 (.done)))))))))) (by kernel_rfl) ?_
  simp (maxSteps := 1000000) -implicitDefEqProofs only [push_cast, seval, t1, t2, l1, l2]
  repeat (with_reducible refine And.intro ?_ ?_; · (first | omega | decide))
  with_reducible refine bcase_d (fun hb3 => ?_) (fun hb3 => ?_)
  rotate_left
  · simp (maxSteps := 1000000) -implicitDefEqProofs only [push_cast, seval]
    rw [no (by omega)]
    exact ⟨rfl, p1.keep⟩
  · simp (maxSteps := 1000000) -implicitDefEqProofs only [push_cast, seval]
    rw [wrapSucc (by omega)]
    exact ⟨i + 1, by kernel_rfl, ⟨⟨by omega, yes (by omega)⟩, p1⟩, by omega⟩
end Go.Proofs.Ytciajhpeikemoaa
namespace Go.Proofs.Ytciajhpeikemoaa
open Go Go.Sim Go.Proofs
set_option linter.unusedSimpArgs false
set_option linter.unusedVariables false
set_option maxRecDepth 100000
set_option maxHeartbeats 1000000
/-- What is found of one byte. -/
theorem find_byte {c : UInt8} {t s : ByteArray} (e : readP t = some [⟨1, ⟨#[c]⟩, []⟩]) {v : Value} (q : FindQ [⟨1, ⟨#[c]⟩, []⟩] s v) :
    (∃ i : Nat, i < s.size ∧ c = byteAt s i ∧ (∀ j, j < i → c ≠ byteAt s j) ∧ v = .tuple #[.int .i64 (i : Nat), .int .i64 ((i + 1 : Nat) : Int), .bool true]) ∨ ((∀ j, j < s.size → c ≠ byteAt s j) ∧ v = .tuple #[.int .i64 0, .int .i64 0, .bool false]) := by
  have key : ∀ j, j ≤ s.size → ml [⟨1, ⟨#[c]⟩, []⟩] s 0 j = if j < s.size ∧ c = byteAt s j then [j + 1] else [] := fun j hj => ml_byte e hj
  rcases q with ⟨i, e', h1, h2, h3, h4, rfl⟩ | ⟨h1, rfl⟩
  · change ml _ s 0 i ≠ [] at h3
    change (ml _ s 0 i).getLast? = _ at h4
    rw [key i h1] at h3 h4
    by_cases hc : i < s.size ∧ c = byteAt s i
    · rw [if_pos hc] at h4
      simp only [List.getLast?_singleton, Option.some.injEq] at h4
      subst h4
      refine .inl ⟨i, hc.1, hc.2, fun j hj e2 => ?_, rfl⟩
      have := h2 j hj
      change ml _ s 0 j = [] at this
      rw [key j (by omega), if_pos ⟨by omega, e2⟩] at this
      cases this
    · rw [if_neg hc] at h3; exact absurd rfl h3
  · refine .inr ⟨fun j hj e2 => ?_, rfl⟩
    have := h1 j (by omega)
    change ml _ s 0 j = [] at this
    rw [key j (by omega), if_pos ⟨by omega, e2⟩] at this
    cases this
theorem find_to {t : ByteArray} {o : List Pc} (e : readP t = some o) {L : List (Pc × Value)} (eL : o = L.map Prod.fst) {rv : Value} {h : AH} (w : RdPat h rv L) {s : ByteArray} (hs : s.size ≤ 100000) {K : Value → AH → Prop}
    (hk : ∀ v h', FindQ o s v → Pre h h' → K v h') : CC Try.prog 30 [.agg #[rv], .string s] h K := by
  have k := readP_ok e
  rw [eL] at k
  rw [List.length_map] at k
  exact CC.mono (FindIn_i rv L s h w k.1 k.2.1 k.2.2 hs) (fun v h' hv => hk v h' (by rw [eL]; exact hv.1) hv.2)
theorem one_byte (r : Nat) (h : r < 4) : readP ⟨#[UInt8.ofNat (97 + r)]⟩ = some [⟨1, ⟨#[UInt8.ofNat (97 + r)]⟩, []⟩] := by
  have : r = 0 ∨ r = 1 ∨ r = 2 ∨ r = 3 := by omega
  rcases this with rfl | rfl | rfl | rfl <;> exact rdE'_eq (by decide +kernel)
/-- Where a byte comes first, looked for from the end on. -/
def Fst (s : ByteArray) (c : UInt8) (i f : Int) : Prop :=
  (f = -1 ∧ ∀ j : Nat, i < j → j < s.size → c ≠ byteAt s j) ∨ ∃ k : Nat, f = k ∧ i < k ∧ k < s.size ∧ c = byteAt s k ∧ ∀ j : Nat, i < j → j < k → c ≠ byteAt s j
theorem Fst.yes {s : ByteArray} {c : UInt8} {k : Nat} {f : Int} (h : k < s.size) (w : Fst s c k f) (e : c = byteAt s k) : Fst s c ((k : Int) - 1) k :=
  .inr ⟨k, rfl, by omega, h, e, fun j h1 h2 => by omega⟩
theorem Fst.no {s : ByteArray} {c : UInt8} {k : Nat} {f : Int} (w : Fst s c k f) (e : c ≠ byteAt s k) : Fst s c ((k : Int) - 1) f := by
  have st : ∀ j : Nat, (k : Int) - 1 < j → j = k ∨ (k : Int) < j := fun j h => by omega
  rcases w with ⟨a, b⟩ | ⟨q, a, b, d, g, z⟩
  · exact .inl ⟨a, fun j h1 h2 => by
      rcases st j h1 with rfl | h3
      · exact e
      · exact b j h3 h2⟩
  · exact .inr ⟨q, a, by omega, d, g, fun j h1 h2 => by
      rcases st j h1 with rfl | h3
      · exact e
      · exact z j h3 h2⟩
theorem rp_star : readP ⟨#[92, 42]⟩ = some [⟨1, ⟨#[42]⟩, []⟩] := rdE'_eq (by decide +kernel)
theorem rp_begin : readP ⟨#[94]⟩ = some [⟨10, ⟨#[]⟩, []⟩] := rdE'_eq (by decide +kernel)
theorem rp_end : readP ⟨#[36]⟩ = some [⟨11, ⟨#[]⟩, []⟩] := rdE'_eq (by decide +kernel)
theorem no_star {s : ByteArray} (w : Wrd 8 s) {j : Nat} (h : j < s.size) : (42 : UInt8) ≠ byteAt s j := fun e => by
  have h' : j < s.data.size := h
  have : byteAt s j = s.data[j] := by unfold byteAt; simp [h']; rw [Array.getElem?_eq_getElem h']; rfl
  rw [this] at e
  exact w.2 _ (by simp) e.symm
theorem ends_toZ {t s : ByteArray} {o : List Pc} (e : readP t = some o) {i : Nat} {z : Int} (hz : (i : Int) = z) {h : AH} (hi : i ≤ s.size) (hs : s.size ≤ 100000) (ht : t.size ≤ maxLen) {K : Value → AH → Prop}
    (hk : ∀ v h', RdV h' v 1 encNa (ml o s (o.length - 1) i) → Pre h h' → K v h') : CC Try.prog 14 [.string t, .string s, .int .i64 z] h K := by
  subst hz
  exact ends_to e hi hs ht hk
theorem law_Bytes (A : Option Addr) (c : Nat) (l : List Nat) (h : AH) (hR : RdE h A 1 byV l) (hl : ∀ n ∈ l, n < 256) (hn : l.length ≤ 1048576) : CE Try.prog 8 [.slice A l.length c] h fun v _ => v = .bool true := by
  have hml := maxLen_eq
  refine CE.withBig (fun big => ?_)
  refine CE.ofN Try.func8 Try.ntmps8 Try.results8 rfl (by kernel_rfl) ?_
  simp (maxSteps := 1000000) -implicitDefEqProofs only [push_cast, seval]
  with_reducible refine CD.to (big_c A l.length c h) ?_
  simp (maxSteps := 1000000) -implicitDefEqProofs only [push_cast, seval]
  have nb : decide ((1048576 : Int) < l.length) = false := decide_eq_false (by omega)
  simp (maxSteps := 1000000) -implicitDefEqProofs only [push_cast, seval, nb]
  with_reducible refine CC.mono (DrawPlaces_c A c l h hR hl hn) (fun v h1 hv => ?_)
  have p1 := hv.2
  have hps := hv.1
  clear hv
  with_reducible refine Exists.elim hps (fun ps hps => ?_)
  have plen := hps.1
  have plt := hps.2.1
  have rp := hps.2.2
  clear hps
  have yv := rp.one
  simp (maxSteps := 1000000) -implicitDefEqProofs only [push_cast, seval]
  with_reducible refine DrawPatterns_to (hR.pre big p1) hl hn (fun a b s h2 ha hb hs p2 => ?_)
  have zs := hs.1
  have rl : ∃ X : Nat, X < 10000 ∧ ∃ id off c, v = .slice (some ⟨id, off, none⟩) ps.length c ∧ id < h2.n ∧ rd h2 id (off + 0 * 1) 1 = some (encNa X) := by
    refine ⟨ps[0], plt _ (List.getElem_mem _), (rp.pre p2).el (fun _ => rfl) (show 0 < ps.length by omega)⟩
  with_reducible refine Exists.elim rl (fun X rl => ?_)
  have hX := rl.1
  have rl := rl.2
  with_reducible refine Exists.elim rl (fun id rl => ?_)
  with_reducible refine Exists.elim rl (fun off rl => ?_)
  with_reducible refine Exists.elim rl (fun cc rl => ?_)
  have erv := rl.1
  have hlt := rl.2.1
  have hrd := rl.2.2
  clear rl
  subst erv
  simp only [encNa, Nat.zero_mul, Nat.add_zero] at hrd
  have r0 := rd_1 hrd
  have tm : (X : Int).tmod 4 = ((X % 4 : Nat) : Int) := by rw [Int.tmod_eq_emod_of_nonneg (by omega)]; rfl
  have hr := Nat.mod_lt X (show 0 < 4 by omega)
  have w1 : IntKind.i64.wrap (97 + ((X % 4 : Nat) : Int)) = ((97 + X % 4 : Nat) : Int) := by rw [w64 (by omega) (by omega)]; omega
  have w2 : IntKind.u8.wrap ((97 + X % 4 : Nat) : Int) = ((97 + X % 4 : Nat) : Int) := w8 (by omega) (by omega)
  have rb := one_byte (X % 4) hr
  generalize X % 4 = r at *
  with_reducible refine nameN (97 + r) (fun N hN => ?_)
  rw [← hN] at w1 w2 rb
  simp (maxSteps := 1000000) -implicitDefEqProofs only [push_cast, seval, plen, tm, w1, w2, r0, hlt]
  with_reducible refine ReadPattern_to rb (by have : (⟨#[UInt8.ofNat N]⟩ : ByteArray).size = 1 := rfl; omega) (fun rv L h3 eL w p3 => ?_)
  have u := w.r.one
  have yy := w.r.cell1
  simp (maxSteps := 1000000) -implicitDefEqProofs only [push_cast, seval, u, yy, all1]
  have pz : Pre h3 ((h3.alloc (.cells [.slice none 0 0] .solo h3.n)).set h3.n (.cells [rv] .solo h3.n)) := ((Pre.refl h3).alloc _).set (Nat.le_refl _) _
  generalize ((h3.alloc (.cells [.slice none 0 0] .solo h3.n)).set h3.n (.cells [rv] .solo h3.n)) = h4 at *
  with_reducible refine find_to rb eL (w.pre pz) (by omega) (fun v h5 q p5 => ?_)
  have q := find_byte rb q
  have hC : UInt8.ofNat N ≠ 0 ∨ True := .inr trivial
  generalize UInt8.ofNat N = C at *
  have fin : ∃ b : Bool, ∃ x y : Int, v = .tuple #[.int .i64 x, .int .i64 y, .bool b] ∧ ((b = true ∧ ∃ i : Nat, x = i ∧ y = ((i + 1 : Nat) : Int) ∧ i < s.size ∧ C = byteAt s i ∧ ∀ j, j < i → C ≠ byteAt s j) ∨ (b = false ∧ ∀ j, j < s.size → C ≠ byteAt s j)) := by
    rcases q with ⟨i, h1, h2, h3, e⟩ | ⟨h1, e⟩
    · exact ⟨true, _, _, e, .inl ⟨rfl, i, rfl, rfl, h1, h2, h3⟩⟩
    · exact ⟨false, _, _, e, .inr ⟨rfl, h1⟩⟩
  with_reducible refine Exists.elim fin (fun fb fin => ?_)
  with_reducible refine Exists.elim fin (fun fx fin => ?_)
  with_reducible refine Exists.elim fin (fun fy fin => ?_)
  have ev := fin.1
  have fq := fin.2
  clear fin q
  subst ev
  simp (maxSteps := 1000000) -implicitDefEqProofs only [push_cast, seval]
  refine WC.loopA (by kernel_rfl) [13, 14] [56, 57, 58, 59, 60, 61, 62, 63, 64, 65, 66, 67] (fun a : Int × Int => [.int .i64 a.2, .int .i64 a.1]) (fun a h' => (-1 ≤ a.1 ∧ a.1 < s.size ∧ Fst s C a.1 a.2) ∧ Pre h5 h') (fun a => (a.1 + 1).toNat) (IntKind.i64.wrap ((s.size : Int) - 1), -1) (by kernel_rfl) ⟨?_, Pre.refl _⟩ ?_
  · show -1 ≤ IntKind.i64.wrap ((s.size : Int) - 1) ∧ IntKind.i64.wrap ((s.size : Int) - 1) < s.size ∧ Fst s C (IntKind.i64.wrap ((s.size : Int) - 1)) (-1)
    rw [w64 (by omega) (by omega)]
    exact ⟨by omega, by omega, .inl ⟨rfl, fun j h1 h2 => by omega⟩⟩
  intro a g h6 hJ
  have a1 := hJ.1.1
  have a2 := hJ.1.2.1
  have a3 := hJ.1.2.2
  have p6 := hJ.2
  clear hJ
  simp (maxSteps := 1000000) -implicitDefEqProofs only [push_cast, seval]
  with_reducible refine bcase_d (fun hb1 => ?_) (fun hb1 => ?_)
  · have hk : ∃ k : Nat, a.1 = k := ⟨a.1.toNat, by omega⟩
    with_reducible refine Exists.elim hk (fun k hk => ?_)
    rw [hk] at a2 a3
    have hk' : k < s.size := by omega
    have ws : IntKind.i64.wrap ((k : Int) + 1) = ((k + 1 : Nat) : Int) := wrapSucc (by omega)
    have wp : IntKind.i64.wrap ((k : Int) - 1) = (k : Int) - 1 := w64 (by omega) (by omega)
    have ee := sub_byte (s := s) (c := C) hk'
    simp (maxSteps := 1000000) -implicitDefEqProofs only [push_cast, seval, hk, ws, wp]
    repeat (with_reducible refine And.intro ?_ ?_; · (first | omega | decide))
    with_reducible refine bcase_d (fun hx => ?_) (fun hx => ?_)
    · simp (maxSteps := 1000000) -implicitDefEqProofs only [push_cast, seval, hk, ws, wp]
      exact ⟨((k : Int) - 1, (k : Int)), by kernel_rfl, ⟨⟨by show -1 ≤ (k : Int) - 1; omega, by show (k : Int) - 1 < s.size; omega, a3.yes hk' (ee.1 hx)⟩, p6⟩, by show ((k : Int) - 1 + 1).toNat < ((k : Int) + 1).toNat; omega⟩
    · simp (maxSteps := 1000000) -implicitDefEqProofs only [push_cast, seval, hk, ws, wp]
      exact ⟨((k : Int) - 1, a.2), by kernel_rfl, ⟨⟨by show -1 ≤ (k : Int) - 1; omega, by show (k : Int) - 1 < s.size; omega, a3.no (fun e => hx (ee.2 e))⟩, p6⟩, by show ((k : Int) - 1 + 1).toNat < ((k : Int) + 1).toNat; omega⟩
  · have ha1 : a.1 = -1 := by omega
    rw [ha1] at a3
    have fq2 : (fb = true ∧ ∃ i : Nat, fx = i ∧ fy = ((i + 1 : Nat) : Int) ∧ a.2 = i ∧ i < s.size) ∨ (fb = false ∧ a.2 = -1) := by
      rcases fq with ⟨e1, i, e2, e3, b1, b2, b3⟩ | ⟨e1, b1⟩
      · refine .inl ⟨e1, i, e2, e3, ?_, b1⟩
        rcases a3 with ⟨_, d⟩ | ⟨k, d1, d2, d3, d4, d5⟩
        · exact absurd b2 (d i (by omega) b1)
        · have : k = i := by
            by_cases h1 : k < i
            · exact absurd d4 (b3 k h1)
            · by_cases h2 : i < k
              · exact absurd b2 (d5 i (by omega) h2)
              · omega
          rw [d1, this]
      · refine .inr ⟨e1, ?_⟩
        rcases a3 with ⟨d, _⟩ | ⟨k, d1, d2, d3, d4, d5⟩
        · exact d
        · exact absurd d4 (b1 k d3)
    clear fq a3
    simp (maxSteps := 1000000) -implicitDefEqProofs only [push_cast, seval]
    with_reducible refine ReadPattern_to rp_star (by have : (⟨#[92, 42]⟩ : ByteArray).size = 2 := rfl; omega) (fun rw2 L2 h7 eL2 w2' p7 => ?_)
    have u2 := w2'.r.one
    have yy2 := w2'.r.cell1
    simp (maxSteps := 1000000) -implicitDefEqProofs only [push_cast, seval, u2, yy2, all1]
    have pz2 : Pre h7 ((h7.alloc (.cells [.slice none 0 0] .solo h7.n)).set h7.n (.cells [rw2] .solo h7.n)) := ((Pre.refl h7).alloc _).set (Nat.le_refl _) _
    have e8 : ((h7.alloc (.cells [.slice none 0 0] .solo h7.n)).set h7.n (.cells [rw2] .solo h7.n)).ob h7.n = AOb.cells [rw2] .solo h7.n := set_same _ _
    have n8 : ((h7.alloc (.cells [.slice none 0 0] .solo h7.n)).set h7.n (.cells [rw2] .solo h7.n)).n = h7.n + 1 := rfl
    generalize ((h7.alloc (.cells [.slice none 0 0] .solo h7.n)).set h7.n (.cells [rw2] .solo h7.n)) = h8 at *
    have z2 : (⟨#[97, 42]⟩ : ByteArray).size = 2 := rfl
    with_reducible refine find_to rp_star eL2 (w2'.pre pz2) (by omega) (fun v h9 q p9 => ?_)
    have q1 : ∃ x y, v = .tuple #[.int .i64 x, .int .i64 y, .bool true] := by
      rcases find_byte rp_star q with ⟨i, _, _, _, e⟩ | ⟨b1, _⟩
      · exact ⟨_, _, e⟩
      · exact absurd (by decide) (b1 1 (by omega))
    clear q
    with_reducible refine Exists.elim q1 (fun x1 q1 => ?_)
    with_reducible refine Exists.elim q1 (fun y1 q1 => ?_)
    subst q1
    have e9 : h9.ob h7.n = _ := (p9.ob _ (by omega)).trans e8
    have l9 : h7.n < h9.n := by have := p9.n; omega
    simp (maxSteps := 1000000) -implicitDefEqProofs only [push_cast, seval, e9, rd_of e9, rd1_of e9, l9, u2, yy2]
    with_reducible refine find_to rp_star eL2 ((w2'.pre pz2).pre p9) (by omega) (fun v h10 q p10 => ?_)
    have q1 : ∃ x y, v = .tuple #[.int .i64 x, .int .i64 y, .bool false] := by
      rcases find_byte rp_star q with ⟨i, h1, h2, _, e⟩ | ⟨b1, e⟩
      · exact absurd h2 (no_star hs h1)
      · exact ⟨_, _, e⟩
    clear q
    with_reducible refine Exists.elim q1 (fun x2 q1 => ?_)
    with_reducible refine Exists.elim q1 (fun y2 q1 => ?_)
    subst q1
    simp (maxSteps := 1000000) -implicitDefEqProofs only [push_cast, seval]
    have z3 : (⟨#[94]⟩ : ByteArray).size = 1 := rfl
    have z4 : (⟨#[36]⟩ : ByteArray).size = 1 := rfl
    with_reducible refine Or.elim fq2 (fun c1 => ?_) (fun c1 => ?_)
    · have c2 := c1.2
      with_reducible refine Exists.elim c2 (fun i c2 => ?_)
      have d0 := c1.1
      have d1 := c2.1
      have d2 := c2.2.1
      have d3 := c2.2.2.1
      have di := c2.2.2.2
      clear c1 c2 fq2
      subst d0 d1 d2
      have d4 : decide ((0 : Int) ≤ a.2) = true := decide_eq_true (by omega)
      have d5 : decide ((i : Int) = a.2) = true := decide_eq_true (by omega)
      have d6 : decide ((i : Int) + 1 = IntKind.i64.wrap ((i : Int) + 1)) = true := decide_eq_true (by
        rw [wrapSucc (by omega)]; omega)
      simp (maxSteps := 1000000) -implicitDefEqProofs only [push_cast, seval, d4, d5, d6, beq_self_eq_true]
      with_reducible refine ends_toZ (i := 0) (z := 0) rp_begin rfl (by omega) (by omega) (by omega) (fun vb h11 rb1 p11 => ?_)
      rw [show ([⟨10, ⟨#[]⟩, []⟩] : List Pc).length - 1 = 0 from rfl, ml_begin] at rb1
      simp (maxSteps := 1000000) -implicitDefEqProofs only [push_cast, seval]
      with_reducible refine CD.to (sameInts_c [0] [0] _ _ _ (rb1.pre ((Pre.refl _).alloc _)) ((Gr.new (n0 := h11.n) (Nat.le_refl _) [.int .i64 0] 1 1 rfl).rdv (enc := encNa) (l := [0]) (by decide) (fun _ => rfl)) (by decide) (by decide)) ?_
      have dd : decide ([0] = ([0] : List Nat)) = true := by decide
      simp (maxSteps := 1000000) -implicitDefEqProofs only [push_cast, seval, dd]
      with_reducible refine bcase_d (fun hz => ?_) (fun hz => ?_)
      · simp (maxSteps := 1000000) -implicitDefEqProofs only [push_cast, seval]
        with_reducible refine ends_to (i := s.size) rp_end (by omega) (by omega) (by omega) (fun ve h13 re p13 => ?_)
        rw [show ([⟨11, ⟨#[]⟩, []⟩] : List Pc).length - 1 = 0 from rfl, ml_end] at re
        simp (maxSteps := 1000000) -implicitDefEqProofs only [push_cast, seval]
        with_reducible refine CD.to (sameInts_c [s.size] [s.size] _ _ _ (re.pre ((Pre.refl _).alloc _)) ((Gr.new (n0 := h13.n) (Nat.le_refl _) [.int .i64 (s.size : Nat)] 1 1 rfl).rdv (enc := encNa) (l := [s.size]) (by decide) (fun _ => rfl)) (by rw [List.length_singleton]; decide) (by rw [List.length_singleton]; decide)) ?_
        have dd2 : decide ([s.size] = [s.size]) = true := decide_eq_true rfl
        simp (maxSteps := 1000000) -implicitDefEqProofs only [push_cast, seval, dd2]
      · simp (maxSteps := 1000000) -implicitDefEqProofs only [push_cast, seval]
        with_reducible refine ends_toZ (i := 1) (z := 1) rp_begin rfl (by omega) (by omega) (by omega) (fun vc h12 rc1 p12 => ?_)
        rw [show ([⟨10, ⟨#[]⟩, []⟩] : List Pc).length - 1 = 0 from rfl, ml_begin1 (by omega)] at rc1
        have rcf := rc1.rde (fun _ => rfl)
        with_reducible refine Exists.elim rcf (fun Ac rcf => ?_)
        with_reducible refine Exists.elim rcf (fun cc2 rcf => ?_)
        have erc := rcf.1
        clear rcf
        subst erc
        simp (maxSteps := 1000000) -implicitDefEqProofs only [push_cast, seval]
        with_reducible refine ends_to (i := s.size) rp_end (by omega) (by omega) (by omega) (fun ve h13 re p13 => ?_)
        rw [show ([⟨11, ⟨#[]⟩, []⟩] : List Pc).length - 1 = 0 from rfl, ml_end] at re
        simp (maxSteps := 1000000) -implicitDefEqProofs only [push_cast, seval]
        with_reducible refine CD.to (sameInts_c [s.size] [s.size] _ _ _ (re.pre ((Pre.refl _).alloc _)) ((Gr.new (n0 := h13.n) (Nat.le_refl _) [.int .i64 (s.size : Nat)] 1 1 rfl).rdv (enc := encNa) (l := [s.size]) (by decide) (fun _ => rfl)) (by rw [List.length_singleton]; decide) (by rw [List.length_singleton]; decide)) ?_
        have dd2 : decide ([s.size] = [s.size]) = true := decide_eq_true rfl
        simp (maxSteps := 1000000) -implicitDefEqProofs only [push_cast, seval, dd2]
    · have d0 := c1.1
      have d3 := c1.2
      clear c1 fq2
      subst d0
      have d4 : decide ((0 : Int) ≤ a.2) = false := decide_eq_false (by omega)
      simp (maxSteps := 1000000) -implicitDefEqProofs only [push_cast, seval, d4, beq_self_eq_true]
      with_reducible refine ends_toZ (i := 0) (z := 0) rp_begin rfl (by omega) (by omega) (by omega) (fun vb h11 rb1 p11 => ?_)
      rw [show ([⟨10, ⟨#[]⟩, []⟩] : List Pc).length - 1 = 0 from rfl, ml_begin] at rb1
      simp (maxSteps := 1000000) -implicitDefEqProofs only [push_cast, seval]
      with_reducible refine CD.to (sameInts_c [0] [0] _ _ _ (rb1.pre ((Pre.refl _).alloc _)) ((Gr.new (n0 := h11.n) (Nat.le_refl _) [.int .i64 0] 1 1 rfl).rdv (enc := encNa) (l := [0]) (by decide) (fun _ => rfl)) (by decide) (by decide)) ?_
      have dd : decide ([0] = ([0] : List Nat)) = true := by decide
      simp (maxSteps := 1000000) -implicitDefEqProofs only [push_cast, seval, dd]
      with_reducible refine bcase_d (fun hz => ?_) (fun hz => ?_)
      · simp (maxSteps := 1000000) -implicitDefEqProofs only [push_cast, seval]
        with_reducible refine ends_to (i := s.size) rp_end (by omega) (by omega) (by omega) (fun ve h13 re p13 => ?_)
        rw [show ([⟨11, ⟨#[]⟩, []⟩] : List Pc).length - 1 = 0 from rfl, ml_end] at re
        simp (maxSteps := 1000000) -implicitDefEqProofs only [push_cast, seval]
        with_reducible refine CD.to (sameInts_c [s.size] [s.size] _ _ _ (re.pre ((Pre.refl _).alloc _)) ((Gr.new (n0 := h13.n) (Nat.le_refl _) [.int .i64 (s.size : Nat)] 1 1 rfl).rdv (enc := encNa) (l := [s.size]) (by decide) (fun _ => rfl)) (by rw [List.length_singleton]; decide) (by rw [List.length_singleton]; decide)) ?_
        have dd2 : decide ([s.size] = [s.size]) = true := decide_eq_true rfl
        simp (maxSteps := 1000000) -implicitDefEqProofs only [push_cast, seval, dd2]
      · simp (maxSteps := 1000000) -implicitDefEqProofs only [push_cast, seval]
        with_reducible refine ends_toZ (i := 1) (z := 1) rp_begin rfl (by omega) (by omega) (by omega) (fun vc h12 rc1 p12 => ?_)
        rw [show ([⟨10, ⟨#[]⟩, []⟩] : List Pc).length - 1 = 0 from rfl, ml_begin1 (by omega)] at rc1
        have rcf := rc1.rde (fun _ => rfl)
        with_reducible refine Exists.elim rcf (fun Ac rcf => ?_)
        with_reducible refine Exists.elim rcf (fun cc2 rcf => ?_)
        have erc := rcf.1
        clear rcf
        subst erc
        simp (maxSteps := 1000000) -implicitDefEqProofs only [push_cast, seval]
        with_reducible refine ends_to (i := s.size) rp_end (by omega) (by omega) (by omega) (fun ve h13 re p13 => ?_)
        rw [show ([⟨11, ⟨#[]⟩, []⟩] : List Pc).length - 1 = 0 from rfl, ml_end] at re
        simp (maxSteps := 1000000) -implicitDefEqProofs only [push_cast, seval]
        with_reducible refine CD.to (sameInts_c [s.size] [s.size] _ _ _ (re.pre ((Pre.refl _).alloc _)) ((Gr.new (n0 := h13.n) (Nat.le_refl _) [.int .i64 (s.size : Nat)] 1 1 rfl).rdv (enc := encNa) (l := [s.size]) (by decide) (fun _ => rfl)) (by rw [List.length_singleton]; decide) (by rw [List.length_singleton]; decide)) ?_
        have dd2 : decide ([s.size] = [s.size]) = true := decide_eq_true rfl
        simp (maxSteps := 1000000) -implicitDefEqProofs only [push_cast, seval, dd2]
theorem law_Bytes0 (A : Option Addr) (c : Nat) (l : List Nat) (h : AH) (hR : RdE h A 1 byV l) (hl : ∀ n ∈ l, n < 256) (hn : l.length ≤ maxLen) : CE Try.prog 8 [.slice A l.length c] h fun v _ => v = .bool true := by
  by_cases hb : l.length ≤ 1048576
  · exact law_Bytes A c l h hR hl hb
  refine CE.ofN Try.func8 Try.ntmps8 Try.results8 rfl (by kernel_rfl) ?_
  simp (maxSteps := 1000000) -implicitDefEqProofs only [push_cast, seval]
  with_reducible refine CD.to (big_c A l.length c h) ?_
  have nb : decide ((1048576 : Int) < l.length) = true := decide_eq_true (by omega)
  simp (maxSteps := 1000000) -implicitDefEqProofs only [push_cast, seval, nb]
end Go.Proofs.Ytciajhpeikemoaa
/- Patterns at large: when one is right. Conditions: none. -/
set_option linter.unusedSimpArgs false
set_option linter.unusedVariables false
namespace Go.Sim
def kidsZ (op : Int) : Nat := if op = 5 ∨ op = 6 then 2 else if op = 7 ∨ op = 8 ∨ op = 9 then 1 else 0
def textZ (op : Int) (t : ByteArray) : Bool := if op = 1 then decide (t.size = 1) else if op = 3 ∨ op = 4 then inB t.size 1 24 else decide (t.size = 0)
def pieceZ (x : Nd) (i : Nat) : Bool := inB x.op 1 12 && textZ x.op x.text && decide (x.kids.length = kidsZ x.op) && allN x.kids.length (fun k => inB (x.kids.getD k 0) 0 ((i : Int) - 1))
def patZ (N : List Nd) : Bool := allN N.length (fun i => pieceZ (N.getD i ⟨0, ⟨#[]⟩, []⟩) i) && inB N.length 1 60
/-- A pattern, right or not, read. -/
structure RdPz (h : AH) (v : Value) (L : List (Nd × Value)) : Prop where
  r : RdV h v 3 encD L
  kids : ∀ x ∈ L, RdV h x.2 1 encZ x.1.kids
theorem RdPz.pre {h h' : AH} {v : Value} {L : List (Nd × Value)} (w : RdPz h v L) (p : Pre h h') : RdPz h' v L := ⟨w.r.pre p, fun x hx => (w.kids x hx).pre p⟩
def toPc (x : Nd) : Pc := ⟨x.op.toNat, x.text, x.kids.map Int.toNat⟩
def toPv (x : Nd × Value) : Pc × Value := (toPc x.1, x.2)
theorem inB_iff {x a b : Int} : inB x a b = true ↔ a ≤ x ∧ x ≤ b := by simp [inB]
theorem allNt {n : Nat} {p : Nat → Bool} : allN n p = true ↔ ∀ i, i < n → p i = true := allN_iff
theorem pieceZ_ok {x : Nd} {i : Nat} (h : pieceZ x i = true) : OkPc (toPc x) i ∧ 0 ≤ x.op ∧ ∀ k ∈ x.kids, 0 ≤ k := by
  unfold pieceZ at h
  simp only [Bool.and_eq_true, decide_eq_true_eq] at h
  obtain ⟨⟨⟨h1, h2⟩, h3⟩, h4⟩ := h
  rw [inB_iff] at h1
  have hk : ∀ k ∈ x.kids, 0 ≤ k ∧ k < i := fun k hk => by
    obtain ⟨j, hj, rfl⟩ := List.getElem_of_mem hk
    have := allNt.1 h4 j hj
    rw [inB_iff] at this
    rw [List.getD_eq_getElem?_getD, List.getElem?_eq_getElem hj, Option.getD_some] at this
    omega
  have e : ((toPc x).op : Int) = x.op := by show (x.op.toNat : Int) = _; omega
  refine ⟨⟨by omega, ?_, ?_, ?_⟩, by omega, fun k hx => (hk k hx).1⟩
  · show textOk x.op.toNat x.text
    unfold textOk
    unfold textZ at h2
    split at h2
    · rw [if_pos (by omega)]; simpa using h2
    split at h2
    · rw [if_neg (by omega), if_pos (by omega)]; rw [inB_iff] at h2; omega
    · rw [if_neg (by omega), if_neg (by omega)]; simpa using h2
  · show (x.kids.map Int.toNat).length = kidsN x.op.toNat
    rw [List.length_map, h3]
    unfold kidsZ kidsN
    have f : ∀ n : Nat, (x.op.toNat = n) = (x.op = n) := fun n => propext ⟨fun h => by omega, fun h => by omega⟩
    simp only [f]; rfl
  · intro k hx
    obtain ⟨z, hz, rfl⟩ := List.mem_map.1 hx
    have := hk z hz
    omega
theorem patZ_ok {N : List Nd} (h : patZ N = true) : Okp (N.map toPc) ∧ 1 ≤ N.length ∧ N.length ≤ 60 ∧ ∀ x ∈ N, 0 ≤ x.op ∧ ∀ k ∈ x.kids, 0 ≤ k := by
  unfold patZ at h
  rw [Bool.and_eq_true, allNt, inB_iff] at h
  have el : ∀ i (hi : i < N.length), pieceZ N[i] i = true := fun i hi => by
    have := h.1 i hi
    rwa [List.getD_eq_getElem?_getD, List.getElem?_eq_getElem hi, Option.getD_some] at this
  refine ⟨fun i hi => ?_, by omega, by omega, fun x hx => ?_⟩
  · rw [List.length_map] at hi
    rw [List.getElem_map]
    exact (pieceZ_ok (el i hi)).1
  · obtain ⟨i, hi, rfl⟩ := List.getElem_of_mem hx
    exact (pieceZ_ok (el i hi)).2
theorem RdPz.pat {h : AH} {v : Value} {L : List (Nd × Value)} (w : RdPz h v L) (ok : ∀ x ∈ L, 0 ≤ x.1.op ∧ ∀ k ∈ x.1.kids, 0 ≤ k) : RdPat h v (L.map toPv) := by
  have e1 : ((L.map toPv).map encP).flatten = (L.map encD).flatten := by
    rw [List.map_map]
    congr 1
    apply List.map_congr_left
    intro x hx
    have := (ok x hx).1
    show [Value.int .i64 ((x.1.op.toNat : Nat) : Int), _, _] = _
    rw [Int.toNat_of_nonneg this]; rfl
  constructor
  · rcases w.r with ⟨c, e, hl⟩ | ⟨id, off, c, e, r, hlt⟩
    · subst hl; exact .inl ⟨c, e, rfl⟩
    · exact .inr ⟨id, off, c, by rw [e, List.length_map], by rw [e1, List.length_map]; exact r, hlt⟩
  · intro x hx
    obtain ⟨y, hy, rfl⟩ := List.mem_map.1 hx
    have k0 := (ok y hy).2
    have e2 : ((y.1.kids.map Int.toNat).map encNa).flatten = (y.1.kids.map encZ).flatten := by
      rw [List.map_map]
      congr 1
      apply List.map_congr_left
      intro k hk
      show [Value.int .i64 ((k.toNat : Nat) : Int)] = _
      rw [Int.toNat_of_nonneg (k0 k hk)]; rfl
    rcases w.kids y hy with ⟨c, e, hl⟩ | ⟨id, off, c, e, r, hlt⟩
    · refine .inl ⟨c, e, ?_⟩
      show y.1.kids.map Int.toNat = []
      rw [hl]; rfl
    · refine .inr ⟨id, off, c, ?_, ?_, hlt⟩
      · show y.2 = _
        rw [e]; show _ = Value.slice _ (y.1.kids.map Int.toNat).length c; rw [List.length_map]
      · show rd h id off ((y.1.kids.map Int.toNat).length * 1) = some ((y.1.kids.map Int.toNat).map encNa).flatten
        rw [List.length_map, e2]; exact r
theorem RdPat.toZ {h : AH} {v : Value} {L : List (Pc × Value)} (w : RdPat h v L) : ∃ M : List (Nd × Value), M.length = L.length ∧ RdPz h v M := by
  let f : Pc × Value → Nd × Value := fun x => (⟨(x.1.op : Nat), x.1.text, x.1.kids.map Int.ofNat⟩, x.2)
  refine ⟨L.map f, List.length_map _, ?_, ?_⟩
  · have e1 : ((L.map f).map encD).flatten = (L.map encP).flatten := by
      rw [List.map_map]; rfl
    rcases w.r with ⟨c, e, hl⟩ | ⟨id, off, c, e, r, hlt⟩
    · subst hl; exact .inl ⟨c, e, rfl⟩
    · exact .inr ⟨id, off, c, by rw [e, List.length_map], by rw [e1, List.length_map]; exact r, hlt⟩
  · intro x hx
    obtain ⟨y, hy, rfl⟩ := List.mem_map.1 hx
    have e2 : ((y.1.kids.map Int.ofNat).map encZ).flatten = (y.1.kids.map encNa).flatten := by
      rw [List.map_map]; rfl
    rcases w.kids y hy with ⟨c, e, hl⟩ | ⟨id, off, c, e, r, hlt⟩
    · refine .inl ⟨c, e, ?_⟩
      show y.1.kids.map Int.ofNat = []
      rw [hl]; rfl
    · refine .inr ⟨id, off, c, ?_, ?_, hlt⟩
      · show y.2 = _
        rw [e]; show _ = Value.slice _ (y.1.kids.map Int.ofNat).length c; rw [List.length_map]
      · show rd h id off ((y.1.kids.map Int.ofNat).length * 1) = some ((y.1.kids.map Int.ofNat).map encZ).flatten
        rw [List.length_map, e2]; exact r
end Go.Sim
namespace Go.Proofs.Ytciajhpeikemoaa
open Go Go.Sim Go.Proofs
set_option linter.unusedSimpArgs false
set_option linter.unusedVariables false
set_option maxRecDepth 100000
set_option maxHeartbeats 1000000
theorem getD_eqY {α : Type} (l : List α) (i : Nat) (d : α) (h : i < l.length) : l.getD i d = l[i] := by simp [List.getD_eq_getElem?_getD, h]
theorem allN_trueY {n : Nat} {p : Nat → Bool} (h : ∀ i, i < n → p i = true) : allN n p = true := by
  simp only [allN, List.all_eq_true, List.mem_range]; exact h
theorem allN_falseY {n : Nat} {p : Nat → Bool} {i : Nat} (hi : i < n) (e : p i = false) : allN n p = false := by
  simp only [allN, List.all_eq_false, List.mem_range]
  exact ⟨i, hi, by simp [e]⟩
theorem kidsAhead_y (v : Value) (l : List Int) (at_ : Nat) (h : AH) (r : RdV h v 1 encZ l) (hl : l.length ≤ 1048576) (ha : at_ ≤ 1048576) :
    CD Try.prog 57 [v, .int .i64 (at_ : Nat)] h (.bool (allN l.length fun k => inB (l.getD k 0) 0 ((at_ : Int) - 1))) h := by
  refine CD.withBig (fun big => ?_)
  refine CD.quiet ?_ (low_bool _ _)
  obtain ⟨A, c, rfl, hR⟩ := r.rde (fun _ => rfl)
  refine CC.ofN Try.func57 Try.ntmps57 Try.results57 rfl (by decide) (by kernel_rfl) ?_
  simp (maxSteps := 1000000) -implicitDefEqProofs only [push_cast, seval]
  refine WC.loopA (by kernel_rfl) [9] [4, 6, 10, 11, 12, 13, 14, 15, 16, 17, 18] (fun i : Nat => [.int .i64 i]) (fun i h' => (i ≤ l.length ∧ ∀ k, k < i → inB (l.getD k 0) 0 ((at_ : Int) - 1) = true) ∧ Pre h h') (fun i => l.length - i) 0 (by kernel_rfl) ⟨⟨Nat.zero_le _, fun k hk => by omega⟩, Pre.refl _⟩ ?_
  intro i g h1 hJ
  have hi := hJ.1.1
  have hj := hJ.1.2
  have p1 := hJ.2
  clear hJ
  simp (maxSteps := 1000000) -implicitDefEqProofs only [push_cast, seval]
  with_reducible refine bcase_d (fun hb => ?_) (fun hb => ?_)
  · have hi' : i < l.length := by omega
    have hg := getD_eqY l i 0 hi'
    with_reducible refine hR.use big p1 hi' (fun id off eA hlt hr => ?_)
    subst eA
    rw [← hg] at hr
    generalize hZ : l.getD i 0 = Z at *
    simp only [encZ] at hr
    have r0 := rd_1 hr
    simp (maxSteps := 1000000) -implicitDefEqProofs only [push_cast, seval, hr, r0, hlt]
    refine And.intro (by omega) (And.intro (by omega) ?_)
    rw [show IntKind.i64.wrap ((at_ : Int) - 1) = (at_ : Int) - 1 by rw [w64 (by omega) (by omega)]]
    with_reducible refine CD.to (within_c _ _ _ _) ?_
    cases hin : inB Z 0 ((at_ : Int) - 1)
    · simp (maxSteps := 1000000) -implicitDefEqProofs only [push_cast, seval]
      refine ⟨?_, p1.keep⟩
      rw [allN_falseY hi' (by rw [hZ]; exact hin)]
    · simp (maxSteps := 1000000) -implicitDefEqProofs only [push_cast, seval]
      rw [wrapSucc (by omega)]
      exact ⟨i + 1, by kernel_rfl, ⟨⟨by omega, fun k hk => (Nat.lt_succ_iff_lt_or_eq.1 hk).elim (hj k) (fun e => by subst e; rw [hZ]; exact hin)⟩, p1⟩, by omega⟩
  · have ei : i = l.length := by omega
    subst ei
    simp (maxSteps := 1000000) -implicitDefEqProofs only [push_cast, seval]
    rw [allN_trueY hj]
    exact ⟨rfl, p1.keep⟩

theorem rdz_cells {h : AH} {v : Value} {l : List Int} (r : RdV h v 1 encZ l) : v.cells = #[v] := by
  rcases r with ⟨c, rfl, _⟩ | ⟨id, off, c, rfl, _, _⟩ <;> rfl
theorem opz_split (op : Int) : op = 1 ∨ op = 2 ∨ op = 3 ∨ op = 4 ∨ op = 5 ∨ op = 6 ∨ op = 7 ∨ op = 8 ∨ op = 9 ∨ op = 10 ∨ op = 11 ∨ op = 12 ∨ (op < 1 ∨ 12 < op) := by omega
theorem pieceOk_z (x : Nd) (kv : Value) (at_ : Nat) (h : AH) (r : RdV h kv 1 encZ x.kids) (hk : x.kids.length ≤ 1000) (ht : x.text.size ≤ 1000) (ha : at_ ≤ 1000) :
    CD Try.prog 50 [.agg #[.int .i64 x.op, .string x.text, kv], .int .i64 (at_ : Nat)] h (.bool (pieceZ x at_)) h := by
  refine CD.quiet ?_ (low_bool _ _)
  have y1 := r.one
  have y2 := rdz_cells r
  obtain ⟨A, c, rfl, hR⟩ := r.rde (fun _ => rfl)
  have hka := fun h' (p : Pre h h') => kidsAhead_y _ x.kids at_ h' (r.pre p) (by omega) (by omega)
  obtain ⟨op, text, kids⟩ := x
  simp only at *
  have tE : (text = ⟨#[]⟩) = (text.size = 0) := propext ⟨fun e => by rw [e]; rfl, fun e => ByteArray.ext (Array.eq_empty_of_size_eq_zero e)⟩
  unfold pieceZ
  simp only
  generalize hA : (allN kids.length fun k => inB (kids.getD k 0) 0 ((at_ : Int) - 1)) = AH at *
  generalize hLk : kids.length = K at *
  generalize hts : text.size = Z at *
  by_cases hop : op < 1 ∨ 12 < op
  · have f : ∀ n : Int, 1 ≤ n → n ≤ 12 → decide (op = n) = false := fun n a b => decide_eq_false (by omega)
    have f1 := f 1 (by omega) (by omega)
    have f3 := f 3 (by omega) (by omega)
    have f4 := f 4 (by omega) (by omega)
    have f5 := f 5 (by omega) (by omega)
    have f6 := f 6 (by omega) (by omega)
    have f7 := f 7 (by omega) (by omega)
    have f8 := f 8 (by omega) (by omega)
    have f9 := f 9 (by omega) (by omega)
    have fi : inB op 1 12 = false := by rw [inB, Bool.and_eq_false_iff, decide_eq_false_iff_not, decide_eq_false_iff_not]; omega
    refine CC.ofN Try.func50 Try.ntmps50 Try.results50 rfl (by decide) (by kernel_rfl) ?_
    simp (maxSteps := 1000000) -implicitDefEqProofs only [push_cast, seval, y1, y2, tE, hLk, hts, f1, f3, f4, f5, f6, f7, f8, f9]
    with_reducible refine CD.to (within_c _ _ _ _) ?_
    simp (maxSteps := 1000000) -implicitDefEqProofs only [push_cast, seval, fi]
    exact ((Pre.refl h).alloc _).keep
  have hcase : op = 1 ∨ op = 2 ∨ op = 3 ∨ op = 4 ∨ op = 5 ∨ op = 6 ∨ op = 7 ∨ op = 8 ∨ op = 9 ∨ op = 10 ∨ op = 11 ∨ op = 12 := by omega
  clear hop
  rcases hcase with rfl | rfl | rfl | rfl | rfl | rfl | rfl | rfl | rfl | rfl | rfl | rfl
  all_goals
    simp only [textZ, kidsZ]
    refine CC.ofN Try.func50 Try.ntmps50 Try.results50 rfl (by decide) (by kernel_rfl) ?_
    simp (maxSteps := 1000000) -implicitDefEqProofs only [push_cast, seval, y1, y2, tE, hLk, hts]
    repeat' (first | with_reducible (first | exact Keep.refl _ _ | assumption | exact byte_lt _ _ | apply Keep.alloc | (refine Keep.set ?_ ?_; rotate_left; · omega) | apply Pre.alloc | apply Pre.set | exact Pre.refl _ | exact le_alloc _ | (refine Pre.keep ?_; assumption) | (refine Pre.n ?_; assumption)) | ((with_reducible (first | refine CD.to (within_c _ _ _ _) ?_ | refine CQ.pure (fun _ => within_c _ _ _ _) ?_ | refine CD.to (hka _ ?_) ?_ | refine CQ.pure (fun _ => hka _ ?_) ?_ | refine bcase_d (fun hb => ?_) (fun hb => ?_) | refine bcase_mk (fun hb => ?_) (fun hb => ?_))) <;> try simp (maxSteps := 1000000) -implicitDefEqProofs only [push_cast, seval, y1, y2, tE, hLk, hts]) | with_reducible refine And.intro ?_ ?_ | omega | (simp only [alloc_n, set_n, kill_n]; omega) | (exfalso; omega))
    all_goals refine congrArg Value.bool ?_
    all_goals simp only [or_self, or_false, false_or, if_true, if_false, true_or, or_true]
    all_goals simp only [inB, Bool.and_eq_true, decide_eq_true_eq, Bool.and_eq_false_iff, decide_eq_false_iff_not] at *
    all_goals first
      | (rw [eq_comm, Bool.and_eq_false_iff, Bool.and_eq_false_iff, Bool.and_eq_false_iff]; simp; omega)
      | (simp; omega)
      | (simp; intros; omega)
      | (have : AH = AH := rfl; grind)
/-- Sizes of a pattern. -/
def SmZ (L : List (Nd × Value)) : Prop := L.length ≤ 1000 ∧ ∀ x ∈ L, x.1.kids.length ≤ 1000 ∧ x.1.text.size ≤ 1000
theorem patZ_no {L : List (Nd × Value)} {i : Nat} (h : i < L.length) (e : pieceZ L[i].1 i = false) : patZ (L.map Prod.fst) = false := by
  unfold patZ
  rw [allN_falseY (i := i) (by rw [List.length_map]; exact h) (by rw [getD_eqY _ _ _ (by rw [List.length_map]; exact h), List.getElem_map]; exact e)]; rfl
theorem patZ_all {L : List (Nd × Value)} (e : ∀ i (h : i < L.length), pieceZ L[i].1 i = true) : patZ (L.map Prod.fst) = inB L.length 1 60 := by
  unfold patZ
  rw [allN_trueY (fun i hi => by
    have hi' : i < L.length := by rwa [List.length_map] at hi
    rw [getD_eqY _ _ _ hi, List.getElem_map]; exact e i hi'), List.length_map]; rfl
theorem PatternOk_zi (v : Value) (L : List (Nd × Value)) (h : AH) (w : RdPz h v L) (z : SmZ L) :
    CD Try.prog 18 [.agg #[v]] h (.bool (patZ (L.map Prod.fst))) h := by
  refine CD.withBig (fun big => ?_)
  refine CD.quiet ?_ (low_bool _ _)
  have r := w.r
  have z1 := z.1
  obtain ⟨A, c, rfl, hR⟩ := r.rde encD_len
  refine CC.ofN Try.func18 Try.ntmps18 Try.results18 rfl (by decide) (by kernel_rfl) ?_
  simp (maxSteps := 1000000) -implicitDefEqProofs only [push_cast, seval]
  refine WC.loopA (by kernel_rfl) [8] [2, 3, 4, 9, 10, 11, 12, 13, 14, 15, 16, 17] (fun i : Nat => [.int .i64 i]) (fun i h' => (i ≤ L.length ∧ ∀ j (hj : j < L.length), j < i → pieceZ L[j].1 j = true) ∧ Pre (h.alloc (AOb.cells [.slice A L.length c] .solo h.n)) h') (fun i => L.length - i) 0 (by kernel_rfl) ⟨⟨Nat.zero_le _, fun j hj h0 => absurd h0 (Nat.not_lt_zero j)⟩, Pre.refl _⟩ ?_
  intro i g h1 hJ
  have hi := hJ.1.1
  have hall := hJ.1.2
  have p0 := hJ.2
  clear hJ
  have p1 : Pre h h1 := ((Pre.refl h).alloc _).trans p0
  have e1 : h1.ob h.n = _ := (p0.ob _ (lt_alloc _)).trans (alloc_same _)
  have l1 : h.n < h1.n := Nat.lt_of_lt_of_le (lt_alloc _) p0.n
  simp (maxSteps := 1000000) -implicitDefEqProofs only [push_cast, seval]
  with_reducible refine bcase_d (fun hb => ?_) (fun hb => ?_)
  · have hi' : i < L.length := by omega
    have kr := (w.kids L[i] (List.getElem_mem hi'))
    have zk := z.2 L[i] (List.getElem_mem hi')
    have no := patZ_no hi'
    have yes : pieceZ L[i].1 i = true → ∀ j (hj : j < L.length), j < i + 1 → pieceZ L[j].1 j = true := fun e j hj hji => by
      by_cases e2 : j = i
      · subst e2; exact e
      · exact hall j hj (by omega)
    with_reducible refine hR.use big p1 hi' (fun id off eA hlt hr => ?_)
    subst eA
    simp only [encD] at hr
    have r0 := (rd_3 hr).1
    have r1 := (rd_3 hr).2.1
    have r2 := (rd_3 hr).2.2
    have y1 := kr.one
    have y2 := rdz_cells kr
    simp (maxSteps := 1000000) -implicitDefEqProofs only [push_cast, seval, hr, r0, r1, r2, hlt, y1, y2]
    repeat (with_reducible refine And.intro ?_ ?_; · (first | omega | decide))
    have pp : Pre h1 ((h1.alloc (AOb.cells [Value.int IntKind.i64 0, Value.string ⟨#[]⟩, Value.slice none 0 0] .solo h1.n)).set h1.n (AOb.cells [Value.int IntKind.i64 L[i].fst.op, Value.string L[i].fst.text, L[i].snd] .solo h1.n)) := ((Pre.refl h1).alloc _).set (Nat.le_refl _) _
    with_reducible refine CD.to (pieceOk_z L[i].1 L[i].2 i _ (kr.pre (p1.trans pp)) zk.1 zk.2 (by omega)) ?_
    generalize pieceZ L[i].1 i = B at *
    simp (maxSteps := 1000000) -implicitDefEqProofs only [push_cast, seval]
    with_reducible refine bcase_mk (fun hB => ?_) (fun hB => ?_)
    · simp (maxSteps := 1000000) -implicitDefEqProofs only [push_cast, seval]
      rw [wrapSucc (by omega)]
      exact ⟨i + 1, by kernel_rfl, ⟨⟨by omega, yes hB⟩, p0.trans pp⟩, by omega⟩
    · simp (maxSteps := 1000000) -implicitDefEqProofs only [push_cast, seval]
      rw [no hB]
      exact ⟨rfl, (p1.trans pp).keep⟩
  · simp (maxSteps := 1000000) -implicitDefEqProofs only [push_cast, seval, e1, rd_of e1, rd1_of e1, l1]
    with_reducible refine CD.to (within_c _ _ _ _) ?_
    have ei : i = L.length := by omega
    simp (maxSteps := 1000000) -implicitDefEqProofs only [push_cast, seval]
    rw [patZ_all (fun j hj => hall j hj (by omega))]
    exact ⟨rfl, p1.keep⟩
theorem op_elim {G : Prop} (op : Int) (h0 : (op < 1 ∨ 12 < op) → G) (h1 : op = 1 → G) (h2 : op = 2 → G) (h3 : op = 3 → G) (h4 : op = 4 → G) (h5 : op = 5 → G) (h6 : op = 6 → G) (h7 : op = 7 → G) (h8 : op = 8 → G) (h9 : op = 9 → G) (h10 : op = 10 → G) (h11 : op = 11 → G) (h12 : op = 12 → G) : G := by
  rcases opz_split op with h | h | h | h | h | h | h | h | h | h | h | h | h
  · exact h1 h
  · exact h2 h
  · exact h3 h
  · exact h4 h
  · exact h5 h
  · exact h6 h
  · exact h7 h
  · exact h8 h
  · exact h9 h
  · exact h10 h
  · exact h11 h
  · exact h12 h
  · exact h0 h
theorem pz_kids {op : Int} {t : ByteArray} {K : Nat} {X : Bool} (h : K ≠ kidsZ op) : (inB op 1 12 && textZ op t && decide (K = kidsZ op) && X) = false := by
  rw [decide_eq_false h]; simp
theorem pz_text {op : Int} {t : ByteArray} {B X : Bool} (h : textZ op t = false) : (inB op 1 12 && textZ op t && B && X) = false := by
  rw [h]; simp
theorem pz_yes {op : Int} {t : ByteArray} {K : Nat} {X : Bool} (h1 : inB op 1 12 = true) (h2 : textZ op t = true) (h3 : K = kidsZ op) (h4 : X = true) : (inB op 1 12 && textZ op t && decide (K = kidsZ op) && X) = true := by
  rw [h1, h2, h4, decide_eq_true h3]; rfl
theorem pz_no {A B C X : Bool} (h : X = false) : (A && B && C && X) = false := by rw [h]; simp
theorem PatternOk_zs (v : Value) (L : List (Nd × Value)) (h : AH) (w : RdPz h v L) (z : SmZ L) :
    CD Try.prog 34 [.agg #[v]] h (.bool (patZ (L.map Prod.fst))) h := by
  refine CD.withBig (fun big => ?_)
  refine CD.quiet ?_ (low_bool _ _)
  have r := w.r
  have z1 := z.1
  obtain ⟨A, c, rfl, hR⟩ := r.rde encD_len
  refine CC.ofN Try.func34 Try.ntmps34 Try.results34 rfl (by decide) (by kernel_rfl) ?_
  simp (maxSteps := 1000000) -implicitDefEqProofs only [push_cast, seval]
  refine WC.loopA (by kernel_rfl) [3] [2, 4, 5, 6, 7, 8, 9, 10, 11, 12, 13, 14, 15, 16, 17, 18, 19, 20, 21, 22, 23, 24, 25, 26, 27, 28, 29, 30, 31, 32, 33, 34, 35, 36, 37, 38, 39, 40, 41, 42, 43, 44, 45, 46, 47, 48, 49, 50, 51, 52, 53, 54, 55, 56, 57, 58, 59, 60, 61, 62, 63, 64, 65, 66, 67, 68, 69, 70, 71, 72, 73] (fun i : Nat => [.int .i64 i]) (fun i h' => (i ≤ L.length ∧ ∀ j (hj : j < L.length), j < i → pieceZ L[j].1 j = true) ∧ Pre (h.alloc (AOb.cells [.slice A L.length c] .solo h.n)) h') (fun i => L.length - i) 0 (by kernel_rfl) ⟨⟨Nat.zero_le _, fun j hj h0 => absurd h0 (Nat.not_lt_zero j)⟩, Pre.refl _⟩ ?_
  intro i g h1 hJ
  have hi := hJ.1.1
  have hall := hJ.1.2
  have p0 := hJ.2
  clear hJ
  have p1 : Pre h h1 := ((Pre.refl h).alloc _).trans p0
  have e1 : h1.ob h.n = _ := (p0.ob _ (lt_alloc _)).trans (alloc_same _)
  have l1 : h.n < h1.n := Nat.lt_of_lt_of_le (lt_alloc _) p0.n
  simp (maxSteps := 1000000) -implicitDefEqProofs only [push_cast, seval, e1, rd_of e1, rd1_of e1, l1]
  with_reducible refine bcase_d (fun hb => ?_) (fun hb => ?_)
  · have hi' : i < L.length := by omega
    have kr := (w.kids L[i] (List.getElem_mem hi'))
    have zk := z.2 L[i] (List.getElem_mem hi')
    have no := patZ_no hi'
    have yes : pieceZ L[i].1 i = true → ∀ j (hj : j < L.length), j < i + 1 → pieceZ L[j].1 j = true := fun e j hj hji => by
      by_cases e2 : j = i
      · subst e2; exact e
      · exact hall j hj (by omega)
    with_reducible refine hR.use big p1 hi' (fun id off eA hlt hr => ?_)
    subst eA
    simp only [encD] at hr
    have r0 := (rd_3 hr).1
    have r1 := (rd_3 hr).2.1
    have r2 := (rd_3 hr).2.2
    have y1 := kr.one
    have y2 := rdz_cells kr
    simp (maxSteps := 1000000) -implicitDefEqProofs only [push_cast, seval, hr, r0, r1, r2, hlt, y1, y2, e1, rd_of e1, rd1_of e1, l1]
    repeat (with_reducible refine And.intro ?_ ?_; · (first | omega | decide))
    have pp : Pre h1 ((h1.alloc (AOb.cells [Value.int IntKind.i64 0, Value.string ⟨#[]⟩, Value.slice none 0 0] .solo h1.n)).set h1.n (AOb.cells [Value.int IntKind.i64 L[i].fst.op, Value.string L[i].fst.text, L[i].snd] .solo h1.n)) := ((Pre.refl h1).alloc _).set (Nat.le_refl _) _
    have e2 : ((h1.alloc (AOb.cells [Value.int IntKind.i64 0, Value.string ⟨#[]⟩, Value.slice none 0 0] .solo h1.n)).set h1.n (AOb.cells [Value.int IntKind.i64 L[i].fst.op, Value.string L[i].fst.text, L[i].snd] .solo h1.n)).ob h1.n = _ := set_same _ _
    have n2 : ((h1.alloc (AOb.cells [Value.int IntKind.i64 0, Value.string ⟨#[]⟩, Value.slice none 0 0] .solo h1.n)).set h1.n (AOb.cells [Value.int IntKind.i64 L[i].fst.op, Value.string L[i].fst.text, L[i].snd] .solo h1.n)).n = h1.n + 1 := rfl
    generalize ((h1.alloc (AOb.cells [Value.int IntKind.i64 0, Value.string ⟨#[]⟩, Value.slice none 0 0] .solo h1.n)).set h1.n (AOb.cells [Value.int IntKind.i64 L[i].fst.op, Value.string L[i].fst.text, L[i].snd] .solo h1.n)) = h2 at *
    have l2 : h1.n < h2.n := by omega
    have pz : pieceZ L[i].1 i = (inB L[i].1.op 1 12 && textZ L[i].1.op L[i].1.text && decide (L[i].1.kids.length = kidsZ L[i].1.op) && allN L[i].1.kids.length (fun k => inB (L[i].1.kids.getD k 0) 0 ((i : Int) - 1))) := rfl
    rw [pz] at no yes
    clear pz
    generalize L[i].1 = X at *
    generalize L[i].2 = kv at *
    obtain ⟨op, text, kids⟩ := X
    simp only at *
    have tE : (text = ⟨#[]⟩) = (text.size = 0) := propext ⟨fun e => by rw [e]; rfl, fun e => ByteArray.ext (Array.eq_empty_of_size_eq_zero e)⟩
    have kf := kr.rde (fun _ => rfl)
    have krr := kr.pre (p1.trans pp)
    have wi : IntKind.i64.wrap ((i : Int) - 1) = (i : Int) - 1 := by rw [w64 (by omega) (by omega)]
    have p2 := p1.trans pp
    have q2 := p0.trans pp
    have hK : kids.length = kids.length := rfl
    have hZ : text.size = text.size := rfl
    clear hall kr
    with_reducible refine Exists.elim kf (fun Ak kf => ?_)
    with_reducible refine Exists.elim kf (fun ck kf => ?_)
    have ek := kf.1
    clear kf
    subst ek
    with_reducible refine op_elim op (fun e => ?_) (fun e => ?_) (fun e => ?_) (fun e => ?_) (fun e => ?_) (fun e => ?_) (fun e => ?_) (fun e => ?_) (fun e => ?_) (fun e => ?_) (fun e => ?_) (fun e => ?_) (fun e => ?_)
    · have f : ∀ n : Int, 1 ≤ n → n ≤ 12 → decide (op = n) = false := fun n a b => decide_eq_false (by omega)
      have f1 := f 1 (by omega) (by omega)
      have f2 := f 2 (by omega) (by omega)
      have f3 := f 3 (by omega) (by omega)
      have f4 := f 4 (by omega) (by omega)
      have f5 := f 5 (by omega) (by omega)
      have f6 := f 6 (by omega) (by omega)
      have f7 := f 7 (by omega) (by omega)
      have f8 := f 8 (by omega) (by omega)
      have f9 := f 9 (by omega) (by omega)
      have f10 := f 10 (by omega) (by omega)
      have f11 := f 11 (by omega) (by omega)
      have f12 := f 12 (by omega) (by omega)
      have fi : inB op 1 12 = false := by rw [inB, Bool.and_eq_false_iff, decide_eq_false_iff_not, decide_eq_false_iff_not]; omega
      simp (maxSteps := 1000000) -implicitDefEqProofs only [push_cast, seval, e2, rd_of e2, rd1_of e2, l2, y1, tE, f1, f2, f3, f4, f5, f6, f7, f8, f9, f10, f11, f12]
      rw [no (by rw [fi]; rfl)]
      exact ⟨rfl, p2.keep⟩
    all_goals
      subst e
      simp (maxSteps := 1000000) -implicitDefEqProofs only [push_cast, seval, e2, rd_of e2, rd1_of e2, l2, y1, tE]
      repeat' (first | with_reducible (first | exact Keep.refl _ _ | assumption | exact byte_lt _ _ | apply Keep.alloc | (refine Keep.set ?_ ?_; rotate_left; · omega) | apply Pre.alloc | apply Pre.set | exact Pre.refl _ | exact le_alloc _ | (refine Pre.keep ?_; assumption) | (refine Pre.n ?_; assumption)) | ((with_reducible (first | refine bcase_d (fun hb => ?_) (fun hb => ?_) | refine bcase_mk (fun hb => ?_) (fun hb => ?_))) <;> try simp (maxSteps := 1000000) -implicitDefEqProofs only [push_cast, seval, e2, rd_of e2, rd1_of e2, l2, y1, tE]) | with_reducible refine And.intro ?_ ?_ | omega | (simp only [alloc_n, set_n, kill_n]; omega) | (exfalso; omega))
    all_goals try (refine congrArg Value.bool (Eq.symm (no ?_)); clear yes no; first
      | exact pz_kids (by generalize kids.length = K at *; simp [kidsZ]; omega)
      | exact pz_text (by simp only [textZ, inB]; clear tE r1 hr e2 y1 krr; generalize text.size = Z at *; simp; omega))
    all_goals
      refine WC.loopA (by kernel_rfl) [7] [2, 60, 61, 62, 63, 64, 65, 66, 67, 68, 69, 70, 71, 72, 73] (fun k : Nat => [.int .i64 (k : Nat)]) (fun k h' => (k ≤ kids.length ∧ ∀ j, j < k → inB (kids.getD j 0) 0 ((i : Int) - 1) = true) ∧ h' = h2) (fun k => kids.length - k) 0 (by kernel_rfl) ⟨⟨Nat.zero_le _, fun j h0 => absurd h0 (Nat.not_lt_zero j)⟩, rfl⟩ ?_
      intro k g3 h3 hJ
      have hk := hJ.1.1
      have hka := hJ.1.2
      have hh := hJ.2
      clear hJ
      subst hh
      simp (maxSteps := 1000000) -implicitDefEqProofs only [push_cast, seval]
      with_reducible refine bcase_d (fun hb9 => ?_) (fun hb9 => ?_)
      rotate_left
      · simp (maxSteps := 1000000) -implicitDefEqProofs only [push_cast, seval]
        rw [wrapSucc (by omega)]
        refine ⟨i + 1, by kernel_rfl, ⟨⟨by omega, yes (pz_yes (by decide) ?_ ?_ (allN_trueY (fun j hj => hka j (by omega))))⟩, q2⟩, by omega⟩
        · clear yes no
          simp only [textZ, inB]
          clear tE r1 hr e2 y1 krr
          generalize text.size = Z at *
          simp; omega
        · clear yes no
          generalize kids.length = K at *
          simp [kidsZ]; omega
      · have hk' : k < kids.length := by omega
        have re := krr.el (fun _ => rfl) hk'
        have hg := getD_eqY kids k 0 hk'
        rw [← hg] at re
        have kno := fun e : inB (kids.getD k 0) 0 ((i : Int) - 1) = false => no (pz_no (allN_falseY (p := fun k => inB (kids.getD k 0) 0 ((i : Int) - 1)) hk' e))
        have kyes := fun e : inB (kids.getD k 0) 0 ((i : Int) - 1) = true => (fun j (hj : j < k + 1) => (Nat.lt_succ_iff_lt_or_eq.1 hj).elim (hka j) (fun e2 => by subst e2; exact e) : ∀ j, j < k + 1 → inB (kids.getD j 0) 0 ((i : Int) - 1) = true)
        generalize kids.getD k 0 = Z9 at *
        with_reducible refine Exists.elim re (fun id9 re => ?_)
        with_reducible refine Exists.elim re (fun off9 re => ?_)
        with_reducible refine Exists.elim re (fun c9 re => ?_)
        have e9 := re.1
        injection e9 with e9 _ _
        subst e9
        have l9 := re.2.1
        have t9 := rd_1 re.2.2
        clear re
        simp (maxSteps := 1000000) -implicitDefEqProofs only [push_cast, seval, e2, rd_of e2, rd1_of e2, l2, y1, l9, t9, wi]
        repeat (with_reducible refine And.intro ?_ ?_; · (first | omega | decide))
        with_reducible refine CD.to (l01In_c _ _ _ _) ?_
        simp (maxSteps := 1000000) -implicitDefEqProofs only [push_cast, seval]
        with_reducible refine bcase_mk (fun hb8 => ?_) (fun hb8 => ?_)
        · simp (maxSteps := 1000000) -implicitDefEqProofs only [push_cast, seval]
          rw [wrapSucc (by omega)]
          exact ⟨k + 1, by kernel_rfl, ⟨by omega, kyes hb8⟩, by omega⟩
        · simp (maxSteps := 1000000) -implicitDefEqProofs only [push_cast, seval]
          rw [kno hb8]
          exact ⟨rfl, p2.keep⟩
  · simp (maxSteps := 1000000) -implicitDefEqProofs only [push_cast, seval, e1, rd_of e1, rd1_of e1, l1]
    with_reducible refine CD.to (l01In_c _ _ _ _) ?_
    have ei : i = L.length := by omega
    simp (maxSteps := 1000000) -implicitDefEqProofs only [push_cast, seval]
    rw [patZ_all (fun j hj => hall j hj (by omega))]
    exact ⟨rfl, p1.keep⟩
end Go.Proofs.Ytciajhpeikemoaa
namespace Go.Proofs.Ytciajhpeikemoaa
open Go Go.Sim Go.Proofs
set_option linter.unusedSimpArgs false
set_option linter.unusedVariables false
set_option maxRecDepth 100000
set_option maxHeartbeats 1000000
def ints (Q : Int → Prop) : List Value → Prop
  | [] => True
  | .int .i64 y :: r => Q y ∧ ints Q r
  | _ => False
theorem ints_at {Q : Int → Prop} : ∀ {cs : List Value} {i : Nat}, ints Q cs → i < cs.length → ∃ y, cs[i]? = some (.int .i64 y) ∧ Q y
  | .int .i64 y :: r, 0, h, _ => ⟨y, rfl, h.1⟩
  | .int .i64 y :: r, i + 1, h, hi => ints_at (cs := r) h.2 (by simpa using hi)
theorem CC.intp {f : FuncId} {args : List Value} {h : AH} {p : Nat} {S : Value} {l : List Nat} {Q : Int → Prop} {K : Value → AH → Prop} (hc : CC Try.prog f args h fun v h' => (∃ y : Int, v = .int .i64 y ∧ Q y) ∧ Dn p S l h h')
    (hk : ∀ (y : Int) h', Q y → Dn p S l h h' → K (.int .i64 y) h') : CC Try.prog f args h K := CC.mono hc (fun v h' ⟨⟨y, e, q⟩, d⟩ => by subst e; exact hk y h' q d)
theorem l01PickInt_c (p : Nat) (S : Value) (l : List Nat) (id n : Nat) (Q : Int → Prop) (cs : List Value) (h : AH) (d : Dw p S l h) (e : h.ob id = .cells cs .solo id) (hc : ints Q cs) (hn : cs.length = n) (h0 : 0 < n) (hlt : id < h.n) :
    CC Try.prog 133 [.pointer (some ⟨p, 0, none⟩), .slice (some ⟨id, 0, none⟩) n 1] h (fun v h' => (∃ y : Int, v = .int .i64 y ∧ Q y) ∧ Dn p S l h h') := by
  subst hn
  have hne : id ≠ p := fun e' => by
    subst e'
    obtain ⟨i, x, e2, _⟩ := d.cur
    rw [e] at e2
    obtain ⟨A, c, rfl, _⟩ := d.bts.sl
    simp only [curO, AOb.cells.injEq] at e2
    rw [e2.1] at hc
    exact hc
  refine CC.ofN Try.func133 Try.ntmps133 Try.results133 rfl (by decide) (by kernel_rfl) ?_
  simp (maxSteps := 1000000) -implicitDefEqProofs only [push_cast, seval]
  with_reducible refine CC.num (l01Below_c p S l _ _ d) (fun y h1 q d1 => ?_)
  have hy : (y : Int) < cs.length := q.1 (by omega)
  have hy' : y < cs.length := by omega
  have e1 : h1.ob id = _ := (d1.ob id hlt hne).trans e
  have l1 : id < h1.n := Nat.lt_of_lt_of_le hlt d1.n
  have hz := ints_at hc hy'
  with_reducible refine Exists.elim hz (fun z hz => ?_)
  have g1 : rd1 h1 id (y * 1) = some (.int .i64 z) := by rw [rd1_of e1, rd1O_cells, Nat.mul_one]; exact hz.1
  have hQ := hz.2
  simp (maxSteps := 1000000) -implicitDefEqProofs only [push_cast, seval, l1, g1]
  refine And.intro (by omega) (And.intro (by omega) ?_)
  exact ⟨⟨z, rfl, hQ⟩, d1⟩
theorem RdPat.smZ {h : AH} {v : Value} {L : List (Pc × Value)} (w : RdPat h v L) (ok : Okp (L.map Prod.fst)) (h2 : L.length ≤ 60) : ∃ M : List (Nd × Value), M.length = L.length ∧ RdPz h v M ∧ SmZ M ∧ ∀ x ∈ M, ∃ y ∈ L, x.2 = y.2 := by
  let f : Pc × Value → Nd × Value := fun x => (⟨(x.1.op : Nat), x.1.text, x.1.kids.map Int.ofNat⟩, x.2)
  obtain ⟨_, _, _⟩ := w.toZ
  refine ⟨L.map f, List.length_map _, ?_, ⟨by rw [List.length_map]; omega, fun x hx => ?_⟩, fun x hx => by
    obtain ⟨y, hy, rfl⟩ := List.mem_map.1 hx
    exact ⟨y, hy, rfl⟩⟩
  · constructor
    · have e1 : ((L.map f).map encD).flatten = (L.map encP).flatten := by
        rw [List.map_map]; rfl
      rcases w.r with ⟨c, e, hl⟩ | ⟨id, off, c, e, r, hlt⟩
      · subst hl; exact .inl ⟨c, e, rfl⟩
      · exact .inr ⟨id, off, c, by rw [e, List.length_map], by rw [e1, List.length_map]; exact r, hlt⟩
    · intro x hx
      obtain ⟨y, hy, rfl⟩ := List.mem_map.1 hx
      have e2 : ((y.1.kids.map Int.ofNat).map encZ).flatten = (y.1.kids.map encNa).flatten := by
        rw [List.map_map]; rfl
      rcases w.kids y hy with ⟨c, e, hl⟩ | ⟨id, off, c, e, r, hlt⟩
      · refine .inl ⟨c, e, ?_⟩
        show y.1.kids.map Int.ofNat = []
        rw [hl]; rfl
      · refine .inr ⟨id, off, c, ?_, ?_, hlt⟩
        · show y.2 = _
          rw [e]; show _ = Value.slice _ (y.1.kids.map Int.ofNat).length c; rw [List.length_map]
        · show rd h id off ((y.1.kids.map Int.ofNat).length * 1) = some ((y.1.kids.map Int.ofNat).map encZ).flatten
          rw [List.length_map, e2]; exact r
  · obtain ⟨y, hy, rfl⟩ := List.mem_map.1 hx
    obtain ⟨i, hi, rfl⟩ := List.getElem_of_mem hy
    have o := ok i (by rw [List.length_map]; exact hi)
    rw [List.getElem_map] at o
    have k1 := o.kids
    have t1 := o.text
    have k2 : kidsN L[i].1.op ≤ 2 := by unfold kidsN; split <;> (try split) <;> omega
    have t2 : L[i].1.text.size ≤ 24 := by
      unfold textOk at t1
      split at t1
      · omega
      split at t1 <;> omega
    show (L[i].1.kids.map Int.ofNat).length ≤ 1000 ∧ L[i].1.text.size ≤ 1000
    rw [List.length_map]; omega
theorem tx_ok {a : ByteArray} (ha : a ∈ txs) : ∃ A, readP a = some A := by
  obtain ⟨A, e, _⟩ := tx_one ha
  exact ⟨A, e⟩
theorem l04Pattern_c (p : Nat) (S : Value) (l : List Nat) (h : AH) (d : Dw p S l h) :
    CC Try.prog 132 [.pointer (some ⟨p, 0, none⟩)] h (fun v h' => (∃ rv M, v = .agg #[rv] ∧ RdPz h' rv M ∧ SmZ M ∧ 1 ≤ M.length ∧ ∀ x ∈ M, ∀ i, atBlock x.2 i → h.n < i) ∧ Dn p S l h h') := by
  have hml := maxLen_eq
  have hp := d.lt
  refine CC.ofN Try.func132 Try.ntmps132 Try.results132 rfl (by decide) (by kernel_rfl) ?_
  simp (maxSteps := 1000000) -implicitDefEqProofs only [push_cast, seval]
  have p0 := (Pre.refl h).alloc (AOb.cells [.slice none 0 0] .solo h.n)
  with_reducible refine CC.txt (l04Text_c p S l _ (d.pre p0)) (fun a h2 qa d2 => ?_)
  have d2' := (d.toDn p0).trans d2
  have za := tx_size qa
  simp (maxSteps := 1000000) -implicitDefEqProofs only [push_cast, seval]
  with_reducible refine CC.mono (ReadPattern_sF _ h2 (by omega)) (fun v h3 hv => ?_)
  have p3 := hv.1
  have hv2 := hv.2
  clear hv
  unfold PatVF at hv2
  with_reducible refine Or.elim hv2 (fun hn => ?_) (fun hy => ?_)
  · exfalso
    obtain ⟨A, e⟩ := tx_ok qa
    rw [hn.1] at e; cases e
  with_reducible refine Exists.elim hy (fun rv hy => ?_)
  with_reducible refine Exists.elim hy (fun LZ hy => ?_)
  have eL := hy.1
  have ev := hy.2.1
  have w := hy.2.2.1
  have fr := hy.2.2.2
  clear hy hv2
  subst ev
  have u := w.r.one
  have yy := w.r.cell1
  simp (maxSteps := 1000000) -implicitDefEqProofs only [push_cast, seval, u, yy, all1]
  have pz : Pre h3 ((h3.alloc (.cells [.slice none 0 0] .solo h3.n)).set h3.n (.cells [rv] .solo h3.n)) := ((Pre.refl h3).alloc _).set (Nat.le_refl _) _
  have n2 := d2'.n
  have n3 := p3.n
  have n4 := pz.n
  have n0 : (h.alloc (AOb.cells [.slice none 0 0] .solo h.n)).n = h.n + 1 := rfl
  have m2 := d2.n
  have eH : ((h3.alloc (.cells [.slice none 0 0] .solo h3.n)).set h3.n (.cells [rv] .solo h3.n)).ob h.n = .cells [.slice none 0 0] .solo h.n := (pz.ob _ (by omega)).trans ((p3.ob _ (by omega)).trans ((d2.ob _ (by omega) (by omega)).trans (alloc_same _)))
  generalize ((h3.alloc (.cells [.slice none 0 0] .solo h3.n)).set h3.n (.cells [rv] .solo h3.n)) = h4 at *
  have l4 : h.n < h4.n := by omega
  simp (maxSteps := 1000000) -implicitDefEqProofs only [push_cast, seval, eH, rd_of eH, rd1_of eH, l4, u, yy, all1]
  have kk : ∃ M : List (Nd × Value), M.length = LZ.length ∧ RdPz h3 rv M ∧ SmZ M ∧ 1 ≤ M.length ∧ ∀ x ∈ M, ∃ y ∈ LZ, x.2 = y.2 := by
    have e := (readP_ok eL)
    have e1 := e.2.1
    have e2 := e.2.2
    rw [List.length_map] at e1 e2
    obtain ⟨M, a, b, c, d⟩ := RdPat.smZ w e.1 e2
    exact ⟨M, a, b, c, by omega, d⟩
  with_reducible refine Exists.elim kk (fun M kk => ?_)
  have r4 := kk.2.1.pre pz
  have hfar := kk.2.2.2.2
  have r5 : RdPz (h4.set h.n (.cells [rv] .solo h.n)) rv M := by
    refine ⟨r4.r.keep (Nat.le_refl _) (fun i hi => set_ne _ ?_), fun x hx => (r4.kids x hx).keep (Nat.le_refl _) (fun i hi => set_ne _ ?_)⟩
    · have := fr i (.inl hi)
      omega
    · obtain ⟨y, hy, e⟩ := hfar x hx
      have := fr i (.inr ⟨y, hy, by rw [← e]; exact hi⟩)
      omega
  exact ⟨⟨rv, M, rfl, r5, kk.2.2.1, kk.2.2.2.1, fun x hx i hi => by
    obtain ⟨y, hy, e⟩ := hfar x hx
    have := fr i (.inr ⟨y, hy, by rw [← e]; exact hi⟩)
    omega⟩, ((d2'.pre hp p3).pre hp pz).set hp (Nat.le_refl _) _⟩
/-- A piece that was written over. -/
theorem pz_set {h h' : AH} {id off c : Nat} {M : List (Nd × Value)} (w : RdPz h (.slice (some ⟨id, off, none⟩) M.length c) M) {k : Nat} (hk : k < M.length) {j : Nat} {vs : List Value} {y : Nd × Value} (hj : j + vs.length ≤ 3) (e : putL (encD M[k]) j vs = encD y)
    (o : Own h' id off M.length 3 (putL (M.map encD).flatten (k * 3 + j) vs)) (ks : ∀ x ∈ M, RdV h' x.2 1 encZ x.1.kids) (ky : RdV h' y.2 1 encZ y.1.kids) : RdPz h' (.slice (some ⟨id, off, none⟩) M.length c) (M.set k y) := by
  refine ⟨.inr ⟨id, off, c, by rw [List.length_set], ?_, o.lt⟩, fun x hx => ?_⟩
  · rw [List.length_set, ← putL_flat (enc := encD) (c := 3) (fun _ => rfl) M k hk j vs y hj e]
    exact o.rdAll
  · rcases List.mem_or_eq_of_mem_set hx with h1 | h1
    · exact ks x h1
    · subst h1; exact ky
theorem smz_set {M : List (Nd × Value)} (z : SmZ M) {k : Nat} {y : Nd × Value} (h1 : y.1.kids.length ≤ 1000) (h2 : y.1.text.size ≤ 1000) : SmZ (M.set k y) :=
  ⟨by rw [List.length_set]; exact z.1, fun x hx => by
    rcases List.mem_or_eq_of_mem_set hx with h | h
    · exact z.2 x h
    · subst h; exact ⟨h1, h2⟩⟩
def FarZ (b : Nat) (v : Value) (M : List (Nd × Value)) : Prop := ∀ i, (atBlock v i ∨ ∃ x ∈ M, atBlock x.2 i) → b < i
theorem bent_fin {p : Nat} {S : Value} {l : List Nat} {h h8 : AH} {v : Value} {M : List (Nd × Value)} (hp : p < h.n) (w8 : RdPz h8 v M) (z8 : SmZ M) (kf : ∀ x ∈ M, ∀ i, atBlock x.2 i → h.n < i) (vf : ∀ i, atBlock v i → h.n < i) (d8 : Dn p S l h h8) (o : AOb) :
    (∃ rv M', Value.agg #[v] = .agg #[rv] ∧ RdPz (h8.set h.n o) rv M' ∧ SmZ M' ∧ FarZ h.n rv M') ∧ Dn p S l h (h8.set h.n o) := by
  refine ⟨⟨v, M, rfl, ⟨w8.r.keep (Nat.le_refl _) (fun i hi => set_ne _ ?_), fun x hx => (w8.kids x hx).keep (Nat.le_refl _) (fun i hi => set_ne _ ?_)⟩, z8, fun i hi => hi.elim (vf i) (fun ⟨x, hx, e⟩ => kf x hx i e)⟩, d8.set hp (Nat.le_refl _) _⟩
  · have := vf i hi; omega
  · have := kf x hx i hi; omega
theorem Dn.wr {p : Nat} {S : Value} {l : List Nat} {h h7 h8 : AH} (d : Dn p S l h h7) (hp : p < h.n) {b : Nat} (hb : h.n ≤ b) (hn : h7.n ≤ h8.n) (x : ∀ i, i < b → h8.ob i = h7.ob i) : Dn p S l h h8 :=
  ⟨Nat.le_trans d.n hn, fun j h1 h2 => (x j (by omega)).trans (d.ob j h1 h2), d.cur.pre (x p (by omega))⟩
theorem l04Bent_c (p : Nat) (S : Value) (l : List Nat) (h : AH) (d : Dw p S l h) :
    CC Try.prog 82 [.pointer (some ⟨p, 0, none⟩)] h (fun v h' => (∃ rv M, v = .agg #[rv] ∧ RdPz h' rv M ∧ SmZ M ∧ FarZ h.n rv M) ∧ Dn p S l h h') := by
  have hp := d.lt
  refine CC.ofN Try.func82 Try.ntmps82 Try.results82 rfl (by decide) (by kernel_rfl) ?_
  simp (maxSteps := 1000000) -implicitDefEqProofs only [push_cast, seval]
  have p0 := (Pre.refl h).alloc (AOb.cells [.slice none 0 0] .solo h.n)
  with_reducible refine CC.mono (l04Pattern_c p S l _ (d.pre p0)) (fun v h1 hv => ?_)
  have d1 := hv.2
  have hv := hv.1
  with_reducible refine Exists.elim hv (fun rv hv => ?_)
  with_reducible refine Exists.elim hv (fun M hv => ?_)
  have ev := hv.1
  have w := hv.2.1
  have zm := hv.2.2.1
  have m1 := hv.2.2.2.1
  have mf := hv.2.2.2.2
  clear hv
  subst ev
  have u := w.r.one
  have yy : rv.cells = #[rv] := by rcases w.r with ⟨c, rfl, _⟩ | ⟨id, off, c, rfl, _, _⟩ <;> rfl
  have n0 : (h.alloc (AOb.cells [.slice none 0 0] .solo h.n)).n = h.n + 1 := rfl
  have n1 := d1.n
  have e0 : h1.ob h.n = .cells [.slice none 0 0] .solo h.n := (d1.ob _ (by omega) (by omega)).trans (alloc_same _)
  simp (maxSteps := 1000000) -implicitDefEqProofs only [push_cast, seval, u, yy, all1]
  have p2 : Pre h1 ((h1.alloc (.cells [.slice none 0 0] .solo h1.n)).set h1.n (.cells [rv] .solo h1.n)) := ((Pre.refl h1).alloc _).set (Nat.le_refl _) _
  have n2 : ((h1.alloc (.cells [.slice none 0 0] .solo h1.n)).set h1.n (.cells [rv] .solo h1.n)).n = h1.n + 1 := rfl
  generalize ((h1.alloc (.cells [.slice none 0 0] .solo h1.n)).set h1.n (.cells [rv] .solo h1.n)) = h2 at *
  have g0 : GrL h1.n (h2.alloc (.cells [] .solo (h1.n + 1))) (.slice (some ⟨h1.n + 1, 0, none⟩) 0 3) 3 [] := by
    rw [← n2]; exact GrL.new (by omega) [] 0 3 rfl
  have wl := ((w.pre p2).pre ((Pre.refl h2).alloc (.cells [] .solo (h1.n + 1))))
  have fl : ((M.map encD).flatten).length = M.length * 3 := flat_len (k := 3) _ (fun _ => rfl)
  have z0 := zm.1
  have nl : (h2.alloc (.cells [] .solo (h1.n + 1))).n = h1.n + 2 := by show h2.n + 1 = _; omega
  refine GrL.app si28 (by decide) (by decide) (notInt_sl und28) g0 (by omega) wl.r.asrc fl (by simp; omega) (fun v' h3 g3 n3 f3 a3 => ?_)
  rw [List.nil_append] at g3
  have go := GrL.open g3 fl m1 (by decide)
  with_reducible refine Exists.elim go (fun id go => ?_)
  with_reducible refine Exists.elim go (fun off go => ?_)
  have ev' := go.1
  have o3 := go.2.1
  have b3 := a3 id (by rw [ev']; exact rfl)
  have l3 := go.2.2.2
  clear go
  subst ev'
  simp (maxSteps := 1000000) -implicitDefEqProofs only [push_cast, seval, all1]
  have p4 : Pre h3 ((h3.alloc (.cells [.slice none 0 0] .solo h3.n)).set h3.n (.cells [.slice (some ⟨id, off, none⟩) M.length 3] .solo h3.n)) := ((Pre.refl h3).alloc _).set (Nat.le_refl _) _
  have n4 : ((h3.alloc (.cells [.slice none 0 0] .solo h3.n)).set h3.n (.cells [.slice (some ⟨id, off, none⟩) M.length 3] .solo h3.n)).n = h3.n + 1 := rfl
  have e4 : ((h3.alloc (.cells [.slice none 0 0] .solo h3.n)).set h3.n (.cells [.slice (some ⟨id, off, none⟩) M.length 3] .solo h3.n)).ob h3.n = .cells [.slice (some ⟨id, off, none⟩) M.length 3] .solo h3.n := set_same _ _
  have x3 : ∀ i, i < h1.n → h3.ob i = h1.ob i := fun i hi => (f3 i (by omega) (fun e => by have e : h1.n + 1 = i := e; omega)).trans ((alloc_lt _ (by omega)).trans (p2.ob i hi))
  generalize ((h3.alloc (.cells [.slice none 0 0] .solo h3.n)).set h3.n (.cells [.slice (some ⟨id, off, none⟩) M.length 3] .solo h3.n)) = h4 at *
  have l4 : h3.n < h4.n := by omega
  have dn4 : Dn p S l h h4 := by
    have q := (d.toDn p0).trans d1
    have qn := q.n
    exact ⟨by omega, fun j h1' h2' => (p4.ob j (by omega)).trans ((x3 j (by omega)).trans (q.ob j h1' h2')), q.cur.pre ((p4.ob p (by omega)).trans (x3 p (by omega)))⟩
  simp (maxSteps := 1000000) -implicitDefEqProofs only [push_cast, seval, e4, rd_of e4, rd1_of e4, l4]
  with_reducible refine CC.num (l01Below_c p S l _ _ (d.dn dn4)) (fun k h5 qk d5 => ?_)
  have hk := qk.1 (by omega)
  have hk' : k < M.length := by omega
  simp (maxSteps := 1000000) -implicitDefEqProofs only [push_cast, seval]
  with_reducible refine CC.num (l01Below_c p S l _ _ ((d.dn dn4).dn d5)) (fun j h6 qj d6 => ?_)
  have d46 := d5.trans d6
  have n6 := d46.n
  have pid : p ≠ id := by omega
  have e6 : h6.ob h3.n = _ := (d46.ob _ (by omega) (by omega)).trans e4
  have l6 : h3.n < h6.n := by omega
  have o6 : Own h6 id off M.length 3 (M.map encD).flatten := (o3.pre p4).same (d46.ob id (by omega) (by omega)) n6
  have g6 : GrL h1.n h6 (.slice (some ⟨id, off, none⟩) M.length 3) 3 (M.map encD).flatten := (g3.pre p4).keep n6 (fun i e => by have e : id = i := e; subst e; exact d46.ob id (by omega) (by omega))
  have dn6 := dn4.trans d46
  have e06 : h6.ob h.n = .cells [.slice none 0 0] .solo h.n := (d46.ob _ (by omega) (by omega)).trans ((p4.ob _ (by omega)).trans ((x3 _ (by omega)).trans e0))
  have w6 : RdPz h6 (.slice (some ⟨id, off, none⟩) M.length 3) M := by
    refine ⟨.inr ⟨id, off, 3, rfl, o6.rdAll, o6.lt⟩, fun x hx => (w.kids x hx).keep (by omega) (fun i hi => ?_)⟩
    have hi' := (w.kids x hx).lt hi
    have := mf x hx i hi
    exact (d46.ob i (by omega) (by omega)).trans ((p4.ob i (by omega)).trans (x3 i hi'))
  clear d46 d5 d6 e4
  simp (maxSteps := 1000000) -implicitDefEqProofs only [push_cast, seval]
  with_reducible refine bcase_d (fun hj0 => ?_) (fun hj0 => ?_)
  · simp (maxSteps := 1000000) -implicitDefEqProofs only [push_cast, seval]
    refine WC.draw' (by kernel_rfl) (by kernel_rfl) (.q 0 (.q 1 (.q 2 (.q 3 (.a 4 false (.q 5 (.q 6 (.a 7 false (.done))))))))) (by kernel_rfl) ?_
    simp (maxSteps := 1000000) -implicitDefEqProofs only [push_cast, seval, e6, rd_of e6, rd1_of e6, l6]
    with_reducible refine CC.mono (CC.wf (l01Below_c p S l _ _ (d.dn dn6))) (fun v h7 hv => ?_)
    have hy := hv.1.1
    have d7 := hv.1.2
    have wf7 := hv.2
    clear hv
    with_reducible refine Exists.elim hy (fun y hy => ?_)
    have ey := hy.1
    have hy14 := hy.2.1 (by omega)
    clear hy
    subst ey
    have n7 := d7.n
    have e7 : h7.ob h3.n = _ := (d7.ob _ (by omega) (by omega)).trans e6
    have l7 : h3.n < h7.n := by omega
    have o7 : Own h7 id off M.length 3 (M.map encD).flatten := o6.same (d7.ob id (by omega) (by omega)) n7
    have g7 : GrL h1.n h7 (.slice (some ⟨id, off, none⟩) M.length 3) 3 (M.map encD).flatten := g6.keep n7 (fun i e => by have e : id = i := e; subst e; exact d7.ob id (by omega) (by omega))
    have lid := o7.lt
    simp (maxSteps := 1000000) -implicitDefEqProofs only [push_cast, seval, e7, rd_of e7, rd1_of e7, l7, lid]
    refine And.intro e6.symm ?_
    repeat (with_reducible refine And.intro ?_ ?_; · (first | omega | decide))
    refine (show Own _ id off M.length 3 _ from o7).wr (lo := k * 3) (vs := [.int .i64 (y : Nat)]) (by simp only [List.length_cons, List.length_nil]; omega) (fun h8 o8 q8 => ?_)
    have n8 := q8.n
    have x8 := g7.wr wf7.lin q8
    have e8 : h8.ob h3.n = _ := (q8.solo wf7.fit e7 (by omega)).trans e7
    have l8 : h3.n < h8.n := by omega
    have e08 : h8.ob h.n = .cells [.slice none 0 0] .solo h.n := (x8 _ (by omega)).trans ((d7.ob _ (by omega) (by omega)).trans e06)
    have l08 : h.n < h8.n := by omega
    have kk : ∀ x ∈ M, RdV h8 x.2 1 encZ x.1.kids := fun x hx => (w6.kids x hx).keep (by omega) (fun i hi => by
      have := mf x hx i hi
      have h1' := (w.kids x hx).lt hi
      exact (x8 i h1').trans (d7.ob i (by omega) (by omega)))
    have w8 : RdPz h8 (.slice (some ⟨id, off, none⟩) M.length 3) (M.set k (⟨(y : Nat), M[k].1.text, M[k].1.kids⟩, M[k].2)) :=
      pz_set w6 hk' (j := 0) (vs := [.int .i64 (y : Nat)]) (by show 0 + 1 ≤ 3; omega) rfl o8 kk (kk M[k] (List.getElem_mem hk'))
    have z8 : SmZ (M.set k (⟨(y : Nat), M[k].1.text, M[k].1.kids⟩, M[k].2)) := by
      have := zm.2 _ (List.getElem_mem hk')
      exact smz_set zm this.1 this.2
    have kfar : ∀ x ∈ M.set k (⟨(y : Nat), M[k].1.text, M[k].1.kids⟩, M[k].2), ∀ i, atBlock x.2 i → h.n < i := fun x hx i hi => by
      rcases List.mem_or_eq_of_mem_set hx with h1 | h1
      · have := mf x h1 i hi; omega
      · subst h1; have := mf _ (List.getElem_mem hk') i hi; omega
    generalize (M.set k (⟨(y : Nat), M[k].1.text, M[k].1.kids⟩, M[k].2)) = M' at *
    simp (maxSteps := 1000000) -implicitDefEqProofs only [push_cast, seval, e8, rd_of e8, rd1_of e8, l8, e08, rd_of e08, rd1_of e08, l08, all1]
    exact ⟨e7.symm, bent_fin hp w8 z8 kfar (fun i e => by have e : id = i := e; omega) (Dn.wr (dn6.trans d7) hp (b := h1.n) (by omega) (by omega) x8) _⟩
  simp (maxSteps := 1000000) -implicitDefEqProofs only [push_cast, seval]
  with_reducible refine bcase_d (fun hj1 => ?_) (fun hj1 => ?_)
  · simp (maxSteps := 1000000) -implicitDefEqProofs only [push_cast, seval]
    refine WC.draw' (by kernel_rfl) (by kernel_rfl) (.q 0 (.q 1 (.q 2 (.q 3 (.a 4 false (.a 5 false (.q 6 (.q 7 (.a 8 false (.done)))))))))) (by kernel_rfl) ?_
    simp (maxSteps := 1000000) -implicitDefEqProofs only [push_cast, seval, e6, rd_of e6, rd1_of e6, l6]
    have px : Pre h6 (h6.alloc (.cells [.string ⟨#[]⟩, .string ⟨#[97]⟩, .string ⟨#[97, 98]⟩] .solo h6.n)) := (Pre.refl h6).alloc _
    with_reducible refine CC.mono (CC.wf (l01Pick_c p S l h6.n 3 (fun y => y.size ≤ 2) _ _ ((d.dn dn6).pre px) (alloc_same _) (by simp only [strs]; decide) rfl (by omega) (lt_alloc _))) (fun v h7 hv => ?_)
    have hy := hv.1.1
    have d7 := ((d.dn dn6).toDn px).trans hv.1.2
    have wf7 := hv.2
    clear hv
    with_reducible refine Exists.elim hy (fun y hy => ?_)
    have ey := hy.1
    have hy14 := hy.2
    clear hy
    subst ey
    have n7 := d7.n
    have e7 : h7.ob h3.n = _ := (d7.ob _ (by omega) (by omega)).trans e6
    have l7 : h3.n < h7.n := by omega
    have o7 : Own h7 id off M.length 3 (M.map encD).flatten := o6.same (d7.ob id (by omega) (by omega)) n7
    have g7 : GrL h1.n h7 (.slice (some ⟨id, off, none⟩) M.length 3) 3 (M.map encD).flatten := g6.keep n7 (fun i e => by have e : id = i := e; subst e; exact d7.ob id (by omega) (by omega))
    have lid := o7.lt
    simp (maxSteps := 1000000) -implicitDefEqProofs only [push_cast, seval, e7, rd_of e7, rd1_of e7, l7, lid]
    refine And.intro ((alloc_lt _ (by omega)).trans e6).symm ?_
    repeat (with_reducible refine And.intro ?_ ?_; · (first | omega | decide))
    refine (show Own _ id off M.length 3 _ from o7).wr (lo := k * 3 + 1) (vs := [.string y]) (by simp only [List.length_cons, List.length_nil]; omega) (fun h8 o8 q8 => ?_)
    have n8 := q8.n
    have x8 := g7.wr wf7.lin q8
    have e8 : h8.ob h3.n = _ := (q8.solo wf7.fit e7 (by omega)).trans e7
    have l8 : h3.n < h8.n := by omega
    have e08 : h8.ob h.n = .cells [.slice none 0 0] .solo h.n := (x8 _ (by omega)).trans ((d7.ob _ (by omega) (by omega)).trans e06)
    have l08 : h.n < h8.n := by omega
    have kk : ∀ x ∈ M, RdV h8 x.2 1 encZ x.1.kids := fun x hx => (w6.kids x hx).keep (by omega) (fun i hi => by
      have := mf x hx i hi
      have h1' := (w.kids x hx).lt hi
      exact (x8 i h1').trans (d7.ob i (by omega) (by omega)))
    have w8 : RdPz h8 (.slice (some ⟨id, off, none⟩) M.length 3) (M.set k (⟨M[k].1.op, y, M[k].1.kids⟩, M[k].2)) :=
      pz_set w6 hk' (j := 1) (vs := [.string y]) (by show 1 + 1 ≤ 3; omega) rfl o8 kk (kk M[k] (List.getElem_mem hk'))
    have z8 : SmZ (M.set k (⟨M[k].1.op, y, M[k].1.kids⟩, M[k].2)) := by
      have := zm.2 _ (List.getElem_mem hk')
      exact smz_set zm this.1 (by show y.size ≤ 1000; omega)
    have kfar : ∀ x ∈ M.set k (⟨M[k].1.op, y, M[k].1.kids⟩, M[k].2), ∀ i, atBlock x.2 i → h.n < i := fun x hx i hi => by
      rcases List.mem_or_eq_of_mem_set hx with h1 | h1
      · have := mf x h1 i hi; omega
      · subst h1; have := mf _ (List.getElem_mem hk') i hi; omega
    generalize (M.set k (⟨M[k].1.op, y, M[k].1.kids⟩, M[k].2)) = M' at *
    simp (maxSteps := 1000000) -implicitDefEqProofs only [push_cast, seval, e8, rd_of e8, rd1_of e8, l8, e08, rd_of e08, rd1_of e08, l08, all1]
    exact ⟨e7.symm, bent_fin hp w8 z8 kfar (fun i e => by have e : id = i := e; omega) (Dn.wr (dn6.trans d7) hp (b := h1.n) (by omega) (by omega) x8) _⟩
  simp (maxSteps := 1000000) -implicitDefEqProofs only [push_cast, seval]
  with_reducible refine bcase_d (fun hj2 => ?_) (fun hj2 => ?_)
  · simp (maxSteps := 1000000) -implicitDefEqProofs only [push_cast, seval]
    refine WC.draw' (by kernel_rfl) (by kernel_rfl) (.q 0 (.q 1 (.q 2 (.q 3 (.q 4 (.a 5 false (.a 6 false (.a 7 false (.q 8 (.q 9 (.a 10 false (.done)))))))))))) (by kernel_rfl) ?_
    simp (maxSteps := 1000000) -implicitDefEqProofs only [push_cast, seval, e6, rd_of e6, rd1_of e6, l6]
    have px : Pre h6 (h6.alloc (.cells [.int .i64 (-1), .int .i64 0, .int .i64 (k : Nat)] .solo h6.n)) := (Pre.refl h6).alloc _
    with_reducible refine CC.mono (CC.wf (l01PickInt_c p S l h6.n 3 (fun _ => True) _ _ ((d.dn dn6).pre px) (alloc_same _) (by simp [ints]) rfl (by omega) (lt_alloc _))) (fun v h7' hv => ?_)
    have hy := hv.1.1
    have d7' := ((d.dn dn6).toDn px).trans hv.1.2
    have wf7' := hv.2
    clear hv
    with_reducible refine Exists.elim hy (fun y hy => ?_)
    have ey := hy.1
    clear hy
    subst ey
    have n7' := d7'.n
    have e7' : h7'.ob h3.n = _ := (d7'.ob _ (by omega) (by omega)).trans e6
    have l7' : h3.n < h7'.n := by omega
    have o7' : Own h7' id off M.length 3 (M.map encD).flatten := o6.same (d7'.ob id (by omega) (by omega)) n7'
    have lid' := o7'.lt
    simp (maxSteps := 1000000) -implicitDefEqProofs only [push_cast, seval, e7', rd_of e7', rd1_of e7', l7', lid']
    have wf7 := wf7'.alloc [.int .i64 y]
    have d7 := d7'.alloc (show p < h6.n by omega) (.cells [.int .i64 y] .solo h7'.n)
    have ky : RdV (h7'.alloc (.cells [.int .i64 y] .solo h7'.n)) (.slice (some ⟨h7'.n, 0, none⟩) 1 1) 1 encZ [y] := (Gr.new (n0 := h7'.n) (Nat.le_refl _) [.int .i64 y] 1 1 rfl).rdv (enc := encZ) (l := [y]) (by decide) (fun _ => rfl)
    have so := alloc_same (h := h7') (.cells [.int .i64 y] .solo h7'.n)
    have hn7 : (h7'.alloc (.cells [.int .i64 y] .solo h7'.n)).n = h7'.n + 1 := rfl
    have eid : (h7'.alloc (.cells [.int .i64 y] .solo h7'.n)).ob id = h7'.ob id := alloc_lt _ lid'
    have e6x : (h7'.alloc (.cells [.int .i64 y] .solo h7'.n)).ob h3.n = .cells [.slice (some ⟨id, off, none⟩) M.length 3] .solo h3.n := (alloc_lt _ (by omega)).trans e7'
    generalize (h7'.alloc (.cells [.int .i64 y] .solo h7'.n)) = h7 at *
    have n7 := d7.n
    have e7 : h7.ob h3.n = _ := (d7.ob _ (by omega) (by omega)).trans e6
    have l7 : h3.n < h7.n := by omega
    have o7 : Own h7 id off M.length 3 (M.map encD).flatten := o6.same (d7.ob id (by omega) (by omega)) n7
    have g7 : GrL h1.n h7 (.slice (some ⟨id, off, none⟩) M.length 3) 3 (M.map encD).flatten := g6.keep n7 (fun i e => by have e : id = i := e; subst e; exact d7.ob id (by omega) (by omega))
    have lid := o7.lt
    simp (maxSteps := 1000000) -implicitDefEqProofs only [push_cast, seval, e7, rd_of e7, rd1_of e7, l7, lid]
    refine And.intro ((alloc_lt _ (by omega)).trans e6).symm ?_
    repeat (with_reducible refine And.intro ?_ ?_; · (first | omega | decide))
    rw [← eid]
    refine (show Own _ id off M.length 3 _ from o7).wr (lo := k * 3 + 2) (vs := [.slice (some ⟨h7'.n, 0, none⟩) 1 1]) (by simp only [List.length_cons, List.length_nil]; omega) (fun h8 o8 q8 => ?_)
    have n8 := q8.n
    have x8 := g7.wr wf7.lin q8
    have e8 : h8.ob h3.n = _ := (q8.solo wf7.fit e7 (by omega)).trans e7
    have l8 : h3.n < h8.n := by omega
    have e08 : h8.ob h.n = .cells [.slice none 0 0] .solo h.n := (x8 _ (by omega)).trans ((d7.ob _ (by omega) (by omega)).trans e06)
    have l08 : h.n < h8.n := by omega
    have kk : ∀ x ∈ M, RdV h8 x.2 1 encZ x.1.kids := fun x hx => (w6.kids x hx).keep (by omega) (fun i hi => by
      have := mf x hx i hi
      have h1' := (w.kids x hx).lt hi
      exact (x8 i h1').trans (d7.ob i (by omega) (by omega)))
    have w8 : RdPz h8 (.slice (some ⟨id, off, none⟩) M.length 3) (M.set k (⟨M[k].1.op, M[k].1.text, [y]⟩, .slice (some ⟨h7'.n, 0, none⟩) 1 1)) :=
      pz_set w6 hk' (j := 2) (vs := [.slice (some ⟨h7'.n, 0, none⟩) 1 1]) (by show 2 + 1 ≤ 3; omega) rfl o8 kk (ky.keep (by omega) (fun i e => by have e : h7'.n = i := e; subst e; exact q8.solo wf7.fit so (by omega)))
    have z8 : SmZ (M.set k (⟨M[k].1.op, M[k].1.text, [y]⟩, .slice (some ⟨h7'.n, 0, none⟩) 1 1)) := by
      have := zm.2 _ (List.getElem_mem hk')
      exact smz_set zm (by show [y].length ≤ 1000; simp) this.2
    have kfar : ∀ x ∈ M.set k (⟨M[k].1.op, M[k].1.text, [y]⟩, .slice (some ⟨h7'.n, 0, none⟩) 1 1), ∀ i, atBlock x.2 i → h.n < i := fun x hx i hi => by
      rcases List.mem_or_eq_of_mem_set hx with h1 | h1
      · have := mf x h1 i hi; omega
      · subst h1; have hi : h7'.n = i := hi; omega
    generalize (M.set k (⟨M[k].1.op, M[k].1.text, [y]⟩, .slice (some ⟨h7'.n, 0, none⟩) 1 1)) = M' at *
    simp (maxSteps := 1000000) -implicitDefEqProofs only [push_cast, seval, e8, rd_of e8, rd1_of e8, l8, e08, rd_of e08, rd1_of e08, l08, all1]
    exact ⟨e7.symm, bent_fin hp w8 z8 kfar (fun i e => by have e : id = i := e; omega) (Dn.wr (dn6.trans d7) hp (b := h1.n) (by omega) (by omega) x8) _⟩
  simp (maxSteps := 1000000) -implicitDefEqProofs only [push_cast, seval]
  with_reducible refine bcase_d (fun hj3 => ?_) (fun hj3 => ?_)
  · simp (maxSteps := 1000000) -implicitDefEqProofs only [push_cast, seval, e6, rd_of e6, rd1_of e6, l6, e06, rd_of e06, rd1_of e06]
    have rz : RdV (h6.alloc (.cells [] .solo h6.n)) (.slice (some ⟨h6.n, 0, none⟩) 0 3) 3 encD [] := (Gr.new (n0 := h6.n) (Nat.le_refl _) [] 0 3 rfl).rdv (enc := encD) (l := []) (by decide) (fun _ => rfl)
    have pz : Pre h6 (h6.alloc (.cells [] .solo h6.n)) := (Pre.refl h6).alloc _
    have rz2 : RdPz ((h6.alloc (.cells [] .solo h6.n)).set h3.n (.cells [.slice (some ⟨h6.n, 0, none⟩) 0 3] .solo h3.n)) (.slice (some ⟨h6.n, 0, none⟩) 0 3) [] := ⟨rz.keep (Nat.le_refl _) (fun i e => by have e : h6.n = i := e; subst e; exact set_ne _ (by omega)), fun x hx => by cases hx⟩
    have dz := (dn6.pre hp pz).set hp (j := h3.n) (by omega) (.cells [.slice (some ⟨h6.n, 0, none⟩) 0 3] .solo h3.n)
    have eH : ((h6.alloc (.cells [] .solo h6.n)).set h3.n (.cells [.slice (some ⟨h6.n, 0, none⟩) 0 3] .solo h3.n)).ob h.n = .cells [.slice none 0 0] .solo h.n := (set_ne _ (by omega)).trans ((alloc_lt _ (by omega)).trans e06)
    have lH : h.n < ((h6.alloc (.cells [] .solo h6.n)).set h3.n (.cells [.slice (some ⟨h6.n, 0, none⟩) 0 3] .solo h3.n)).n := by show h.n < h6.n + 1; omega
    generalize ((h6.alloc (.cells [] .solo h6.n)).set h3.n (.cells [.slice (some ⟨h6.n, 0, none⟩) 0 3] .solo h3.n)) = H at *
    simp (maxSteps := 1000000) -implicitDefEqProofs only [push_cast, seval, eH, rd_of eH, rd1_of eH, lH]
    exact bent_fin hp rz2 ⟨by decide, fun x hx => by cases hx⟩ (fun x hx => by cases hx) (fun i e => by have e : h6.n = i := e; omega) dz _
  · simp (maxSteps := 1000000) -implicitDefEqProofs only [push_cast, seval, e6, rd_of e6, rd1_of e6, l6, e06, rd_of e06, rd1_of e06]
    exact bent_fin hp w6 zm (fun x hx i hi => by have := mf x hx i hi; omega) (fun i e => by have e : id = i := e; omega) dn6 _
theorem DrawPatternOk_c (A : Option Addr) (c : Nat) (l : List Nat) (h : AH) (hR : RdE h A 1 byV l) (hl : ∀ n ∈ l, n < 256) (hn : l.length ≤ 1048576) :
    CC Try.prog 33 [.slice A l.length c] h (fun v h' => (∃ rv M, v = .agg #[rv] ∧ RdPz h' rv M ∧ SmZ M) ∧ Pre h h') := by
  refine CC.withBig (fun big => ?_)
  refine CC.ofN Try.func33 Try.ntmps33 Try.results33 rfl (by decide) (by kernel_rfl) ?_
  simp (maxSteps := 1000000) -implicitDefEqProofs only [push_cast, seval]
  have p0 := (Pre.refl h).alloc (AOb.cells [.slice none 0 0] .solo h.n)
  have m0 : (h.alloc (AOb.cells [.slice none 0 0] .solo h.n)).n = h.n + 1 := rfl
  have e0 := alloc_same (h := h) (AOb.cells [.slice none 0 0] .solo h.n)
  have b0 := big.alloc (AOb.cells [.slice none 0 0] .solo h.n)
  generalize (h.alloc (AOb.cells [.slice none 0 0] .solo h.n)) = h0 at *
  with_reducible refine CC.mono (l01New_c A c l _ (hR.pre big p0) b0 hl hn) (fun v h1 hv => ?_)
  have e1 := hv.1
  have d1 := hv.2.1
  have p1 := hv.2.2
  clear hv
  subst e1
  have n1 := p1.n
  simp (maxSteps := 1000000) -implicitDefEqProofs only [push_cast, seval]
  with_reducible refine CC.mono (l04Bent_c _ _ _ _ d1) (fun v h2 hv => ?_)
  have d2 := hv.2
  have hv := hv.1
  with_reducible refine Exists.elim hv (fun rv hv => ?_)
  with_reducible refine Exists.elim hv (fun M hv => ?_)
  have ev := hv.1
  have w := hv.2.1
  have zm := hv.2.2.1
  have fz := hv.2.2.2
  clear hv
  subst ev
  have u := w.r.one
  have n2 := d2.n
  have eH : h2.ob h.n = .cells [.slice none 0 0] .solo h.n := (d2.ob _ (by omega) (by omega)).trans ((p1.ob _ (by omega)).trans e0)
  have lH : h.n < h2.n := by omega
  simp (maxSteps := 1000000) -implicitDefEqProofs only [push_cast, seval, u, all1, eH, rd_of eH, rd1_of eH, lH]
  refine ⟨⟨rv, M, rfl, ⟨w.r.keep (Nat.le_refl _) (fun i hi => set_ne _ ?_), fun x hx => (w.kids x hx).keep (Nat.le_refl _) (fun i hi => set_ne _ ?_)⟩, zm⟩, ⟨by show h.n ≤ h2.n; omega, fun j hj => (set_ne _ (by omega)).trans ((d2.ob j (by omega) (by omega)).trans ((p1.ob j (by omega)).trans (p0.ob j hj)))⟩⟩
  · have := fz i (.inl hi); omega
  · have := fz i (.inr ⟨x, hx, hi⟩); omega
theorem DrawFindIn_c (A : Option Addr) (c : Nat) (l : List Nat) (h : AH) (hR : RdE h A 1 byV l) (hl : ∀ n ∈ l, n < 256) (hn : l.length ≤ 1048576) :
    CC Try.prog 40 [.slice A l.length c] h (fun v h' => (∃ rv M s, v = .tuple #[.agg #[rv], .string s] ∧ RdPz h' rv M ∧ SmZ M ∧ Wrd 8 s) ∧ Pre h h') := by
  refine CC.withBig (fun big => ?_)
  refine CC.ofN Try.func40 Try.ntmps40 Try.results40 rfl (by decide) (by kernel_rfl) ?_
  simp (maxSteps := 1000000) -implicitDefEqProofs only [push_cast, seval]
  have p0 := (Pre.refl h).alloc (AOb.cells [.slice none 0 0] .solo h.n)
  have m0 : (h.alloc (AOb.cells [.slice none 0 0] .solo h.n)).n = h.n + 1 := rfl
  have e0 := alloc_same (h := h) (AOb.cells [.slice none 0 0] .solo h.n)
  have b0 := big.alloc (AOb.cells [.slice none 0 0] .solo h.n)
  generalize (h.alloc (AOb.cells [.slice none 0 0] .solo h.n)) = h0 at *
  with_reducible refine CC.mono (l01New_c A c l _ (hR.pre big p0) b0 hl hn) (fun v h1 hv => ?_)
  have e1 := hv.1
  have d1 := hv.2.1
  have p1 := hv.2.2
  clear hv
  subst e1
  have n1 := p1.n
  simp (maxSteps := 1000000) -implicitDefEqProofs only [push_cast, seval]
  with_reducible refine CC.mono (l04Bent_c _ _ _ _ d1) (fun v h2 hv => ?_)
  have d2 := hv.2
  have hv := hv.1
  with_reducible refine Exists.elim hv (fun rv hv => ?_)
  with_reducible refine Exists.elim hv (fun M hv => ?_)
  have ev := hv.1
  have w := hv.2.1
  have zm := hv.2.2.1
  have fz := hv.2.2.2
  clear hv
  subst ev
  have u := w.r.one
  have n2 := d2.n
  simp (maxSteps := 1000000) -implicitDefEqProofs only [push_cast, seval, u, all1]
  with_reducible refine CC.txt (l04Word_c _ _ _ _ (d1.dn d2)) (fun s h3 qs d3 => ?_)
  have n3 := d3.n
  have eH : h3.ob h.n = .cells [.slice none 0 0] .solo h.n := (d3.ob _ (by omega) (by omega)).trans ((d2.ob _ (by omega) (by omega)).trans ((p1.ob _ (by omega)).trans e0))
  have lH : h.n < h3.n := by omega
  simp (maxSteps := 1000000) -implicitDefEqProofs only [push_cast, seval, u, all1, eH, rd_of eH, rd1_of eH, lH]
  refine ⟨⟨rv, M, s, rfl, ⟨w.r.keep (by show h2.n ≤ h3.n; omega) (fun i hi => (set_ne _ ?_).trans (d3.ob i (w.r.lt hi) ?_)), fun x hx => (w.kids x hx).keep (by show h2.n ≤ h3.n; omega) (fun i hi => (set_ne _ ?_).trans (d3.ob i ((w.kids x hx).lt hi) ?_))⟩, zm, qs⟩, ⟨by show h.n ≤ h3.n; omega, fun j hj => (set_ne _ (by omega)).trans ((d3.ob j (by omega) (by omega)).trans ((d2.ob j (by omega) (by omega)).trans ((p1.ob j (by omega)).trans (p0.ob j hj))))⟩⟩
  · have := fz i (.inl hi); omega
  · have := fz i (.inl hi); have := d1.lt; omega
  · have := fz i (.inr ⟨x, hx, hi⟩); omega
  · have := fz i (.inr ⟨x, hx, hi⟩); have := d1.lt; omega
theorem l04Any_c (p : Nat) (S : Value) (l : List Nat) (h : AH) (d : Dw p S l h) :
    CC Try.prog 81 [.pointer (some ⟨p, 0, none⟩)] h (fun v h' => (∃ y : ByteArray, v = .string y ∧ y.size ≤ 25) ∧ Dn p S l h h') := by
  refine CC.ofN Try.func81 Try.ntmps81 Try.results81 rfl (by decide) (by kernel_rfl) ?_
  simp (maxSteps := 1000000) -implicitDefEqProofs only [push_cast, seval]
  with_reducible refine CC.bol (l01Once_c p S l _ _ d) (fun b h1 d1 => ?_)
  simp (maxSteps := 1000000) -implicitDefEqProofs only [push_cast, seval]
  with_reducible refine bcase_mk (fun hb => ?_) (fun hb => ?_)
  · simp (maxSteps := 1000000) -implicitDefEqProofs only [push_cast, seval]
    have px : Pre h1 (h1.alloc (.cells [.string ⟨#[]⟩, .string ⟨#[42]⟩, .string ⟨#[40]⟩, .string ⟨#[41]⟩, .string ⟨#[91]⟩, .string ⟨#[91, 93]⟩, .string ⟨#[97, 40]⟩, .string ⟨#[92]⟩, .string ⟨#[92, 97]⟩, .string ⟨#[97, 42, 42]⟩, .string ⟨#[97, 41]⟩, .string ⟨#[91, 94, 93]⟩, .string ⟨#[97, 97, 97, 97, 97, 97, 97, 97, 97, 97, 97, 97, 97, 97, 97, 97, 97, 97, 97, 97, 97, 97, 97, 97]⟩, .string ⟨#[97, 97, 97, 97, 97, 97, 97, 97, 97, 97, 97, 97, 97, 97, 97, 97, 97, 97, 97, 97, 97, 97, 97, 97, 97]⟩] .solo h1.n)) := (Pre.refl h1).alloc _
    with_reducible refine CC.txt (l01Pick_c p S l h1.n 14 (fun y => y.size ≤ 25) _ _ ((d.dn d1).pre px) (alloc_same _) (by simp only [strs]; decide) rfl (by omega) (lt_alloc _)) (fun y h2 q d2 => ?_)
    simp (maxSteps := 1000000) -implicitDefEqProofs only [push_cast, seval]
    exact ⟨⟨y, rfl, q⟩, (d1.trans ((d.dn d1).toDn px)).trans d2⟩
  · simp (maxSteps := 1000000) -implicitDefEqProofs only [push_cast, seval]
    with_reducible refine CC.txt (l04Text_c p S l _ (d.dn d1)) (fun y h2 q d2 => ?_)
    simp (maxSteps := 1000000) -implicitDefEqProofs only [push_cast, seval]
    exact ⟨⟨y, rfl, by have := tx_size q; omega⟩, d1.trans d2⟩
theorem DrawReadPattern_c (A : Option Addr) (c : Nat) (l : List Nat) (h : AH) (hR : RdE h A 1 byV l) (hl : ∀ n ∈ l, n < 256) (hn : l.length ≤ 1048576) :
    CC Try.prog 32 [.slice A l.length c] h (fun v h' => (∃ y : ByteArray, v = .string y ∧ y.size ≤ 25) ∧ Pre h h') := by
  refine CC.withBig (fun big => ?_)
  refine CC.ofN Try.func32 Try.ntmps32 Try.results32 rfl (by decide) (by kernel_rfl) ?_
  simp (maxSteps := 1000000) -implicitDefEqProofs only [push_cast, seval]
  with_reducible refine CC.mono (l01New_c A c l _ hR big hl hn) (fun v h1 hv => ?_)
  have e1 := hv.1
  have d1 := hv.2.1
  have p1 := hv.2.2
  clear hv
  subst e1
  simp (maxSteps := 1000000) -implicitDefEqProofs only [push_cast, seval]
  with_reducible refine CC.txt (l04Any_c _ _ _ _ d1) (fun y h2 q d2 => ?_)
  simp (maxSteps := 1000000) -implicitDefEqProofs only [push_cast, seval]
  exact ⟨⟨y, rfl, q⟩, ⟨Nat.le_trans p1.n d2.n, fun j hj => (d2.ob j (Nat.lt_of_lt_of_le hj p1.n) (by omega)).trans (p1.ob j hj)⟩⟩
end Go.Proofs.Ytciajhpeikemoaa
