/- Parts of the proof of the row: the ground, contracts of the functions that it reaches (L63, L64, L65, N7, Q2, Q3, Q4, Q5, SimR2, Q6, P17, Q7, Q8). Conditions: those that each theorem names. -/
import Derived.Test.YtciajhpeikemoaaB5
namespace Go.Proofs.Ytciajhpeikemoaa
open Go Go.Sim Go.Proofs
set_option linter.unusedSimpArgs false
set_option linter.unusedVariables false
set_option maxRecDepth 100000
set_option maxHeartbeats 1000000
def LqS (s : ByteArray) (k0 n0 p : Nat) (h : AH) (m mg : Nat) (cont : Nat → Nat → List Pc → Nat → PRes) (res : PRes) (a : Nat × Nat × List Pc × Nat) (h' : AH) : Prop :=
  Fr n0 h h' ∧ ((k0 ≤ a.2.1 ∧ s.size - a.2.1 < a.1 ∧ Rg (cS s) s n0 p h' a.2.1 a.2.2.1 ∧ cont a.1 a.2.1 a.2.2.1 a.2.2.2 = res ∧ a.2.2.1.length + 2 * (s.size - a.2.1) ≤ mg) ∨ (a.1 = 0 ∧ res = none ∧ Rb (cS s) s n0 p h' m))
theorem isAt_byte {s : ByteArray} {k c : Nat} (h : isAt s k c = true) : (byteAt s k).toNat = c := by
  simp only [isAt, Bool.and_eq_true, beq_iff_eq] at h; exact h.2
theorem many_os (s : ByteArray) (hs : s.size ≤ 24) (lo : Nat) (alt : Nat → List Pc → PRes) (ha : OweS 47 s (lo + 1) alt) (hg : GoodR 1 s alt) : OweS 150 s lo (pThing alt s) := by
  intro n0 p k out h hlo G hj
  have hA := thing_s n0 p s k out h hs alt (fun n0 p k' out h hk => ha n0 p k' out h (by omega)) hg G hj
  have hb0 := fun k' o' r => pBase_gd hg k out k' o' r G.hi
  have hp := G.lt
  have hn := G.le
  have hk := G.hi
  generalize hm : out.length + 2 * (s.size - k) = m at *
  have eP : pThing alt s k out = pK (pBase alt s k out) (fun k o r => some (pStars s (s.size + 1) k o r)) := rfl
  rw [eP]
  generalize pBase alt s k out = res0 at *
  refine CC.ofN Try.func150 Try.ntmps150 Try.results150 rfl (by decide) (by kernel_rfl) ?_
  simp (maxSteps := 1000000) -implicitDefEqProofs only [push_cast, seval]
  with_reducible refine CC.mono hA (fun y h1 hy => ?_)
  have key : ∃ (a : Nat × Nat × List Pc × Nat) (res : PRes), LqS s k n0 p h m m (fun g k o r => some (pStars s g k o r)) res a h1 ∧ y = .int .i64 (a.2.2.2 : Nat) ∧ res = pK res0 (fun k o r => some (pStars s (s.size + 1) k o r)) := by
    refine hy.cases (fun k1 o1 r1 er ey f1 G1 => ?_) (fun er r1 ey f1 B1 => ?_)
    · subst er
      have hb1 := (hb0 _ _ _ rfl).pot
      exact ⟨(s.size + 1, k1, o1, r1), _, ⟨f1, .inl ⟨(hb0 _ _ _ rfl).le, by show s.size - k1 < s.size + 1; omega, G1, rfl, by show o1.length + 2 * (s.size - k1) ≤ m; omega⟩⟩, ey, rfl⟩
    · subst er
      exact ⟨(0, 0, [], r1), none, ⟨f1, .inr ⟨rfl, rfl, B1⟩⟩, ey, rfl⟩
  clear hy hA
  with_reducible refine Exists.elim key (fun a0 key => ?_)
  with_reducible refine Exists.elim key (fun res key => ?_)
  have hJ0 := key.1
  have ey := key.2.1
  have er := key.2.2
  clear key
  rw [← er]
  subst ey
  clear er hb0
  simp (maxSteps := 1000000) -implicitDefEqProofs only [push_cast, seval]
  refine WC.loopA (by kernel_rfl) [3] [4, 7, 8, 9, 10, 11, 12, 13, 14, 15, 16, 17, 18, 19, 20, 21, 22, 23, 24, 25, 26, 27, 28, 29, 30, 31, 32, 33, 34, 35, 36, 37, 38, 39, 40, 41, 42, 43, 44, 45, 46, 47, 48, 49, 50] (fun a : Nat × Nat × List Pc × Nat => [.int .i64 (a.2.2.2 : Nat)]) (LqS s k n0 p h m m (fun g k o r => some (pStars s g k o r)) res) (fun a => a.1) a0 (by kernel_rfl) hJ0 ?_
  clear hJ0
  intro a g h2 hJ
  unfold LqS at hJ
  have f2 := hJ.1
  with_reducible refine Or.elim hJ.2 (fun hl => ?_) (fun hl => ?_)
  · have hk0 := hl.1
    have hg2 := hl.2.1
    have G2 := hl.2.2.1
    have hr2 := hl.2.2.2.1
    have hb2 := hl.2.2.2.2
    clear hl hJ
    simp only at hr2
    have hgs : ∃ g0, a.1 = g0 + 1 := ⟨a.1 - 1, by omega⟩
    with_reducible refine Exists.elim hgs (fun g0 hg0 => ?_)
    rw [hg0, pStars] at hr2
    have hp2 := G2.lt
    have hk2 := G2.hi
    with_reducible refine G2.cell (fun v L e w hL hl2 => ?_)
    have j1 := is_s p s a.2.1 false v 42 42 rfl h2 e hp2 hs
    have j2 := is_s p s a.2.1 false v 43 43 rfl h2 e hp2 hs
    have j3 := is_s p s a.2.1 false v 63 63 rfl h2 e hp2 hs
    simp only [Bool.not_false, Bool.true_and] at j1 j2 j3
    simp only [cS] at e
    obtain ⟨k3, ek3⟩ : ∃ k3, k3 = a.2.1 + 1 := ⟨_, rfl⟩
    rw [← ek3] at hr2
    have w3 : IntKind.i64.wrap ((a.2.1 : Int) + 1) = (k3 : Int) := by rw [wrapSucc (by omega), ek3]
    have hR : a.2.1 < s.size → Rg (cS s) s n0 p (h2.set p (.cells [.string s, .int .i64 (k3 : Nat), .bool false, v] .solo p)) k3 a.2.2.1 := fun hx => by rw [← hL]; exact Rg.at (C := cS s) hp2 hn w (by omega)
    simp (maxSteps := 1000000) -implicitDefEqProofs only [push_cast, seval]
    with_reducible refine CD.to j1 ?_
    cases c1 : isAt s a.2.1 42 with
    | true =>
      have hlt := isAt_lt c1
      have hby := isAt_byte c1
      simp (maxSteps := 1000000) -implicitDefEqProofs only [push_cast, seval]
      refine WC.draw' (by kernel_rfl) (by kernel_rfl) (.q 0 (.q 1 (.q 2 (.q 3 (.q 4 (.q 5 (.q 6 (.q 7 (.q 8 (.q 9 (.done))))))))))) (by kernel_rfl) ?_
      simp (maxSteps := 1000000) -implicitDefEqProofs only [push_cast, seval, e, rd_of e, rd1_of e, hp2]
      repeat (with_reducible refine And.intro ?_ ?_; · (first | omega | decide))
      simp (maxSteps := 1000000) -implicitDefEqProofs only [push_cast, seval, e, rd_of e, rd1_of e, hp2, hby]
      refine WC.draw' (by kernel_rfl) (by kernel_rfl) (.q 0 (.q 1 (.q 2 (.q 3 (.q 4 (.q 5 (.q 6 (.q 7 (.q 8 (.q 9 (.done))))))))))) (by kernel_rfl) ?_
      simp (maxSteps := 1000000) -implicitDefEqProofs only [push_cast, seval, e, rd_of e, rd1_of e, hp2]
      repeat (with_reducible refine And.intro ?_ ?_; · (first | omega | decide))
      simp (maxSteps := 1000000) -implicitDefEqProofs only [push_cast, seval, e, rd_of e, rd1_of e, hp2, hby, w3]
      have hU := putGs1 n0 p s k3 _ 7 a.2.2.2 7 rfl _ (hR hlt) (by omega)
      simp only [n_set] at hU
      with_reducible refine CC.mono hU (fun y h4 hy => ?_)
      clear hU
      have ey := hy.1
      have f4 := hy.2.1
      have G4 := hy.2.2
      clear hy
      subst ey
      simp (maxSteps := 1000000) -implicitDefEqProofs only [push_cast, seval]
      simp only [c1, if_true, Bool.false_eq_true, if_false] at hr2
      refine ⟨(g0, k3, a.2.2.1 ++ ([⟨7, ⟨#[]⟩, [a.2.2.2]⟩] : List Pc), a.2.2.1.length), by kernel_rfl, ⟨f2.trans (((Fr.refl _ _).set hn _).trans f4), .inl ⟨by show k ≤ k3; omega, by show s.size - k3 < g0; omega, G4, hr2, by show (a.2.2.1 ++ [_]).length + 2 * (s.size - k3) ≤ m; rw [List.length_append]; simp only [List.length_cons, List.length_nil]; omega⟩⟩, by show g0 < a.1; omega⟩
    | false =>
      simp (maxSteps := 1000000) -implicitDefEqProofs only [push_cast, seval]
      with_reducible refine CD.to j2 ?_
      cases c2 : isAt s a.2.1 43 with
      | true =>
        have hlt := isAt_lt c2
        have hby := isAt_byte c2
        simp (maxSteps := 1000000) -implicitDefEqProofs only [push_cast, seval]
        refine WC.draw' (by kernel_rfl) (by kernel_rfl) (.q 0 (.q 1 (.q 2 (.q 3 (.q 4 (.q 5 (.q 6 (.q 7 (.q 8 (.q 9 (.done))))))))))) (by kernel_rfl) ?_
        simp (maxSteps := 1000000) -implicitDefEqProofs only [push_cast, seval, e, rd_of e, rd1_of e, hp2]
        repeat (with_reducible refine And.intro ?_ ?_; · (first | omega | decide))
        simp (maxSteps := 1000000) -implicitDefEqProofs only [push_cast, seval, e, rd_of e, rd1_of e, hp2, hby]
        refine WC.draw' (by kernel_rfl) (by kernel_rfl) (.q 0 (.q 1 (.q 2 (.q 3 (.q 4 (.q 5 (.q 6 (.q 7 (.q 8 (.q 9 (.done))))))))))) (by kernel_rfl) ?_
        simp (maxSteps := 1000000) -implicitDefEqProofs only [push_cast, seval, e, rd_of e, rd1_of e, hp2]
        repeat (with_reducible refine And.intro ?_ ?_; · (first | omega | decide))
        simp (maxSteps := 1000000) -implicitDefEqProofs only [push_cast, seval, e, rd_of e, rd1_of e, hp2, hby, w3]
        have hU := putGs1 n0 p s k3 _ 8 a.2.2.2 8 rfl _ (hR hlt) (by omega)
        simp only [n_set] at hU
        with_reducible refine CC.mono hU (fun y h4 hy => ?_)
        clear hU
        have ey := hy.1
        have f4 := hy.2.1
        have G4 := hy.2.2
        clear hy
        subst ey
        simp (maxSteps := 1000000) -implicitDefEqProofs only [push_cast, seval]
        simp only [c1, c2, if_true, Bool.false_eq_true, if_false] at hr2
        refine ⟨(g0, k3, a.2.2.1 ++ ([⟨8, ⟨#[]⟩, [a.2.2.2]⟩] : List Pc), a.2.2.1.length), by kernel_rfl, ⟨f2.trans (((Fr.refl _ _).set hn _).trans f4), .inl ⟨by show k ≤ k3; omega, by show s.size - k3 < g0; omega, G4, hr2, by show (a.2.2.1 ++ [_]).length + 2 * (s.size - k3) ≤ m; rw [List.length_append]; simp only [List.length_cons, List.length_nil]; omega⟩⟩, by show g0 < a.1; omega⟩
      | false =>
        simp (maxSteps := 1000000) -implicitDefEqProofs only [push_cast, seval]
        with_reducible refine CD.to j3 ?_
        cases c3 : isAt s a.2.1 63 with
        | true =>
          have hlt := isAt_lt c3
          have hby := isAt_byte c3
          simp (maxSteps := 1000000) -implicitDefEqProofs only [push_cast, seval]
          refine WC.draw' (by kernel_rfl) (by kernel_rfl) (.q 0 (.q 1 (.q 2 (.q 3 (.q 4 (.q 5 (.q 6 (.q 7 (.q 8 (.q 9 (.done))))))))))) (by kernel_rfl) ?_
          simp (maxSteps := 1000000) -implicitDefEqProofs only [push_cast, seval, e, rd_of e, rd1_of e, hp2]
          repeat (with_reducible refine And.intro ?_ ?_; · (first | omega | decide))
          simp (maxSteps := 1000000) -implicitDefEqProofs only [push_cast, seval, e, rd_of e, rd1_of e, hp2, hby]
          refine WC.draw' (by kernel_rfl) (by kernel_rfl) (.q 0 (.q 1 (.q 2 (.q 3 (.q 4 (.q 5 (.q 6 (.q 7 (.q 8 (.q 9 (.done))))))))))) (by kernel_rfl) ?_
          simp (maxSteps := 1000000) -implicitDefEqProofs only [push_cast, seval, e, rd_of e, rd1_of e, hp2]
          repeat (with_reducible refine And.intro ?_ ?_; · (first | omega | decide))
          simp (maxSteps := 1000000) -implicitDefEqProofs only [push_cast, seval, e, rd_of e, rd1_of e, hp2, hby, w3]
          have hU := putGs1 n0 p s k3 _ 9 a.2.2.2 9 rfl _ (hR hlt) (by omega)
          simp only [n_set] at hU
          with_reducible refine CC.mono hU (fun y h4 hy => ?_)
          clear hU
          have ey := hy.1
          have f4 := hy.2.1
          have G4 := hy.2.2
          clear hy
          subst ey
          simp (maxSteps := 1000000) -implicitDefEqProofs only [push_cast, seval]
          simp only [c1, c2, c3, if_true, Bool.false_eq_true, if_false] at hr2
          refine ⟨(g0, k3, a.2.2.1 ++ ([⟨9, ⟨#[]⟩, [a.2.2.2]⟩] : List Pc), a.2.2.1.length), by kernel_rfl, ⟨f2.trans (((Fr.refl _ _).set hn _).trans f4), .inl ⟨by show k ≤ k3; omega, by show s.size - k3 < g0; omega, G4, hr2, by show (a.2.2.1 ++ [_]).length + 2 * (s.size - k3) ≤ m; rw [List.length_append]; simp only [List.length_cons, List.length_nil]; omega⟩⟩, by show g0 < a.1; omega⟩
        | false =>
          simp (maxSteps := 1000000) -implicitDefEqProofs only [push_cast, seval]
          simp only [c1, c2, c3, Bool.false_eq_true, if_false] at hr2
          rw [← hr2]
          exact Ro.some f2 G2
  · have hB := hl.2.2
    have hr := hl.2.1
    clear hl hJ
    have hp2 := hB.lt
    with_reducible refine hB.cell (fun k v cs j a e g d c f => ?_)
    have j1 := is_s p s k true v 42 42 rfl h2 e hp2 hs
    have j2 := is_s p s k true v 43 43 rfl h2 e hp2 hs
    have j3 := is_s p s k true v 63 63 rfl h2 e hp2 hs
    simp only [Bool.not_true, Bool.false_and] at j1 j2 j3
    simp (maxSteps := 1000000) -implicitDefEqProofs only [push_cast, seval]
    with_reducible refine CD.to j1 ?_
    simp (maxSteps := 1000000) -implicitDefEqProofs only [push_cast, seval]
    with_reducible refine CD.to j2 ?_
    simp (maxSteps := 1000000) -implicitDefEqProofs only [push_cast, seval]
    with_reducible refine CD.to j3 ?_
    simp (maxSteps := 1000000) -implicitDefEqProofs only [push_cast, seval]
    rw [hr]
    exact Ro.none f2 hB
end Go.Proofs.Ytciajhpeikemoaa
namespace Go.Proofs.Ytciajhpeikemoaa
open Go Go.Sim Go.Proofs
set_option linter.unusedSimpArgs false
set_option linter.unusedVariables false
set_option maxRecDepth 100000
set_option maxHeartbeats 1000000
theorem row_os (s : ByteArray) (hs : s.size ≤ 24) (lo : Nat) (th : Nat → List Pc → PRes) (ht : OweS 150 s lo th) (hg : GoodR 3 s th) : OweS 100 s lo (pRow th s) := by
  intro n0 p k out h hlo G hj
  have hA := ht n0 p k out h hlo G hj
  have hb0 := fun k' o' r => hg k out k' o' r G.hi
  have hp := G.lt
  have hn := G.le
  have hk := G.hi
  have hz : k ≤ s.size := G.hi
  generalize hm : out.length + 2 * (s.size - k) = m at *
  rw [pRow_eq]
  with_reducible refine G.cell (fun v L e w hL hl => ?_)
  simp only [cS] at e
  have hput := putNs n0 p s k out 12 12 rfl ⟨#[]⟩ h G (by omega)
  by_cases hst : pStop s k = true
  · rw [if_pos hst]
    simp only [pStop, Bool.or_eq_true, decide_eq_true_eq] at hst
    refine CC.ofN Try.func100 Try.ntmps100 Try.results100 rfl (by decide) (by kernel_rfl) ?_
    simp (maxSteps := 1000000) -implicitDefEqProofs only [push_cast, seval]
    refine WC.draw' (by kernel_rfl) (by kernel_rfl) (.q 0 (.q 1 (.q 2 (.q 3 (.q 4 (.q 5 (.q 6 (.q 7 (.q 8 (.q 9 (.q 10 (.q 11 (.q 12 (.q 13 (.q 14 (.q 15 (.q 16 (.q 17 (.q 18 (.q 19 (.q 20 (.q 21 (.q 22 (.q 23 (.q 24 (.q 25 (.q 26 (.q 27 (.q 28 (.q 29 (.q 30 (.q 31 (.q 32 (.q 33 (.done))))))))))))))))))))))))))))))))))) (by kernel_rfl) ?_
    simp (maxSteps := 1000000) -implicitDefEqProofs only [push_cast, seval, e, rd_of e, rd1_of e, hp]
    with_reducible refine bcase_d (fun hb => ?_) (fun hb => ?_)
    · simp (maxSteps := 1000000) -implicitDefEqProofs only [push_cast, seval, e, rd_of e, rd1_of e, hp]
      with_reducible refine CC.mono hput (fun y h2 hy => ?_)
      have ey := hy.1
      have f2 := hy.2.1
      have G2 := hy.2.2
      clear hy
      subst ey
      simp (maxSteps := 1000000) -implicitDefEqProofs only [push_cast, seval]
      exact Ro.some f2 G2
    have hkl : k < s.size := by omega
    simp (maxSteps := 1000000) -implicitDefEqProofs only [push_cast, seval, e, rd_of e, rd1_of e, hp]
    repeat (with_reducible refine And.intro ?_ ?_; · (first | omega | decide))
    with_reducible refine bcase_d (fun hb1 => ?_) (fun hb1 => ?_)
    · simp (maxSteps := 1000000) -implicitDefEqProofs only [push_cast, seval, e, rd_of e, rd1_of e, hp]
      with_reducible refine CC.mono hput (fun y h2 hy => ?_)
      have ey := hy.1
      have f2 := hy.2.1
      have G2 := hy.2.2
      clear hy
      subst ey
      simp (maxSteps := 1000000) -implicitDefEqProofs only [push_cast, seval]
      exact Ro.some f2 G2
    simp (maxSteps := 1000000) -implicitDefEqProofs only [push_cast, seval, e, rd_of e, rd1_of e, hp]
    repeat (with_reducible refine And.intro ?_ ?_; · (first | omega | decide))
    with_reducible refine bcase_d (fun hb2 => ?_) (fun hb2 => ?_)
    · simp (maxSteps := 1000000) -implicitDefEqProofs only [push_cast, seval, e, rd_of e, rd1_of e, hp]
      with_reducible refine CC.mono hput (fun y h2 hy => ?_)
      have ey := hy.1
      have f2 := hy.2.1
      have G2 := hy.2.2
      clear hy
      subst ey
      simp (maxSteps := 1000000) -implicitDefEqProofs only [push_cast, seval]
      exact Ro.some f2 G2
    · exfalso
      rw [isAt_of hkl, isAt_of hkl, beq_iff_eq, beq_iff_eq] at hst
      omega
  · rw [if_neg hst]
    simp only [pStop, Bool.or_eq_true, decide_eq_true_eq, not_or, Bool.not_eq_true] at hst
    have n1 := hst.1.1
    have c1 := hst.1.2
    have c2 := hst.2
    have hkl : k < s.size := by omega
    rw [isAt_of hkl, beq_eq_false_iff_ne] at c1 c2
    generalize th k out = res0 at *
    refine CC.ofN Try.func100 Try.ntmps100 Try.results100 rfl (by decide) (by kernel_rfl) ?_
    simp (maxSteps := 1000000) -implicitDefEqProofs only [push_cast, seval]
    refine WC.draw' (by kernel_rfl) (by kernel_rfl) (.q 0 (.q 1 (.q 2 (.q 3 (.q 4 (.q 5 (.q 6 (.q 7 (.q 8 (.q 9 (.q 10 (.q 11 (.q 12 (.q 13 (.q 14 (.q 15 (.q 16 (.q 17 (.q 18 (.q 19 (.q 20 (.q 21 (.q 22 (.q 23 (.q 24 (.q 25 (.q 26 (.q 27 (.q 28 (.q 29 (.q 30 (.q 31 (.q 32 (.q 33 (.done))))))))))))))))))))))))))))))))))) (by kernel_rfl) ?_
    simp (maxSteps := 1000000) -implicitDefEqProofs only [push_cast, seval, e, rd_of e, rd1_of e, hp]
    with_reducible refine bcase_d (fun hb => ?_) (fun hb => ?_)
    · exfalso; omega
    simp (maxSteps := 1000000) -implicitDefEqProofs only [push_cast, seval, e, rd_of e, rd1_of e, hp]
    repeat (with_reducible refine And.intro ?_ ?_; · (first | omega | decide))
    with_reducible refine bcase_d (fun hb => ?_) (fun hb => ?_)
    · exfalso; omega
    simp (maxSteps := 1000000) -implicitDefEqProofs only [push_cast, seval, e, rd_of e, rd1_of e, hp]
    repeat (with_reducible refine And.intro ?_ ?_; · (first | omega | decide))
    with_reducible refine bcase_d (fun hb => ?_) (fun hb => ?_)
    · exfalso; omega
    simp (maxSteps := 1000000) -implicitDefEqProofs only [push_cast, seval, e, rd_of e, rd1_of e, hp]
    with_reducible refine CC.mono hA (fun y h1 hy => ?_)
    have key : ∃ (a : Nat × Nat × List Pc × Nat) (res : PRes), LqS s k n0 p h m (m - 1) (pCats th s) res a h1 ∧ y = .int .i64 (a.2.2.2 : Nat) ∧ res = pK res0 (pCats th s (s.size + 1)) := by
      refine hy.cases (fun k1 o1 r1 er ey f1 G1 => ?_) (fun er r1 ey f1 B1 => ?_)
      · subst er
        have hb1 := (hb0 _ _ _ rfl).pot
        exact ⟨(s.size + 1, k1, o1, r1), _, ⟨f1, .inl ⟨(hb0 _ _ _ rfl).le, by show s.size - k1 < s.size + 1; omega, G1, rfl, by show o1.length + 2 * (s.size - k1) ≤ m - 1; omega⟩⟩, ey, rfl⟩
      · subst er
        exact ⟨(0, 0, [], r1), none, ⟨f1, .inr ⟨rfl, rfl, B1⟩⟩, ey, rfl⟩
    clear hy hA
    with_reducible refine Exists.elim key (fun a0 key => ?_)
    with_reducible refine Exists.elim key (fun res key => ?_)
    have hJ0 := key.1
    have ey := key.2.1
    have er := key.2.2
    clear key
    rw [← er]
    subst ey
    clear er hb0
    simp (maxSteps := 1000000) -implicitDefEqProofs only [push_cast, seval]
    refine WC.loopA (by kernel_rfl) [3] [4, 44, 45, 46, 47, 48, 49, 50, 51, 52, 53, 54, 55, 56, 57, 58, 59, 60, 61, 62, 63, 64, 65, 66, 67, 68, 69, 70, 71, 72, 73, 74, 75, 76, 77, 78, 79, 80, 81, 82, 83, 84, 85, 86, 87, 88, 89, 90, 91, 92] (fun a : Nat × Nat × List Pc × Nat => [.int .i64 (a.2.2.2 : Nat)]) (LqS s k n0 p h m (m - 1) (pCats th s) res) (fun a => a.1) a0 (by kernel_rfl) hJ0 ?_
    clear hJ0 hput e w
    intro a g h2 hJ
    unfold LqS at hJ
    have f2 := hJ.1
    with_reducible refine Or.elim hJ.2 (fun hl => ?_) (fun hl => ?_)
    · have hk0 := hl.1
      have hg2 := hl.2.1
      have G2 := hl.2.2.1
      have hr2 := hl.2.2.2.1
      have hb2 := hl.2.2.2.2
      clear hl hJ
      have hgs : ∃ g0, a.1 = g0 + 1 := ⟨a.1 - 1, by omega⟩
      with_reducible refine Exists.elim hgs (fun g0 hg0 => ?_)
      rw [hg0, pCats_eq] at hr2
      have ex : pStop s a.2.1 = true → Ro (cS s) s n0 p h m res (.int .i64 (a.2.2.2 : Nat)) h2 := fun hs => by
        rw [if_pos hs] at hr2
        rw [← hr2]
        exact Ro.some f2 G2
      have hp2 := G2.lt
      have hk2 := G2.hi
      with_reducible refine G2.cell (fun v L e w hL hl2 => ?_)
      simp only [cS] at e
      simp (maxSteps := 1000000) -implicitDefEqProofs only [push_cast, seval]
      refine WC.draw' (by kernel_rfl) (by kernel_rfl) (.q 0 (.q 1 (.q 2 (.q 3 (.q 4 (.q 5 (.q 6 (.q 7 (.q 8 (.q 9 (.q 10 (.q 11 (.q 12 (.q 13 (.q 14 (.q 15 (.q 16 (.q 17 (.q 18 (.q 19 (.q 20 (.q 21 (.q 22 (.q 23 (.q 24 (.q 25 (.q 26 (.q 27 (.q 28 (.q 29 (.q 30 (.q 31 (.q 32 (.q 33 (.q 34 (.q 35 (.q 36 (.q 37 (.q 38 (.q 39 (.q 40 (.done)))))))))))))))))))))))))))))))))))))))))) (by kernel_rfl) ?_
      simp (maxSteps := 1000000) -implicitDefEqProofs only [push_cast, seval, e, rd_of e, rd1_of e, hp2]
      with_reducible refine bcase_d (fun hb => ?_) (fun hb => ?_)
      case refine_2 =>
        simp (maxSteps := 1000000) -implicitDefEqProofs only [push_cast, seval, e, rd_of e, rd1_of e, hp2]
        exact ex (by simp [pStop]; omega)
      have hkl2 : a.2.1 < s.size := by omega
      simp (maxSteps := 1000000) -implicitDefEqProofs only [push_cast, seval, e, rd_of e, rd1_of e, hp2]
      repeat (with_reducible refine And.intro ?_ ?_; · (first | omega | decide))
      with_reducible refine bcase_d (fun hb1 => ?_) (fun hb1 => ?_)
      · simp (maxSteps := 1000000) -implicitDefEqProofs only [push_cast, seval, e, rd_of e, rd1_of e, hp2]
        exact ex (by simp [pStop, isAt_of hkl2]; omega)
      simp (maxSteps := 1000000) -implicitDefEqProofs only [push_cast, seval, e, rd_of e, rd1_of e, hp2]
      repeat (with_reducible refine And.intro ?_ ?_; · (first | omega | decide))
      with_reducible refine bcase_d (fun hb2 => ?_) (fun hb2 => ?_)
      · simp (maxSteps := 1000000) -implicitDefEqProofs only [push_cast, seval, e, rd_of e, rd1_of e, hp2]
        exact ex (by simp [pStop, isAt_of hkl2]; omega)
      simp (maxSteps := 1000000) -implicitDefEqProofs only [push_cast, seval, e, rd_of e, rd1_of e, hp2]
      clear ex
      have hst : ¬ pStop s a.2.1 = true := by simp [pStop, isAt_of hkl2]; omega
      rw [if_neg hst] at hr2
      have hA := ht n0 p a.2.1 a.2.2.1 h2 (by omega) G2 (by omega)
      have hb0 := fun k' o' r => hg a.2.1 a.2.2.1 k' o' r G2.hi
      generalize th a.2.1 a.2.2.1 = res0 at *
      with_reducible refine CC.mono hA (fun y h3 hy => ?_)
      clear hA
      with_reducible refine hy.cases (fun k3 o3 r3 er ey f3 G3 => ?_) (fun er r3 ey f3 B3 => ?_)
      · clear hy
        subst er ey
        have GG := hb0 _ _ _ rfl
        have gp := GG.pot
        have gl := GG.lt (Nat.le_refl _)
        have gh := GG.hi
        clear hb0 GG
        simp (maxSteps := 1000000) -implicitDefEqProofs only [push_cast, seval]
        with_reducible refine CC.mono (putGs2 n0 p s _ _ 5 a.2.2.2 r3 5 rfl h3 G3 (by omega)) (fun y h4 hy => ?_)
        have ey := hy.1
        have f4 := hy.2.1
        have G4 := hy.2.2
        clear hy
        subst ey
        simp (maxSteps := 1000000) -implicitDefEqProofs only [push_cast, seval]
        refine ⟨(g0, k3, o3 ++ ([⟨5, ⟨#[]⟩, [a.2.2.2, r3]⟩] : List Pc), o3.length), by kernel_rfl, ⟨f2.trans (f3.trans f4), .inl ⟨by show k ≤ k3; omega, by show s.size - k3 < g0; omega, G4, hr2, by show (o3 ++ [_]).length + 2 * (s.size - k3) ≤ m - 1; rw [List.length_append]; simp only [List.length_cons, List.length_nil]; omega⟩⟩, by show g0 < a.1; omega⟩
      · clear hy
        subst er ey
        simp (maxSteps := 1000000) -implicitDefEqProofs only [push_cast, seval]
        with_reducible refine CC.mono (putBs2 n0 p _ s 5 a.2.2.2 r3 5 rfl h3 B3 (by omega)) (fun y h4 hy => ?_)
        with_reducible refine Exists.elim hy.1 (fun r4 ey => ?_)
        have f4 := hy.2.1
        have B4 := hy.2.2
        clear hy
        subst ey
        simp (maxSteps := 1000000) -implicitDefEqProofs only [push_cast, seval]
        refine ⟨(0, 0, [], r4), by kernel_rfl, ⟨f2.trans (f3.trans f4), .inr ⟨rfl, hr2.symm, B4.mono (by omega)⟩⟩, by show 0 < a.1; omega⟩
    · have hB := hl.2.2
      have hr := hl.2.1
      clear hl hJ
      have hp2 := hB.lt
      with_reducible refine hB.cell (fun k v cs j a e g d c f => ?_)
      simp only [cS] at e
      simp (maxSteps := 1000000) -implicitDefEqProofs only [push_cast, seval]
      refine WC.draw' (by kernel_rfl) (by kernel_rfl) (.q 0 (.q 1 (.q 2 (.q 3 (.q 4 (.q 5 (.q 6 (.q 7 (.q 8 (.q 9 (.q 10 (.q 11 (.q 12 (.q 13 (.q 14 (.q 15 (.q 16 (.q 17 (.q 18 (.q 19 (.q 20 (.q 21 (.q 22 (.q 23 (.q 24 (.q 25 (.q 26 (.q 27 (.q 28 (.q 29 (.q 30 (.q 31 (.q 32 (.q 33 (.q 34 (.q 35 (.q 36 (.q 37 (.q 38 (.q 39 (.q 40 (.done)))))))))))))))))))))))))))))))))))))))))) (by kernel_rfl) ?_
      simp (maxSteps := 1000000) -implicitDefEqProofs only [push_cast, seval, e, rd_of e, rd1_of e, hp2]
      rw [hr]
      exact Ro.none f2 hB
end Go.Proofs.Ytciajhpeikemoaa
namespace Go.Proofs.Ytciajhpeikemoaa
open Go Go.Sim Go.Proofs
set_option linter.unusedSimpArgs false
set_option linter.unusedVariables false
set_option maxRecDepth 100000
set_option maxHeartbeats 1000000
theorem alt_os (s : ByteArray) (hs : s.size ≤ 24) (lo : Nat) (rw_ : Nat → List Pc → PRes) (ht : OweS 100 s lo rw_) (hg : GoodR 1 s rw_) : OweS 47 s lo (fun k out => pK (rw_ k out) (pBars rw_ s (s.size + 1))) := by
  intro n0 p k out h hlo G hj
  have hA := ht n0 p k out h hlo G hj
  have hb0 := fun k' o' r => hg k out k' o' r G.hi
  have hp := G.lt
  have hn := G.le
  have hk := G.hi
  have hz : k ≤ s.size := G.hi
  generalize hm : out.length + 2 * (s.size - k) = m at *
  simp only
  generalize rw_ k out = res0 at *
  refine CC.ofN Try.func47 Try.ntmps47 Try.results47 rfl (by decide) (by kernel_rfl) ?_
  simp (maxSteps := 1000000) -implicitDefEqProofs only [push_cast, seval]
  with_reducible refine CC.mono hA (fun y h1 hy => ?_)
  have key : ∃ (a : Nat × Nat × List Pc × Nat) (res : PRes), LqS s k n0 p h m (m + 1) (pBars rw_ s) res a h1 ∧ y = .int .i64 (a.2.2.2 : Nat) ∧ res = pK res0 (pBars rw_ s (s.size + 1)) := by
    refine hy.cases (fun k1 o1 r1 er ey f1 G1 => ?_) (fun er r1 ey f1 B1 => ?_)
    · subst er
      have hb1 := (hb0 _ _ _ rfl).pot
      exact ⟨(s.size + 1, k1, o1, r1), _, ⟨f1, .inl ⟨(hb0 _ _ _ rfl).le, by show s.size - k1 < s.size + 1; omega, G1, rfl, by show o1.length + 2 * (s.size - k1) ≤ m + 1; omega⟩⟩, ey, rfl⟩
    · subst er
      exact ⟨(0, 0, [], r1), none, ⟨f1, .inr ⟨rfl, rfl, B1⟩⟩, ey, rfl⟩
  clear hy hA
  with_reducible refine Exists.elim key (fun a0 key => ?_)
  with_reducible refine Exists.elim key (fun res key => ?_)
  have hJ0 := key.1
  have ey := key.2.1
  have er := key.2.2
  clear key
  rw [← er]
  subst ey
  clear er hb0
  simp (maxSteps := 1000000) -implicitDefEqProofs only [push_cast, seval]
  refine WC.loopA (by kernel_rfl) [3] [4, 7, 8, 9, 10, 11, 12, 13, 14, 15, 16, 17, 18, 19, 20, 21, 22, 23, 24] (fun a : Nat × Nat × List Pc × Nat => [.int .i64 (a.2.2.2 : Nat)]) (LqS s k n0 p h m (m + 1) (pBars rw_ s) res) (fun a => a.1) a0 (by kernel_rfl) hJ0 ?_
  clear hJ0
  intro a g h2 hJ
  unfold LqS at hJ
  have f2 := hJ.1
  with_reducible refine Or.elim hJ.2 (fun hl => ?_) (fun hl => ?_)
  · have hk0 := hl.1
    have hg2 := hl.2.1
    have G2 := hl.2.2.1
    have hr2 := hl.2.2.2.1
    have hb2 := hl.2.2.2.2
    clear hl hJ
    have hgs : ∃ g0, a.1 = g0 + 1 := ⟨a.1 - 1, by omega⟩
    with_reducible refine Exists.elim hgs (fun g0 hg0 => ?_)
    rw [hg0, pBars_eq] at hr2
    have hp2 := G2.lt
    have hk2 := G2.hi
    with_reducible refine G2.cell (fun v L e w hL hl2 => ?_)
    have j1 := is_s p s a.2.1 false v 124 124 rfl h2 e hp2 hs
    simp only [Bool.not_false, Bool.true_and] at j1
    simp only [cS] at e
    simp (maxSteps := 1000000) -implicitDefEqProofs only [push_cast, seval]
    with_reducible refine CD.to j1 ?_
    clear j1
    cases c1 : isAt s a.2.1 124 with
    | true =>
      have hlt := isAt_lt c1
      obtain ⟨h3, eh3⟩ : ∃ h3, h3 = h2.set p (.cells [.string s, .int .i64 ((a.2.1 + 1 : Nat) : Int), .bool false, v] .solo p) := ⟨_, rfl⟩
      have f3 : Fr n0 h2 h3 := by rw [eh3]; exact (Fr.refl _ _).set hn _
      have G3 : Rg (cS s) s n0 p h3 (a.2.1 + 1) a.2.2.1 := by rw [eh3, ← hL]; exact Rg.at (C := cS s) hp2 hn w (by omega)
      obtain ⟨k3, ek3⟩ : ∃ k3, k3 = a.2.1 + 1 := ⟨_, rfl⟩
      have w3 : IntKind.i64.wrap ((a.2.1 : Int) + 1) = (k3 : Int) := by rw [wrapSucc (by omega), ek3]
      rw [← ek3] at eh3
      rw [if_pos c1] at hr2
      simp (maxSteps := 1000000) -implicitDefEqProofs only [push_cast, seval, e, rd_of e, rd1_of e, hp2, w3]
      rw [← eh3]
      have hA := ht n0 p (a.2.1 + 1) a.2.2.1 h3 (by omega) G3 (by omega)
      have hb0 := fun k' o' r => hg (a.2.1 + 1) a.2.2.1 k' o' r G3.hi
      generalize rw_ (a.2.1 + 1) a.2.2.1 = res0 at *
      with_reducible refine CC.mono hA (fun y h3b hy => ?_)
      clear hA
      with_reducible refine hy.cases (fun k3 o3 r3 er ey f3b G3b => ?_) (fun er r3 ey f3b B3 => ?_)
      · clear hy
        subst er ey
        have GG := hb0 _ _ _ rfl
        have gp := GG.pot
        have gl := GG.le
        have gh := GG.hi
        clear hb0 GG
        simp (maxSteps := 1000000) -implicitDefEqProofs only [push_cast, seval]
        with_reducible refine CC.mono (putGs2 n0 p s _ _ 6 a.2.2.2 r3 6 rfl h3b G3b (by omega)) (fun y h4 hy => ?_)
        have ey := hy.1
        have f4 := hy.2.1
        have G4 := hy.2.2
        clear hy
        subst ey
        simp (maxSteps := 1000000) -implicitDefEqProofs only [push_cast, seval]
        refine ⟨(g0, k3, o3 ++ ([⟨6, ⟨#[]⟩, [a.2.2.2, r3]⟩] : List Pc), o3.length), by kernel_rfl, ⟨f2.trans (f3.trans (f3b.trans f4)), .inl ⟨by show k ≤ k3; omega, by show s.size - k3 < g0; omega, G4, hr2, by show (o3 ++ [_]).length + 2 * (s.size - k3) ≤ m + 1; rw [List.length_append]; simp only [List.length_cons, List.length_nil]; omega⟩⟩, by show g0 < a.1; omega⟩
      · clear hy
        subst er ey
        simp (maxSteps := 1000000) -implicitDefEqProofs only [push_cast, seval]
        with_reducible refine CC.mono (putBs2 n0 p _ s 6 a.2.2.2 r3 6 rfl h3b B3 (by omega)) (fun y h4 hy => ?_)
        with_reducible refine Exists.elim hy.1 (fun r4 ey => ?_)
        have f4 := hy.2.1
        have B4 := hy.2.2
        clear hy
        subst ey
        simp (maxSteps := 1000000) -implicitDefEqProofs only [push_cast, seval]
        refine ⟨(0, 0, [], r4), by kernel_rfl, ⟨f2.trans (f3.trans (f3b.trans f4)), .inr ⟨rfl, hr2.symm, B4.mono (by omega)⟩⟩, by show 0 < a.1; omega⟩
    | false =>
      simp (maxSteps := 1000000) -implicitDefEqProofs only [push_cast, seval]
      rw [if_neg (by rw [c1]; decide)] at hr2
      rw [← hr2]
      exact Ro.some f2 G2
  · have hB := hl.2.2
    have hr := hl.2.1
    clear hl hJ
    have hp2 := hB.lt
    with_reducible refine hB.cell (fun k v cs j a e g d c f => ?_)
    have j1 := is_s p s k true v 124 124 rfl h2 e hp2 hs
    simp only [Bool.not_true, Bool.false_and] at j1
    simp (maxSteps := 1000000) -implicitDefEqProofs only [push_cast, seval]
    with_reducible refine CD.to j1 ?_
    simp (maxSteps := 1000000) -implicitDefEqProofs only [push_cast, seval]
    rw [hr]
    exact Ro.none f2 hB
theorem alternatives_os (s : ByteArray) (hs : s.size ≤ 24) : ∀ (f lo : Nat), s.size < lo + f → OweS 47 s lo (pAlt s f)
  | 0, lo, hl => fun n0 p k out h hk G => by have := G.hi; omega
  | f + 1, lo, hl => by
    have ha := alternatives_os s hs f (lo + 1) (by omega)
    have gt := pThing_gd (pAlt_gd s f)
    exact alt_os s hs lo _ (row_os s hs lo _ (many_os s hs lo _ ha (pAlt_gd s f)) gt) (pRow_gd gt)
theorem ReadPattern_s (s : ByteArray) (h : AH) (hs0 : s.size ≤ maxLen) : CC Try.prog 15 [.string s] h (fun v h' => Pre h h' ∧ PatV s v h') := by
  have hml := maxLen_eq
  by_cases hs : 1 ≤ s.size ∧ s.size ≤ 24
  · have hin : inB (s.size : Nat) 1 24 = true := by simp only [inB, Bool.and_eq_true, decide_eq_true_eq]; omega
    have eN : pAlt s (s.size + 1) 0 [] = none → readP s = none := fun e => by unfold readP; rw [if_pos hs, e]
    have eS : ∀ k o r, pAlt s (s.size + 1) 0 [] = some (k, o, r) → readP s = if k = s.size then some o else none := fun k o r e => by unfold readP; rw [if_pos hs, e]
    refine CC.ofN Try.func15 Try.ntmps15 Try.results15 rfl (by decide) (by kernel_rfl) ?_
    simp (maxSteps := 1000000) -implicitDefEqProofs only [push_cast, seval]
    with_reducible refine CD.to (l01In_c _ _ _ _) ?_
    rw [hin]
    simp (maxSteps := 1000000) -implicitDefEqProofs only [push_cast, seval]
    have hA := alternatives_os s hs.2 (s.size + 1) 0 (by omega) (h.n + 1) (h.n + 1) 0 [] ((h.alloc (AOb.cells [.slice none 0 0] .solo h.n)).alloc (AOb.cells [.string s, .int .i64 0, .bool false, .slice none 0 0] .solo (h.n + 1))) (Nat.zero_le _)
      ⟨Nat.lt_succ_self _, Nat.le_refl _, Nat.zero_le _, .slice none 0 0, [], alloc_same _, Pcs.nil _ _ _ _, rfl⟩ (by simp; omega)
    have p0 : Pre h ((h.alloc (AOb.cells [.slice none 0 0] .solo h.n)).alloc (AOb.cells [.string s, .int .i64 0, .bool false, .slice none 0 0] .solo (h.n + 1))) := ((Pre.refl h).alloc _).alloc _
    have c0 : ((h.alloc (AOb.cells [.slice none 0 0] .solo h.n)).alloc (AOb.cells [.string s, .int .i64 0, .bool false, .slice none 0 0] .solo (h.n + 1))).ob h.n = AOb.cells [.slice none 0 0] .solo h.n := (alloc_lt _ (Nat.lt_succ_self _)).trans (alloc_same _)
    have l0 : ((h.alloc (AOb.cells [.slice none 0 0] .solo h.n)).alloc (AOb.cells [.string s, .int .i64 0, .bool false, .slice none 0 0] .solo (h.n + 1))).n = h.n + 2 := rfl
    generalize (h.alloc (AOb.cells [.slice none 0 0] .solo h.n)).alloc (AOb.cells [.string s, .int .i64 0, .bool false, .slice none 0 0] .solo (h.n + 1)) = H at *
    generalize pAlt s (s.size + 1) 0 [] = res at *
    with_reducible refine CC.mono hA (fun y h1 hy => ?_)
    clear hA
    with_reducible refine hy.cases (fun k1 o1 r1 er ey f1 G1 => ?_) (fun er r1 ey f1 B1 => ?_)
    · clear hy
      subst ey
      have eS := eS _ _ _ er
      clear er eN
      have hp1 := G1.lt
      have hk1 := G1.hi
      have c1 : h1.ob h.n = _ := (f1.ob _ (Nat.lt_succ_self _)).trans c0
      have lc : h.n < h1.n := by have := f1.n; omega
      have fp : Pre h h1 := ⟨by have := f1.n; omega, fun i hi => (f1.ob i (by omega)).trans (p0.ob i hi)⟩
      with_reducible refine G1.cell (fun v L e w hL hl => ?_)
      simp only [cS] at e
      simp (maxSteps := 1000000) -implicitDefEqProofs only [push_cast, seval, e, rd_of e, rd1_of e, hp1, c1, rd_of c1, rd1_of c1, lc]
      with_reducible refine bcase_d (fun hb => ?_) (fun hb => ?_)
      · have ek : ¬ k1 = s.size := by omega
        rw [if_neg ek] at eS
        simp (maxSteps := 1000000) -implicitDefEqProofs only [push_cast, seval, e, rd_of e, rd1_of e, hp1, c1, rd_of c1, rd1_of c1, lc]
        exact ⟨fp.set (Nat.le_refl _) _, .inl ⟨eS, rfl⟩⟩
      · have ek : k1 = s.size := by omega
        rw [if_pos ek] at eS
        rw [← hL] at eS
        have y1 := w.pat.r.one
        have y2 := rdv_cells w.pat.r
        simp (maxSteps := 1000000) -implicitDefEqProofs only [push_cast, seval, e, rd_of e, rd1_of e, hp1, c1, rd_of c1, rd1_of c1, lc, y1, y2]
        refine ⟨fp.set (Nat.le_refl _) _, .inr ⟨v, L, eS, rfl, w.pat.r.keep (Nat.le_refl _) (fun i hi => set_ne _ ?_), fun x hx => (w.kids x hx).keep (Nat.le_refl _) (fun i hi => set_ne _ ?_)⟩⟩
        · have := (w.gr.range hi).1
          omega
        · have := (w.far x hx i hi).1
          omega
    · clear hy
      subst ey
      have eN := eN er
      clear er eS
      have c1 : h1.ob h.n = _ := (f1.ob _ (Nat.lt_succ_self _)).trans c0
      have lc : h.n < h1.n := by have := f1.n; omega
      have fp : Pre h h1 := ⟨by have := f1.n; omega, fun i hi => (f1.ob i (by omega)).trans (p0.ob i hi)⟩
      have hp1 := B1.lt
      with_reducible refine B1.cell (fun k v cs j a e g d c f => ?_)
      simp only [cS] at e
      simp (maxSteps := 1000000) -implicitDefEqProofs only [push_cast, seval, e, rd_of e, rd1_of e, hp1, c1, rd_of c1, rd1_of c1, lc]
      exact ⟨fp.set (Nat.le_refl _) _, .inl ⟨eN, rfl⟩⟩
  · have hin : inB (s.size : Nat) 1 24 = false := by rw [Bool.eq_false_iff]; simp only [inB, ne_eq, Bool.and_eq_true, decide_eq_true_eq]; omega
    have eR : readP s = none := by unfold readP; rw [if_neg hs]
    refine CC.ofN Try.func15 Try.ntmps15 Try.results15 rfl (by decide) (by kernel_rfl) ?_
    simp (maxSteps := 1000000) -implicitDefEqProofs only [push_cast, seval]
    with_reducible refine CD.to (l01In_c _ _ _ _) ?_
    rw [hin]
    simp (maxSteps := 1000000) -implicitDefEqProofs only [push_cast, seval]
    exact ⟨((Pre.refl h).alloc _).set (Nat.le_refl _) _, .inl ⟨eR, rfl⟩⟩
end Go.Proofs.Ytciajhpeikemoaa
namespace Go.Proofs.Ytciajhpeikemoaa
open Go Go.Sim Go.Proofs
set_option linter.unusedSimpArgs false
set_option linter.unusedVariables false
set_option maxRecDepth 100000
set_option maxHeartbeats 1000000
theorem EndsAt_c (vP : Value) (L : List (Pc × Value)) (s : ByteArray) (k i : Nat) (h : AH) (w : RdPat h vP L) (ok : Okp (L.map Prod.fst)) (h1 : 1 ≤ L.length) (h2 : L.length ≤ 60) (hk : k < L.length) (hi : i ≤ s.size) (hs : s.size ≤ 100000) :
    CC Try.prog 45 [.agg #[vP], .int .i64 (k : Nat), .string s, .int .i64 (i : Nat)] h (fun v h' => RdV h' v 1 encNa (ml (L.map Prod.fst) s k i) ∧ Pre h h') := by
  have u := w.r.one
  have y := w.r.cell1
  obtain ⟨A, c, rfl, hPR⟩ := w.r.rde (fun _ => rfl)
  have p0 : Pre h (h.alloc (.cells [.slice A L.length c] .solo h.n)) := (Pre.refl h).alloc _
  have e0 : (h.alloc (.cells [.slice A L.length c] .solo h.n)).ob h.n = _ := alloc_same _
  have n0 : (h.alloc (.cells [.slice A L.length c] .solo h.n)).n = h.n + 1 := rfl
  have wk : IntKind.i64.wrap ((L.length : Int) - 1) = ((L.length - 1 : Nat) : Int) := by rw [w64 (by omega) (by omega)]; omega
  have bk : inB (k : Nat) 0 ((L.length - 1 : Nat) : Int) = true := by simp [inB]; omega
  have bi : inB (i : Nat) 0 (s.size : Nat) = true := by simp [inB]; omega
  refine CC.ofN Try.func45 Try.ntmps45 Try.results45 rfl (by decide) (by kernel_rfl) ?_
  simp (maxSteps := 1000000) -implicitDefEqProofs only [push_cast, seval, u]
  generalize (h.alloc (.cells [.slice A L.length c] .solo h.n)) = h1 at *
  have l1 : h.n < h1.n := by omega
  simp (maxSteps := 1000000) -implicitDefEqProofs only [push_cast, seval, e0, rd_of e0, rd1_of e0, l1, u]
  with_reducible refine CD.to (PatternOk_c _ L h1 (w.pre p0) ok (by omega) h2) ?_
  simp (maxSteps := 1000000) -implicitDefEqProofs only [push_cast, seval, e0, rd_of e0, rd1_of e0, l1, u]
  with_reducible refine CD.to (within_c _ _ _ _) ?_
  simp (maxSteps := 1000000) -implicitDefEqProofs only [push_cast, seval, e0, rd_of e0, rd1_of e0, l1, u, wk, bk]
  with_reducible refine CD.to (within_c _ _ _ _) ?_
  simp (maxSteps := 1000000) -implicitDefEqProofs only [push_cast, seval, e0, rd_of e0, rd1_of e0, l1, u, y, bi]
  have pM : Pre h1 ((h1.alloc (.map [])).alloc (.cells [.slice A L.length c, .string s, .map (some h1.n)] .solo (h1.n + 1))) := ((Pre.refl h1).alloc _).alloc _
  have mM : Mm ((h1.alloc (.map [])).alloc (.cells [.slice A L.length c, .string s, .map (some h1.n)] .solo (h1.n + 1))) (h1.n + 1) h1.n (.slice A L.length c) L s [] :=
    ⟨alloc_same (h := h1.alloc _) _, Nat.lt_succ_self _, Nat.lt_succ_of_lt (Nat.lt_succ_self _), (alloc_lt (h := h1.alloc (.map [])) _ (Nat.lt_succ_self _)).trans (alloc_same _), fun e he => (by cases he), (w.pre p0).pre pM⟩
  generalize ((h1.alloc (.map [])).alloc (.cells [.slice A L.length c, .string s, .map (some h1.n)] .solo (h1.n + 1))) = H at *
  have hE := ends_ok (h1.n + 1) h1.n (.slice A L.length c) L s ok (by omega) hs k hk
  unfold EndsOk at hE
  simp (maxSteps := 1000000) -implicitDefEqProofs only [push_cast, seval]
  with_reducible refine CC.mono (hE H [] i mM hi) (fun v h3 hv => ?_)
  with_reducible refine Exists.elim hv (fun es3 hv => ?_)
  have mo3 := hv.2.1
  have r3 := hv.2.2.1
  clear hv
  have hml := places_len s.size (Mt (L.map Prod.fst) s k i)
  change (ml (L.map Prod.fst) s k i).length ≤ _ at hml
  simp (maxSteps := 1000000) -implicitDefEqProofs only [push_cast, seval]
  with_reducible refine CC.mono (copyIntsG_c v _ h3 r3 (by omega)) (fun v4 h4 hv => ?_)
  have g4 := hv.1
  have p4 := hv.2
  clear hv
  simp (maxSteps := 1000000) -implicitDefEqProofs only [push_cast, seval]
  have n3 := mo3.n
  have nM := pM.n
  exact ⟨g4.gr.rdv (by decide) (fun _ => rfl), ⟨by have := p4.n; omega, fun j hj => (p4.ob j (by omega)).trans ((mo3.ob j (by omega) (by omega)).trans ((pM.ob j (by omega)).trans (p0.ob j hj)))⟩⟩
theorem in_c (v : Value) (l : List Nat) (x : Nat) (h : AH) (r : RdV h v 1 encNa l) (hl : l.length ≤ 1000000) : CD Try.prog 16 [v, .int .i64 (x : Nat)] h (.bool (decide (x ∈ l))) h := by
  refine CD.quiet ?_ (low_bool _ _)
  obtain ⟨A, c, rfl, hR⟩ := r.rde (fun _ => rfl)
  refine CC.ofN Try.func16 Try.ntmps16 Try.results16 rfl (by decide) (by kernel_rfl) ?_
  simp (maxSteps := 1000000) -implicitDefEqProofs only [push_cast, seval]
  refine WC.loopA (by kernel_rfl) [5] [4, 6, 7, 8, 9, 10, 11, 12, 13, 14, 15, 16, 17] (fun i : Nat => [.int .i64 (i : Nat)]) (fun i h' => (i ≤ l.length ∧ ∀ j (hj : j < l.length), j < i → l[j] ≠ x) ∧ Pre h h') (fun i => l.length - i) 0 (by kernel_rfl) ⟨⟨Nat.zero_le _, fun j hj h0 => absurd h0 (Nat.not_lt_zero j)⟩, Pre.refl _⟩ ?_
  intro i g h1 hJ
  have hi := hJ.1.1
  have hj := hJ.1.2
  have p1 := hJ.2
  clear hJ
  simp (maxSteps := 1000000) -implicitDefEqProofs only [push_cast, seval]
  with_reducible refine bcase_d (fun hb => ?_) (fun hb => ?_)
  rotate_left
  · have ei : i = l.length := by omega
    have : decide (x ∈ l) = false := decide_eq_false (fun hx => by
      obtain ⟨j, hj1, e⟩ := List.getElem_of_mem hx
      exact hj j hj1 (by omega) e)
    simp (maxSteps := 1000000) -implicitDefEqProofs only [push_cast, seval]
    rw [this]
    exact ⟨rfl, p1.keep⟩
  have hi' : i < l.length := by omega
  have rk := rdN (r.pre p1) hi' rfl
  have hno : l[i] ≠ x → ∀ j (hj : j < l.length), j < i + 1 → l[j] ≠ x := fun e j hj1 hj2 => by
    by_cases e2 : j = i
    · subst e2; exact e
    · exact hj j hj1 (by omega)
  have hyes : l[i] = x → decide (x ∈ l) = true := fun e => decide_eq_true (by rw [← e]; exact List.getElem_mem hi')
  generalize l[i] = T at *
  with_reducible refine Exists.elim rk (fun id hv => ?_)
  with_reducible refine Exists.elim hv (fun off hv => ?_)
  have ev := hv.1
  have vlt := hv.2.1
  have vrd := hv.2.2
  clear hv rk
  subst ev
  simp (maxSteps := 1000000) -implicitDefEqProofs only [push_cast, seval, vrd, vlt]
  repeat (with_reducible refine And.intro ?_ ?_; · (first | omega | decide))
  with_reducible refine bcase_d (fun hT => ?_) (fun hT => ?_)
  · simp (maxSteps := 1000000) -implicitDefEqProofs only [push_cast, seval]
    rw [hyes (by omega)]
    exact ⟨rfl, p1.keep⟩
  · simp (maxSteps := 1000000) -implicitDefEqProofs only [push_cast, seval]
    rw [wrapSucc (by omega)]
    exact ⟨i + 1, by kernel_rfl, ⟨⟨by omega, hno (by omega)⟩, p1⟩, by omega⟩
/-- The places at which a text's whole pattern may end. -/
theorem ends_c (t s : ByteArray) (o : List Pc) (e : readP t = some o) (i : Nat) (h : AH) (hi : i ≤ s.size) (hs : s.size ≤ 100000) (ht : t.size ≤ maxLen) :
    CC Try.prog 14 [.string t, .string s, .int .i64 (i : Nat)] h (fun v h' => RdV h' v 1 encNa (ml o s (o.length - 1) i) ∧ Pre h h') := by
  obtain ⟨ok, h1, h2⟩ := readP_ok e
  refine CC.ofN Try.func14 Try.ntmps14 Try.results14 rfl (by decide) (by kernel_rfl) ?_
  simp (maxSteps := 1000000) -implicitDefEqProofs only [push_cast, seval]
  with_reducible refine CC.mono (ReadPattern_s t h ht) (fun v h3 hv => ?_)
  have p3 := hv.1
  have hv2 := hv.2
  clear hv
  unfold PatV at hv2
  with_reducible refine Or.elim hv2 (fun hn => ?_) (fun hy => ?_)
  · exfalso
    rw [hn.1] at e; cases e
  with_reducible refine Exists.elim hy (fun rv hy => ?_)
  with_reducible refine Exists.elim hy (fun L hy => ?_)
  have eL := hy.1
  have ev := hy.2.1
  have w := hy.2.2
  clear hy hv2
  subst ev
  rw [e] at eL
  obtain rfl := Option.some.inj eL
  rw [List.length_map] at *
  have u := w.r.one
  have y := w.r.cell1
  have kf := w.r.rde (fun _ => rfl)
  with_reducible refine Exists.elim kf (fun A kf => ?_)
  with_reducible refine Exists.elim kf (fun cA kf => ?_)
  have eA := kf.1
  clear kf
  subst eA
  have wk : IntKind.i64.wrap ((L.length : Int) - 1) = ((L.length - 1 : Nat) : Int) := by rw [w64 (by omega) (by omega)]; omega
  simp (maxSteps := 1000000) -implicitDefEqProofs only [push_cast, seval, u, y]
  have p4 : Pre h3 ((h3.alloc (.cells [.slice none 0 0] .solo h3.n)).set h3.n (.cells [.slice A L.length cA] .solo h3.n)) := ((Pre.refl h3).alloc _).set (Nat.le_refl _) _
  have e4 : ((h3.alloc (.cells [.slice none 0 0] .solo h3.n)).set h3.n (.cells [.slice A L.length cA] .solo h3.n)).ob h3.n = AOb.cells [.slice A L.length cA] .solo h3.n := set_same _ _
  have n4 : ((h3.alloc (.cells [.slice none 0 0] .solo h3.n)).set h3.n (.cells [.slice A L.length cA] .solo h3.n)).n = h3.n + 1 := rfl
  generalize ((h3.alloc (.cells [.slice none 0 0] .solo h3.n)).set h3.n (.cells [.slice A L.length cA] .solo h3.n)) = h4 at *
  have l4 : h3.n < h4.n := by omega
  simp (maxSteps := 1000000) -implicitDefEqProofs only [push_cast, seval, e4, rd_of e4, rd1_of e4, l4, u, y, wk]
  with_reducible refine CC.mono (EndsAt_c _ L s (L.length - 1) i h4 (w.pre p4) ok h1 h2 (by omega) hi hs) (fun v5 h5 hv => ?_)
  simp (maxSteps := 1000000) -implicitDefEqProofs only [push_cast, seval]
  exact ⟨hv.1, (p3.trans p4).trans hv.2⟩
end Go.Proofs.Ytciajhpeikemoaa
namespace Go.Proofs.Ytciajhpeikemoaa
open Go Go.Sim Go.Proofs
set_option linter.unusedSimpArgs false
set_option linter.unusedVariables false
set_option maxRecDepth 100000
set_option maxHeartbeats 1000000
theorem l04Text_c (p : Nat) (S : Value) (l : List Nat) (h : AH) (d : Dw p S l h) :
    CC Try.prog 43 [.pointer (some ⟨p, 0, none⟩)] h (fun v h' => (∃ y : ByteArray, v = .string y ∧ y ∈ txs) ∧ Dn p S l h h') := by
  refine CC.ofN Try.func43 Try.ntmps43 Try.results43 rfl (by decide) (by kernel_rfl) ?_
  simp (maxSteps := 1000000) -implicitDefEqProofs only [push_cast, seval]
  refine CC.txt (l01Pick_c p S l h.n 21 (fun y => y ∈ txs) _ _ (d.pre ((Pre.refl h).alloc _)) (alloc_same _) (by simp [strs, txs]) rfl (by omega) (lt_alloc _)) (fun y h1 q d1 => ?_)
  simp (maxSteps := 1000000) -implicitDefEqProofs only [push_cast, seval]
  exact ⟨⟨y, rfl, q⟩, (d.toDn ((Pre.refl h).alloc _)).trans d1⟩
/-- A drawn word of n pieces: short, and no star in it. -/
def Wrd (n : Nat) (s : ByteArray) : Prop := s.size ≤ 2 * n ∧ ∀ x ∈ s.data.toList, x ≠ 42
theorem Wrd.app {n : Nat} {s t : ByteArray} (a : Wrd n s) (b : Wrd 1 t) : Wrd (n + 1) (s ++ t) := by
  have := a.1
  have := b.1
  refine ⟨by rw [ByteArray.size_append]; omega, fun x hx => ?_⟩
  rw [ByteArray.data_append, Array.toList_append, List.mem_append] at hx
  rcases hx with hx | hx
  · exact a.2 x hx
  · exact b.2 x hx
theorem l04Word_c (p : Nat) (S : Value) (l : List Nat) (h : AH) (d : Dw p S l h) :
    CC Try.prog 44 [.pointer (some ⟨p, 0, none⟩)] h (fun v h' => (∃ y : ByteArray, v = .string y ∧ Wrd 8 y) ∧ Dn p S l h h') := by
  refine CC.ofN Try.func44 Try.ntmps44 Try.results44 rfl (by decide) (by kernel_rfl) ?_
  simp (maxSteps := 1000000) -implicitDefEqProofs only [push_cast, seval]
  refine WC.loopA (by kernel_rfl) [3, 4] [5, 6, 7, 8, 9, 10, 11, 12, 13, 14, 15] (fun a : Nat × ByteArray => [.string a.2, .int .i64 (a.1 : Nat)]) (fun a h' => a.1 ≤ 8 ∧ Wrd a.1 a.2 ∧ Dn p S l h h') (fun a => 8 - a.1) (0, ⟨#[]⟩) (by kernel_rfl) ⟨by omega, ⟨Nat.le_refl _, fun x hx => by cases hx⟩, d.refl⟩ ?_
  intro a g h1 hJ
  have hi := hJ.1
  have hw := hJ.2.1
  have d1 := hJ.2.2
  clear hJ
  simp (maxSteps := 1000000) -implicitDefEqProofs only [push_cast, seval]
  with_reducible refine CC.num (l01Below_c p S l _ _ (d.dn d1)) (fun y h2 q2 d2 => ?_)
  have hy := q2.1 (by omega)
  simp (maxSteps := 1000000) -implicitDefEqProofs only [push_cast, seval]
  with_reducible refine bcase_d (fun hb => ?_) (fun hb => ?_)
  · simp (maxSteps := 1000000) -implicitDefEqProofs only [push_cast, seval]
    with_reducible refine CC.txt (l01Pick_c p S l h2.n 6 (fun y => Wrd 1 y) _ _ ((d.dn (d1.trans d2)).pre ((Pre.refl h2).alloc _)) (alloc_same _) (by simp only [strs, Wrd]; decide) rfl (by omega) (lt_alloc _)) (fun z h3 q3 d3 => ?_)
    have dz := ((d.dn (d1.trans d2)).toDn ((Pre.refl h2).alloc _)).trans d3
    have s1 := hw.1
    have s2 := q3.1
    simp (maxSteps := 1000000) -implicitDefEqProofs only [push_cast, seval]
    refine And.intro (by omega) ?_
    rw [wrapSucc (by omega)]
    exact ⟨(a.1 + 1, a.2 ++ z), by kernel_rfl, ⟨by show a.1 + 1 ≤ 8; omega, hw.app q3, (d1.trans d2).trans dz⟩, by show 8 - (a.1 + 1) < 8 - a.1; omega⟩
  · simp (maxSteps := 1000000) -implicitDefEqProofs only [push_cast, seval]
    exact ⟨⟨_, rfl, by have := hw.1; omega, hw.2⟩, d1.trans d2⟩
/-- What a draw of patterns tells. -/
theorem DrawPatterns_c (A : Option Addr) (c : Nat) (l : List Nat) (h : AH) (hR : RdE h A 1 byV l) (hl : ∀ n ∈ l, n < 256) (hn : l.length ≤ 1048576) :
    CC Try.prog 13 [.slice A l.length c] h (fun v h' => (∃ a b s, v = .tuple #[.string a, .string b, .string s] ∧ a ∈ txs ∧ b ∈ txs ∧ Wrd 8 s) ∧ Pre h h') := by
  refine CC.withBig (fun big => ?_)
  refine CC.ofN Try.func13 Try.ntmps13 Try.results13 rfl (by decide) (by kernel_rfl) ?_
  simp (maxSteps := 1000000) -implicitDefEqProofs only [push_cast, seval]
  with_reducible refine CC.mono (l01New_c A c l _ hR big hl hn) (fun v h1 hv => ?_)
  have e1 := hv.1
  have d1 := hv.2.1
  have p1 := hv.2.2
  clear hv
  subst e1
  simp (maxSteps := 1000000) -implicitDefEqProofs only [push_cast, seval]
  with_reducible refine CC.txt (l04Text_c _ _ _ _ d1) (fun a h2 qa d2 => ?_)
  simp (maxSteps := 1000000) -implicitDefEqProofs only [push_cast, seval]
  with_reducible refine CC.txt (l04Text_c _ _ _ _ (d1.dn d2)) (fun b h3 qb d3 => ?_)
  simp (maxSteps := 1000000) -implicitDefEqProofs only [push_cast, seval]
  with_reducible refine CC.txt (l04Word_c _ _ _ _ ((d1.dn d2).dn d3)) (fun s h4 qs d4 => ?_)
  simp (maxSteps := 1000000) -implicitDefEqProofs only [push_cast, seval]
  have dd := (d2.trans d3).trans d4
  exact ⟨⟨a, b, s, rfl, qa, qb, qs⟩, ⟨Nat.le_trans p1.n dd.n, fun j hj => (dd.ob j (Nat.lt_of_lt_of_le hj p1.n) (by omega)).trans (p1.ob j hj)⟩⟩
theorem DrawPlaces_c (A : Option Addr) (c : Nat) (l : List Nat) (h : AH) (hR : RdE h A 1 byV l) (hl : ∀ n ∈ l, n < 256) (hn : l.length ≤ 1048576) :
    CC Try.prog 29 [.slice A l.length c] h (fun v h' => (∃ ps : List Nat, ps.length = 12 ∧ (∀ n ∈ ps, n < 10000) ∧ RdV h' v 1 encNa ps) ∧ Pre h h') := by
  refine CC.withBig (fun big => ?_)
  refine CC.ofN Try.func29 Try.ntmps29 Try.results29 rfl (by decide) (by kernel_rfl) ?_
  simp (maxSteps := 1000000) -implicitDefEqProofs only [push_cast, seval]
  with_reducible refine CC.mono (l01New_c A c l _ hR big hl hn) (fun v h1 hv => ?_)
  have e1 := hv.1
  have d1 := hv.2.1
  have p1 := hv.2.2
  clear hv
  subst e1
  have m1 := p1.n
  have dl := d1.lt
  simp (maxSteps := 1000000) -implicitDefEqProofs only [push_cast, seval]
  with_reducible refine CC.num (l01Byte_c _ _ _ _ d1) (fun y h2 q2 d2 => ?_)
  have m2 := d2.n
  simp (maxSteps := 1000000) -implicitDefEqProofs only [push_cast, seval]
  refine WC.loopA (by kernel_rfl) [4, 5] [11, 12, 13, 14, 15, 16, 17, 18, 19] (fun a : Nat × List Nat × Value => [a.2.2, .int .i64 (a.1 : Nat)]) (fun a h' => a.1 ≤ 12 ∧ a.2.1.length = a.1 ∧ (∀ n ∈ a.2.1, n < 10000) ∧ Gr h1.n h' a.2.2 1 (a.2.1.map encNa).flatten ∧ Dn h.n (.slice A l.length c) l h1 h') (fun a => 12 - a.1) (0, [], .slice (some ⟨h2.n, 0, none⟩) 0 1) (by kernel_rfl) ⟨by omega, rfl, (fun n hn => by cases hn), .inr ⟨h2.n, 0, 0, rfl, by omega, Own.zero rfl 1⟩, d2.alloc dl _⟩ ?_
  intro a g h3 hJ
  have hi := hJ.1
  have hln := hJ.2.1
  have hsm := hJ.2.2.1
  have hg := hJ.2.2.2.1
  have d3 := hJ.2.2.2.2
  clear hJ
  have n3 := d3.n
  simp (maxSteps := 1000000) -implicitDefEqProofs only [push_cast, seval]
  with_reducible refine bcase_d (fun hb => ?_) (fun hb => ?_)
  · simp (maxSteps := 1000000) -implicitDefEqProofs only [push_cast, seval]
    with_reducible refine CC.num (l01Below_c _ _ _ _ _ (d1.dn d3)) (fun z h4 q4 d4 => ?_)
    have hz := q4.1 (by omega)
    have n4 := d4.n
    have hg4 : Gr h1.n h4 a.2.2 1 (a.2.1.map encNa).flatten := hg.keep n4 (fun i e => by have := hg.range e; exact d4.ob i this.2 (by omega))
    have fl : ((a.2.1.map encNa).flatten).length = a.2.1.length * 1 := flat_len (k := 1) _ (fun _ => rfl)
    simp (maxSteps := 1000000) -implicitDefEqProofs only [push_cast, seval]
    refine Gr.app1 (h0 := ⟨h1.n, h4.ob⟩) si26 (by decide) (by decide) (notInt_sl und26) hg4 ⟨by show h1.n ≤ h4.n; omega, fun _ _ => rfl⟩ rfl (by rw [fl]; omega) (by decide) (fun h5 gr ow p' hn' he => ?_)
    simp (maxSteps := 1000000) -implicitDefEqProofs only [push_cast, seval]
    rw [wrapSucc (by omega)]
    refine ⟨(a.1 + 1, a.2.1 ++ [z], .slice (some ⟨h4.n + 1, 0, none⟩) (((a.2.1.map encNa).flatten).length / 1 + 1) 1), by kernel_rfl, ⟨by show a.1 + 1 ≤ 12; omega, by show (a.2.1 ++ [z]).length = a.1 + 1; simp [hln], fun n hn => ?_, by rw [flat_snoc]; exact gr, ?_⟩, by show 12 - (a.1 + 1) < 12 - a.1; omega⟩
    · have hn : n ∈ a.2.1 ++ [z] := hn
      rcases List.mem_append.1 hn with e | e
      · exact hsm n e
      · rw [List.mem_singleton] at e; omega
    · exact ⟨by omega, fun j h1 h2 => (he j (by omega) (fun e => by have := hg4.range e; omega)).trans ((d3.trans d4).ob j h1 h2), (d3.trans d4).cur.pre (he _ (by omega) (fun e => by have := hg4.range e; omega))⟩
  · simp (maxSteps := 1000000) -implicitDefEqProofs only [push_cast, seval]
    exact ⟨⟨a.2.1, by omega, hsm, hg.rdv (by decide) (fun _ => rfl)⟩, ⟨by omega, fun j hj => (d3.ob j (by omega) (by omega)).trans (p1.ob j hj)⟩⟩
end Go.Proofs.Ytciajhpeikemoaa
namespace Go.Proofs.Ytciajhpeikemoaa
open Go Go.Sim Go.Proofs
set_option linter.unusedSimpArgs false
set_option linter.unusedVariables false
set_option maxRecDepth 100000
set_option maxHeartbeats 1000000
/-- What is found. -/
def FindQ (o : List Pc) (s : ByteArray) (v : Value) : Prop :=
  (∃ i e : Nat, i ≤ s.size ∧ (∀ j, j < i → ml o s (o.length - 1) j = []) ∧ ml o s (o.length - 1) i ≠ [] ∧ (ml o s (o.length - 1) i).getLast? = some e ∧ v = .tuple #[.int .i64 (i : Nat), .int .i64 (e : Nat), .bool true])
  ∨ ((∀ j, j ≤ s.size → ml o s (o.length - 1) j = []) ∧ v = .tuple #[.int .i64 0, .int .i64 0, .bool false])
theorem FindIn_i (vP : Value) (L : List (Pc × Value)) (s : ByteArray) (h : AH) (w : RdPat h vP L) (ok : Okp (L.map Prod.fst)) (h1 : 1 ≤ L.length) (h2 : L.length ≤ 60) (hs : s.size ≤ 100000) :
    CC Try.prog 30 [.agg #[vP], .string s] h (fun v h' => FindQ (L.map Prod.fst) s v ∧ Pre h h') := by
  have u := w.r.one
  have y := w.r.cell1
  obtain ⟨A, c, rfl, hPR⟩ := w.r.rde (fun _ => rfl)
  have p0 : Pre h (h.alloc (.cells [.slice A L.length c] .solo h.n)) := (Pre.refl h).alloc _
  have e0 : (h.alloc (.cells [.slice A L.length c] .solo h.n)).ob h.n = _ := alloc_same _
  have n0 : (h.alloc (.cells [.slice A L.length c] .solo h.n)).n = h.n + 1 := rfl
  have wk : IntKind.i64.wrap ((L.length : Int) - 1) = ((L.length - 1 : Nat) : Int) := by rw [w64 (by omega) (by omega)]; omega
  refine CC.ofN Try.func30 Try.ntmps30 Try.results30 rfl (by decide) (by kernel_rfl) ?_
  simp (maxSteps := 1000000) -implicitDefEqProofs only [push_cast, seval, u]
  generalize (h.alloc (.cells [.slice A L.length c] .solo h.n)) = h1 at *
  have l1 : h.n < h1.n := by omega
  simp (maxSteps := 1000000) -implicitDefEqProofs only [push_cast, seval, e0, rd_of e0, rd1_of e0, l1, u]
  with_reducible refine CD.to (PatternOk_c _ L h1 (w.pre p0) ok (by omega) h2) ?_
  simp (maxSteps := 1000000) -implicitDefEqProofs only [push_cast, seval, e0, rd_of e0, rd1_of e0, l1, u, y]
  have pM : Pre h1 ((h1.alloc (.map [])).alloc (.cells [.slice A L.length c, .string s, .map (some h1.n)] .solo (h1.n + 1))) := ((Pre.refl h1).alloc _).alloc _
  have mM : Mm ((h1.alloc (.map [])).alloc (.cells [.slice A L.length c, .string s, .map (some h1.n)] .solo (h1.n + 1))) (h1.n + 1) h1.n (.slice A L.length c) L s [] :=
    ⟨alloc_same (h := h1.alloc _) _, Nat.lt_succ_self _, Nat.lt_succ_of_lt (Nat.lt_succ_self _), (alloc_lt (h := h1.alloc (.map [])) _ (Nat.lt_succ_self _)).trans (alloc_same _), fun e he => (by cases he), (w.pre p0).pre pM⟩
  have nM : ((h1.alloc (.map [])).alloc (.cells [.slice A L.length c, .string s, .map (some h1.n)] .solo (h1.n + 1))).n = h1.n + 2 := rfl
  generalize ((h1.alloc (.map [])).alloc (.cells [.slice A L.length c, .string s, .map (some h1.n)] .solo (h1.n + 1))) = H at *
  have hE := ends_ok (h1.n + 1) h1.n (.slice A L.length c) L s ok (by omega) hs (L.length - 1) (by omega)
  unfold EndsOk at hE
  have hlen : (L.map Prod.fst).length = L.length := List.length_map _
  have fin : ∀ h', h1.n ≤ h'.n → (∀ j, j < h1.n → h'.ob j = H.ob j) → Pre h h' := fun h' a b => ⟨by omega, fun j hj => (b j (by omega)).trans ((pM.ob j (by omega)).trans (p0.ob j hj))⟩
  refine WC.loopA (by kernel_rfl) [8] [4, 5, 6, 9, 18, 19, 20, 21, 22, 23, 24, 25, 26, 27, 28, 29, 30, 31, 32, 33, 34, 35, 36, 37, 38, 39, 40] (fun i : Nat => [.int .i64 (i : Nat)]) (fun i h' => i ≤ s.size + 1 ∧ (∀ j, j < i → ml (L.map Prod.fst) s (L.length - 1) j = []) ∧ (∃ es, Mm h' (h1.n + 1) h1.n (.slice A L.length c) L s es) ∧ H.n ≤ h'.n ∧ ∀ j, j < H.n → j ≠ h1.n → h'.ob j = H.ob j) (fun i => s.size + 1 - i) 0 (by kernel_rfl) ⟨by omega, fun j hj => absurd hj (Nat.not_lt_zero j), ⟨[], mM⟩, Nat.le_refl _, fun _ _ _ => rfl⟩ ?_
  intro i g h3 hJ
  have hi := hJ.1
  have hno := hJ.2.1
  have hes := hJ.2.2.1
  have hn3 := hJ.2.2.2.1
  have hob3 := hJ.2.2.2.2
  clear hJ
  simp (maxSteps := 1000000) -implicitDefEqProofs only [push_cast, seval]
  with_reducible refine bcase_d (fun hb => ?_) (fun hb => ?_)
  rotate_left
  · simp (maxSteps := 1000000) -implicitDefEqProofs only [push_cast, seval]
    refine ⟨.inr ⟨fun j hj => ?_, rfl⟩, fin h3 (by omega) (fun j hj => hob3 j (by omega) (by omega))⟩
    rw [hlen]; exact hno j (by omega)
  have e0' : h3.ob h.n = _ := (hob3 h.n (by omega) (by omega)).trans ((pM.ob h.n (by omega)).trans e0)
  have l0' : h.n < h3.n := by omega
  simp (maxSteps := 1000000) -implicitDefEqProofs only [push_cast, seval, e0', rd_of e0', rd1_of e0', l0', u, y, wk]
  with_reducible refine Exists.elim hes (fun es m3 => ?_)
  with_reducible refine CC.mono (hE h3 es i m3 (by omega)) (fun v h4 hv => ?_)
  with_reducible refine Exists.elim hv (fun es4 hv => ?_)
  have m4 := hv.1
  have mo4 := hv.2.1
  have r4 := hv.2.2.1
  clear hv
  have n4 := mo4.n
  have hml := places_len s.size (Mt (L.map Prod.fst) s (L.length - 1) i)
  change (ml (L.map Prod.fst) s (L.length - 1) i).length ≤ _ at hml
  have fin4 : Pre h h4 := fin h4 (by omega) (fun j hj => (mo4.ob j (by omega) (by omega)).trans (hob3 j (by omega) (by omega)))
  have hno' : ∀ j, j < i → ml (L.map Prod.fst) s ((L.map Prod.fst).length - 1) j = [] := by rw [hlen]; exact hno
  have fnd : ∀ e, (ml (L.map Prod.fst) s (L.length - 1) i).getLast? = some e → FindQ (L.map Prod.fst) s (.tuple #[.int .i64 (i : Nat), .int .i64 (e : Nat), .bool true]) := fun e he => by
    refine .inl ⟨i, e, by omega, hno', ?_, ?_, rfl⟩
    · rw [hlen]; intro e2; rw [e2] at he; cases he
    · rw [hlen]; exact he
  have hno5 : ml (L.map Prod.fst) s (L.length - 1) i = [] → ∀ j, j < i + 1 → ml (L.map Prod.fst) s (L.length - 1) j = [] := fun e j hj => by
    by_cases e2 : j = i
    · subst e2; exact e
    · exact hno j (by omega)
  generalize ml (L.map Prod.fst) s (L.length - 1) i = T at *
  have yv := r4.one
  have kf := r4.rde (fun _ => rfl)
  with_reducible refine Exists.elim kf (fun B kf => ?_)
  with_reducible refine Exists.elim kf (fun cB kf => ?_)
  have eB := kf.1
  clear kf
  subst eB
  simp (maxSteps := 1000000) -implicitDefEqProofs only [push_cast, seval]
  with_reducible refine bcase_d (fun hb2 => ?_) (fun hb2 => ?_)
  · have h0 : 0 < T.length := by omega
    have rk := rdN r4 (show T.length - 1 < T.length by omega) rfl
    with_reducible refine Exists.elim rk (fun id hv => ?_)
    with_reducible refine Exists.elim hv (fun off hv => ?_)
    have ev := hv.1
    have vlt := hv.2.1
    have vrd := hv.2.2
    clear hv rk
    subst ev
    have wT : IntKind.i64.wrap ((T.length : Int) - 1) = ((T.length - 1 : Nat) : Int) := by rw [w64 (by omega) (by omega)]; omega
    refine WC.draw' (by kernel_rfl) (by kernel_rfl) (.q 0 (.q 1 (.q 2 (.q 3 (.q 4 (.q 5 (.q 6 (.q 7 (.q 8 (.q 9 (.done))))))))))) (by kernel_rfl) ?_
    simp (maxSteps := 1000000) -implicitDefEqProofs only [push_cast, seval, wT, vrd, vlt]
    refine And.intro (by omega) (And.intro (by omega) ?_)
    exact ⟨fnd _ (by rw [List.getLast?_eq_getElem?, List.getElem?_eq_getElem]), fin4⟩
  · have eT : T = [] := List.eq_nil_of_length_eq_zero (by omega)
    simp (maxSteps := 1000000) -implicitDefEqProofs only [push_cast, seval]
    rw [wrapSucc (by omega)]
    exact ⟨i + 1, by kernel_rfl, ⟨by omega, hno5 eT, ⟨es4, m4⟩, by omega, fun j hj hm => (mo4.ob j (by omega) hm).trans (hob3 j hj hm)⟩, by omega⟩
end Go.Proofs.Ytciajhpeikemoaa
namespace Go.Proofs.Ytciajhpeikemoaa
open Go Go.Sim Go.Proofs
set_option linter.unusedSimpArgs false
set_option linter.unusedVariables false
set_option maxRecDepth 100000
set_option maxHeartbeats 1000000
theorem ends_to {t s : ByteArray} {o : List Pc} (e : readP t = some o) {i : Nat} {h : AH} (hi : i ≤ s.size) (hs : s.size ≤ 100000) (ht : t.size ≤ maxLen) {K : Value → AH → Prop}
    (hk : ∀ v h', RdV h' v 1 encNa (ml o s (o.length - 1) i) → Pre h h' → K v h') : CC Try.prog 14 [.string t, .string s, .int .i64 (i : Nat)] h K :=
  CC.mono (ends_c t s o e i h hi hs ht) (fun v h' hv => hk v h' hv.1 hv.2)
theorem in_to {v : Value} {o : List Pc} (ok : Okp o) {s : ByteArray} {k i x : Nat} {h : AH} (hk : k < o.length) (hi : i ≤ s.size) (hs : s.size ≤ 100000) (r : RdV h v 1 encNa (ml o s k i)) {K : Value → AH → Prop}
    (h1 : ∀ b : Bool, (b = true ↔ Mt o s k i x) → K (.bool b) h) : CC Try.prog 16 [v, .int .i64 (x : Nat)] h K := by
  have hl := places_len s.size (Mt o s k i)
  exact CD.to (in_c v _ x h r (by unfold ml; omega)) (h1 _ (by rw [decide_eq_true_eq]; exact ml_mem ok hk hi))
theorem DrawPatterns_to {A : Option Addr} {c : Nat} {l : List Nat} {h : AH} (hR : RdE h A 1 byV l) (hl : ∀ n ∈ l, n < 256) (hn : l.length ≤ 1048576) {K : Value → AH → Prop}
    (hk : ∀ a b s h', a ∈ txs → b ∈ txs → Wrd 8 s → Pre h h' → K (.tuple #[.string a, .string b, .string s]) h') : CC Try.prog 13 [.slice A l.length c] h K :=
  CC.mono (DrawPatterns_c A c l h hR hl hn) (fun v h' hv => by
    obtain ⟨⟨a, b, s, rfl, ha, hb, hs⟩, p⟩ := hv
    exact hk a b s h' ha hb hs p)
theorem tx_one {a : ByteArray} (ha : a ∈ txs) : ∃ A, readP a = some A ∧ readP (oneT a 42) = some (oneL 7 A) ∧ readP (oneT a 43) = some (oneL 8 A) ∧ readP (oneT a 63) = some (oneL 9 A) ∧ readP (moreT a) = some (twoL 5 A (oneL 7 A)) := by
  have := List.all_eq_true.1 one_all a ha
  unfold oneB at this
  split at this
  · rename_i A e
    simp only [Bool.and_eq_true] at this
    exact ⟨A, e, rdE'_eq this.1.1.1, rdE'_eq this.1.1.2, rdE'_eq this.1.2, rdE'_eq this.2⟩
  · cases this
theorem tx_two {a b : ByteArray} (ha : a ∈ txs) (hb : b ∈ txs) : ∃ A B, readP a = some A ∧ readP b = some B ∧ readP (altT a b) = some (twoL 6 A B) ∧ readP (rowT a b) = some (twoL 5 A B) := by
  have := List.all_eq_true.1 (List.all_eq_true.1 two_all a ha) b hb
  unfold twoB at this
  split at this
  · rename_i A B e1 e2
    simp only [Bool.and_eq_true] at this
    exact ⟨A, B, e1, e2, rdE'_eq this.1, rdE'_eq this.2⟩
  · cases this
theorem tx_size {a : ByteArray} (ha : a ∈ txs) : a.size ≤ 7 := by
  have := List.all_eq_true.1 txs_small a ha
  simpa using this
theorem ReadPattern_to {t : ByteArray} {o : List Pc} (e : readP t = some o) {h : AH} (ht : t.size ≤ maxLen) {K : Value → AH → Prop}
    (hk : ∀ rv L h', o = L.map Prod.fst → RdPat h' rv L → Pre h h' → K (.tuple #[.agg #[rv], .bool true]) h') : CC Try.prog 17 [.string t] h K :=
  CC.mono (ReadPattern_i t h ht) (fun v h' hv => by
    obtain ⟨p, q⟩ := hv
    rcases q with ⟨e2, _⟩ | ⟨rv, L, e2, rfl, w⟩
    · rw [e] at e2; cases e2
    · rw [e] at e2; exact hk rv L h' (Option.some.inj e2) w p)
theorem law_Alternatives (A : Option Addr) (c : Nat) (l : List Nat) (h : AH) (hR : RdE h A 1 byV l) (hl : ∀ n ∈ l, n < 256) (hn : l.length ≤ 1048576) : CE Try.prog 6 [.slice A l.length c] h fun v _ => v = .bool true := by
  have hml := maxLen_eq
  refine CE.withBig (fun big => ?_)
  refine CE.ofN Try.func6 Try.ntmps6 Try.results6 rfl (by kernel_rfl) ?_
  simp (maxSteps := 1000000) -implicitDefEqProofs only [push_cast, seval]
  with_reducible refine CD.to (big_c A l.length c h) ?_
  simp (maxSteps := 1000000) -implicitDefEqProofs only [push_cast, seval]
  have nb : decide ((1048576 : Int) < l.length) = false := decide_eq_false (by omega)
  simp (maxSteps := 1000000) -implicitDefEqProofs only [push_cast, seval, nb]
  with_reducible refine DrawPatterns_to hR hl hn (fun a b s h1 ha hb hs p1 => ?_)
  simp (maxSteps := 1000000) -implicitDefEqProofs only [push_cast, seval]
  have tw := tx_two ha hb
  with_reducible refine Exists.elim tw (fun LA tw => ?_)
  with_reducible refine Exists.elim tw (fun LB tw => ?_)
  have eA := tw.1
  have eB := tw.2.1
  have eZ := tw.2.2.1
  clear tw
  have kA := readP_ok eA
  have kB := readP_ok eB
  have kZ := readP_ok eZ
  have za := tx_size ha
  have zb := tx_size hb
  have zs := hs.1
  have zZ : (altT a b).size = a.size + b.size + 5 := by
    unfold altT
    simp only [ByteArray.size_append]
    rw [show (⟨#[40]⟩ : ByteArray).size = 1 from rfl, show (⟨#[41, 124, 40]⟩ : ByteArray).size = 3 from rfl, show (⟨#[41]⟩ : ByteArray).size = 1 from rfl]; omega
  have eZ' := eZ
  have z1 : (⟨#[40]⟩ : ByteArray).size = 1 := rfl
  have z2 : (⟨#[41, 124, 40]⟩ : ByteArray).size = 3 := rfl
  have z3 : (⟨#[41]⟩ : ByteArray).size = 1 := rfl
  unfold altT at eZ'
  have law := fun i j => alt_law (s := s) (i := i) (j := j) kZ.1 kA.1 kB.1 kA.2.1 kB.2.1
  refine WC.loopA (by kernel_rfl) [6] [2, 7, 8, 9, 10, 21, 22, 23, 24, 25, 26, 27, 28, 29, 30, 31, 32, 33, 34, 35, 36, 37, 38, 39, 40, 41, 42, 43, 44, 45, 46, 47, 48, 49, 50, 51, 52, 53, 54, 55, 56, 57, 58, 59, 60, 61] (fun i : Nat => [.int .i64 (i : Nat)]) (fun i h' => i ≤ s.size + 1 ∧ Pre h1 h') (fun i => s.size + 1 - i) 0 (by kernel_rfl) ⟨by omega, Pre.refl _⟩ ?_
  intro i g h2 hJ
  have hi := hJ.1
  have p2 := hJ.2
  clear hJ
  simp (maxSteps := 1000000) -implicitDefEqProofs only [push_cast, seval]
  with_reducible refine bcase_d (fun hb1 => ?_) (fun hb1 => ?_)
  · simp (maxSteps := 1000000) -implicitDefEqProofs only [push_cast, seval]
    with_reducible refine ends_to eA (by omega) (by omega) (by omega) (fun x h3 rx p3 => ?_)
    simp (maxSteps := 1000000) -implicitDefEqProofs only [push_cast, seval]
    with_reducible refine ends_to eB (by omega) (by omega) (by omega) (fun y h4 ry p4 => ?_)
    simp (maxSteps := 1000000) -implicitDefEqProofs only [push_cast, seval]
    repeat (with_reducible refine And.intro (by first | omega | (simp only [ByteArray.size_append]; omega)) ?_)
    with_reducible refine ends_to eZ' (by omega) (by omega) (by rw [← altT]; omega) (fun z h5 rz p5 => ?_)
    simp (maxSteps := 1000000) -implicitDefEqProofs only [push_cast, seval]
    refine WC.loopA (by kernel_rfl) [10] [2, 44, 45, 46, 47, 48, 49, 50, 51, 52, 53, 54, 55, 56, 57, 58, 59, 60, 61] (fun k : Nat => [.int .i64 (k : Nat)]) (fun k h' => k ≤ s.size + 1 ∧ Pre h5 h') (fun k => s.size + 1 - k) 0 (by kernel_rfl) ⟨by omega, Pre.refl _⟩ ?_
    intro k g2 h6 hJ
    have hk := hJ.1
    have p6 := hJ.2
    clear hJ
    simp (maxSteps := 1000000) -implicitDefEqProofs only [push_cast, seval]
    with_reducible refine bcase_d (fun hb2 => ?_) (fun hb2 => ?_)
    · simp (maxSteps := 1000000) -implicitDefEqProofs only [push_cast, seval]
      with_reducible refine in_to kZ.1 (by omega) (by omega) (by omega) (rz.pre p6) (fun bz hz => ?_)
      simp (maxSteps := 1000000) -implicitDefEqProofs only [push_cast, seval]
      with_reducible refine in_to kA.1 (by omega) (by omega) (by omega) (rx.pre ((p4.trans p5).trans p6)) (fun bx hx => ?_)
      simp (maxSteps := 1000000) -implicitDefEqProofs only [push_cast, seval]
      have lw := law i k
      with_reducible refine bcase_mk (fun hbx => ?_) (fun hbx => ?_)
      · have eb : bz = true := hz.2 (lw.2 (.inl (hx.1 hbx)))
        simp (maxSteps := 1000000) -implicitDefEqProofs only [push_cast, seval, eb, beq_self_eq_true]
        rw [wrapSucc (by omega)]
        exact ⟨k + 1, by kernel_rfl, ⟨by omega, p6⟩, by omega⟩
      simp (maxSteps := 1000000) -implicitDefEqProofs only [push_cast, seval]
      with_reducible refine in_to kB.1 (by omega) (by omega) (by omega) (ry.pre (p5.trans p6)) (fun bY hy => ?_)
      have eb : bz = bY := by
        rw [Bool.eq_iff_iff, hz, lw, hy, ← hx, hbx]; simp
      simp (maxSteps := 1000000) -implicitDefEqProofs only [push_cast, seval, eb, beq_self_eq_true]
      rw [wrapSucc (by omega)]
      exact ⟨k + 1, by kernel_rfl, ⟨by omega, p6⟩, by omega⟩
    · simp (maxSteps := 1000000) -implicitDefEqProofs only [push_cast, seval]
      rw [wrapSucc (by omega)]
      exact ⟨i + 1, by kernel_rfl, ⟨by omega, p2.trans (((p3.trans p4).trans p5).trans p6)⟩, by omega⟩
  · simp (maxSteps := 1000000) -implicitDefEqProofs only [push_cast, seval]
    repeat (with_reducible refine And.intro (by first | omega | (simp only [ByteArray.size_append]; omega)) ?_)
    with_reducible refine ReadPattern_to eZ' (by rw [← altT]; omega) (fun rv LZ h3 eL w p3 => ?_)
    have u := w.r.one
    have yy := w.r.cell1
    have wZ : decide (IntKind.i64.wrap (IntKind.i64.wrap ((a.size : Int) + b.size) + 5) ≤ 24) = true := by
      rw [w64 (n := (a.size : Int) + b.size) (by omega) (by omega), w64 (by omega) (by omega)]
      exact decide_eq_true (by omega)
    simp (maxSteps := 1000000) -implicitDefEqProofs only [push_cast, seval, u, all1, wZ, beq_self_eq_true]
    have kk := readP_ok eZ
    rw [eL] at kk
    rw [List.length_map] at kk
    with_reducible refine CD.to (PatternOk_c _ LZ _ (w.pre (((Pre.refl h3).alloc _).set (Nat.le_refl _) _)) kk.1 kk.2.1 kk.2.2) ?_
    simp (maxSteps := 1000000) -implicitDefEqProofs only [push_cast, seval]
theorem law_Alternatives0 (A : Option Addr) (c : Nat) (l : List Nat) (h : AH) (hR : RdE h A 1 byV l) (hl : ∀ n ∈ l, n < 256) (hn : l.length ≤ maxLen) : CE Try.prog 6 [.slice A l.length c] h fun v _ => v = .bool true := by
  by_cases hb : l.length ≤ 1048576
  · exact law_Alternatives A c l h hR hl hb
  refine CE.ofN Try.func6 Try.ntmps6 Try.results6 rfl (by kernel_rfl) ?_
  simp (maxSteps := 1000000) -implicitDefEqProofs only [push_cast, seval]
  with_reducible refine CD.to (big_c A l.length c h) ?_
  have nb : decide ((1048576 : Int) < l.length) = true := decide_eq_true (by omega)
  simp (maxSteps := 1000000) -implicitDefEqProofs only [push_cast, seval, nb]
end Go.Proofs.Ytciajhpeikemoaa
namespace Go.Proofs.Ytciajhpeikemoaa
open Go Go.Sim Go.Proofs
set_option linter.unusedSimpArgs false
set_option linter.unusedVariables false
set_option maxRecDepth 100000
set_option maxHeartbeats 1000000
theorem law_Rows (A : Option Addr) (c : Nat) (l : List Nat) (h : AH) (hR : RdE h A 1 byV l) (hl : ∀ n ∈ l, n < 256) (hn : l.length ≤ 1048576) : CE Try.prog 7 [.slice A l.length c] h fun v _ => v = .bool true := by
  have hml := maxLen_eq
  refine CE.withBig (fun big => ?_)
  refine CE.ofN Try.func7 Try.ntmps7 Try.results7 rfl (by kernel_rfl) ?_
  simp (maxSteps := 1000000) -implicitDefEqProofs only [push_cast, seval]
  with_reducible refine CD.to (big_c A l.length c h) ?_
  simp (maxSteps := 1000000) -implicitDefEqProofs only [push_cast, seval]
  have nb : decide ((1048576 : Int) < l.length) = false := decide_eq_false (by omega)
  simp (maxSteps := 1000000) -implicitDefEqProofs only [push_cast, seval, nb]
  with_reducible refine DrawPatterns_to hR hl hn (fun a b s h1 ha hb hs p1 => ?_)
  simp (maxSteps := 1000000) -implicitDefEqProofs only [push_cast, seval]
  have tw := tx_two ha hb
  with_reducible refine Exists.elim tw (fun LA tw => ?_)
  with_reducible refine Exists.elim tw (fun LB tw => ?_)
  have eA := tw.1
  have eB := tw.2.1
  have eZ := tw.2.2.2
  clear tw
  have kA := readP_ok eA
  have kB := readP_ok eB
  have kZ := readP_ok eZ
  have za := tx_size ha
  have zb := tx_size hb
  have zs := hs.1
  have eZ' := eZ
  have z1 : (⟨#[40]⟩ : ByteArray).size = 1 := rfl
  have z2 : (⟨#[41, 40]⟩ : ByteArray).size = 2 := rfl
  have z3 : (⟨#[41]⟩ : ByteArray).size = 1 := rfl
  unfold rowT at eZ'
  have zZ : (⟨#[40]⟩ ++ a ++ ⟨#[41, 40]⟩ ++ b ++ ⟨#[41]⟩ : ByteArray).size = a.size + b.size + 4 := by
    simp only [ByteArray.size_append]; omega
  have law := fun i j => row_law (s := s) (i := i) (j := j) kZ.1 kA.1 kB.1 kA.2.1 kB.2.1
  repeat (with_reducible refine And.intro (by first | omega | (simp only [ByteArray.size_append]; omega)) ?_)
  with_reducible refine CC.mono (ReadPattern_s _ h1 (by omega)) (fun v h2 hv => ?_)
  have p2 := hv.1
  have hv2 := hv.2
  clear hv
  unfold PatV at hv2
  with_reducible refine Or.elim hv2 (fun hn => ?_) (fun hy => ?_)
  · exfalso
    rw [hn.1] at eZ'; cases eZ'
  with_reducible refine Exists.elim hy (fun rv hy => ?_)
  with_reducible refine Exists.elim hy (fun LZ hy => ?_)
  have eL := hy.1
  have ev := hy.2.1
  have w := hy.2.2
  clear hy hv2
  subst ev
  have u := w.r.one
  have yy := w.r.cell1
  simp (maxSteps := 1000000) -implicitDefEqProofs only [push_cast, seval, u, yy, all1]
  have pz : Pre h2 ((h2.alloc (.cells [.slice none 0 0] .solo h2.n)).set h2.n (.cells [rv] .solo h2.n)) := ((Pre.refl h2).alloc _).set (Nat.le_refl _) _
  generalize ((h2.alloc (.cells [.slice none 0 0] .solo h2.n)).set h2.n (.cells [rv] .solo h2.n)) = h2' at *
  have lenA := places_len s.size
  refine WC.loopA (by kernel_rfl) [8] [2, 9, 10, 11, 12, 13, 34, 35, 36, 37, 38, 39, 40, 41, 42, 43, 44, 45, 46, 47, 48, 49, 50, 51, 52, 53, 54, 55, 56, 57, 58, 59, 60, 61, 62, 63, 64, 65, 66, 67, 68, 69, 70, 71, 72, 73, 74, 75, 76, 77, 78, 79, 80, 81, 82, 83, 84] (fun i : Nat => [.int .i64 (i : Nat)]) (fun i h' => i ≤ s.size + 1 ∧ Pre h2' h') (fun i => s.size + 1 - i) 0 (by kernel_rfl) ⟨by omega, Pre.refl _⟩ ?_
  intro i g h3 hJ
  have hi := hJ.1
  have p3 := hJ.2
  clear hJ
  simp (maxSteps := 1000000) -implicitDefEqProofs only [push_cast, seval]
  with_reducible refine bcase_d (fun hb1 => ?_) (fun hb1 => ?_)
  · simp (maxSteps := 1000000) -implicitDefEqProofs only [push_cast, seval]
    with_reducible refine ends_to eA (by omega) (by omega) (by omega) (fun x h4 rx p4 => ?_)
    have hx := lenA (Mt LA s (LA.length - 1) i)
    change (ml LA s (LA.length - 1) i).length ≤ _ at hx
    have mx := fun m => ml_mem kA.1 (s := s) (k := LA.length - 1) (i := i) (j := m) (by omega) (by omega)
    have inx := fun m => Mt_in kA.1 (s := s) (LA.length - 1) (by omega) i m (by omega)
    simp (maxSteps := 1000000) -implicitDefEqProofs only [push_cast, seval]
    repeat (with_reducible refine And.intro (by first | omega | (simp only [ByteArray.size_append]; omega)) ?_)
    with_reducible refine ends_to eZ' (by omega) (by omega) (by omega) (fun z h5 rz p5 => ?_)
    simp (maxSteps := 1000000) -implicitDefEqProofs only [push_cast, seval]
    have rx5 := rx.pre p5
    generalize ml LA s (LA.length - 1) i = X at *
    refine WC.loopA (by kernel_rfl) [11] [2, 12, 13, 56, 57, 58, 59, 60, 61, 62, 63, 64, 65, 66, 67, 68, 69, 70, 71, 72, 73, 74, 75, 76, 77, 78, 79, 80, 81, 82, 83, 84] (fun k : Nat => [.int .i64 (k : Nat)]) (fun k h' => k ≤ s.size + 1 ∧ Pre h5 h') (fun k => s.size + 1 - k) 0 (by kernel_rfl) ⟨by omega, Pre.refl _⟩ ?_
    intro k g2 h6 hJ
    have hk := hJ.1
    have p6 := hJ.2
    clear hJ
    simp (maxSteps := 1000000) -implicitDefEqProofs only [push_cast, seval]
    with_reducible refine bcase_d (fun hb2 => ?_) (fun hb2 => ?_)
    · simp (maxSteps := 1000000) -implicitDefEqProofs only [push_cast, seval]
      refine WC.loopA (by kernel_rfl) [12, 13] [62, 63, 64, 65, 66, 67, 68, 69, 70, 71, 72, 73, 74, 75, 76, 77, 78, 79] (fun a : Nat × Bool => [.bool a.2, .int .i64 (a.1 : Nat)]) (fun a h' => a.1 ≤ X.length ∧ (a.2 = true ↔ ∃ q, ∃ hq : q < X.length, q < a.1 ∧ Mt LB s (LB.length - 1) X[q] k) ∧ Pre h6 h') (fun a => X.length - a.1) (0, false) (by kernel_rfl) ⟨Nat.zero_le _, ⟨fun e => (by cases e), fun ⟨q, _, e, _⟩ => absurd e (Nat.not_lt_zero q)⟩, Pre.refl _⟩ ?_
      intro a g3 h7 hJ
      have hq := hJ.1
      have hs7 := hJ.2.1
      have p7 := hJ.2.2
      clear hJ
      have rx7 := (rx5.pre p6).pre p7
      have yx := rx7.one
      have kf := rx7.rde (fun _ => rfl)
      with_reducible refine Exists.elim kf (fun Ax kf => ?_)
      with_reducible refine Exists.elim kf (fun cx kf => ?_)
      have ex := kf.1
      clear kf
      subst ex
      have step : ∀ b' : Bool, (b' = true ↔ a.2 = true ∨ ∃ hq : a.1 < X.length, Mt LB s (LB.length - 1) X[a.1] k) → (b' = true ↔ ∃ q, ∃ hq : q < X.length, q < a.1 + 1 ∧ Mt LB s (LB.length - 1) X[q] k) := fun b' hb' => by
        rw [hb', hs7]
        constructor
        · rintro (⟨q, h1, h2, h3⟩ | ⟨h1, h2⟩)
          · exact ⟨q, h1, by omega, h3⟩
          · exact ⟨a.1, h1, by omega, h2⟩
        · rintro ⟨q, h1, h2, h3⟩
          by_cases e : q = a.1
          · subst e; exact .inr ⟨h1, h3⟩
          · exact .inl ⟨q, h1, by omega, h3⟩
      simp (maxSteps := 1000000) -implicitDefEqProofs only [push_cast, seval]
      with_reducible refine bcase_d (fun hb3 => ?_) (fun hb3 => ?_)
      · have hq' : a.1 < X.length := by omega
        have rk := rdN rx7 hq' rfl
        have xin := inx X[a.1] ((mx X[a.1]).1 (List.getElem_mem hq'))
        have step2 := fun b' => step b'
        have mem : ∀ b' : Bool, (b' = true ↔ Mt LB s (LB.length - 1) X[a.1] k) → a.2 = false → (b' = true ↔ ∃ q, ∃ hq : q < X.length, q < a.1 + 1 ∧ Mt LB s (LB.length - 1) X[q] k) := fun b' hb' e => step b' (by
          rw [hb', e]
          exact ⟨fun h => .inr ⟨hq', h⟩, fun h => by
            rcases h with h | ⟨_, h⟩
            · cases h
            · exact h⟩)
        have mem2 : a.2 = true → (true = true ↔ ∃ q, ∃ hq : q < X.length, q < a.1 + 1 ∧ Mt LB s (LB.length - 1) X[q] k) := fun e => step true (by rw [e]; simp)
        generalize X[a.1] = T at *
        with_reducible refine Exists.elim rk (fun id hv => ?_)
        with_reducible refine Exists.elim hv (fun off hv => ?_)
        have ev := hv.1
        have vlt := hv.2.1
        have vrd := hv.2.2
        clear hv rk
        subst ev
        simp (maxSteps := 1000000) -implicitDefEqProofs only [push_cast, seval, vrd, vlt]
        with_reducible refine bcase_mk (fun ha => ?_) (fun ha => ?_)
        · simp (maxSteps := 1000000) -implicitDefEqProofs only [push_cast, seval, ha]
          rw [wrapSucc (by omega)]
          exact ⟨(a.1 + 1, true), by kernel_rfl, ⟨by show a.1 + 1 ≤ X.length; omega, mem2 ha, p7⟩, by show X.length - (a.1 + 1) < X.length - a.1; omega⟩
        · simp (maxSteps := 1000000) -implicitDefEqProofs only [push_cast, seval, ha, vrd, vlt]
          repeat (with_reducible refine And.intro ?_ ?_; · (first | omega | decide))
          with_reducible refine ends_to eB (by omega) (by omega) (by omega) (fun w h8 rw8 p8 => ?_)
          simp (maxSteps := 1000000) -implicitDefEqProofs only [push_cast, seval, ha]
          with_reducible refine in_to kB.1 (by omega) (by omega) (by omega) rw8 (fun bw hw => ?_)
          simp (maxSteps := 1000000) -implicitDefEqProofs only [push_cast, seval, ha]
          rw [wrapSucc (by omega)]
          exact ⟨(a.1 + 1, bw), by kernel_rfl, ⟨by show a.1 + 1 ≤ X.length; omega, mem bw hw ha, p7.trans p8⟩, by show X.length - (a.1 + 1) < X.length - a.1; omega⟩
      · simp (maxSteps := 1000000) -implicitDefEqProofs only [push_cast, seval]
        have ea : a.1 = X.length := by omega
        with_reducible refine in_to kZ.1 (by omega) (by omega) (by omega) (rz.pre (p6.trans p7)) (fun bz hz => ?_)
        have eb : bz = a.2 := by
          rw [Bool.eq_iff_iff, hz, law, hs7]
          constructor
          · rintro ⟨m, m1, m2⟩
            obtain ⟨q, hq1, hq2⟩ := List.getElem_of_mem ((mx m).2 m1)
            exact ⟨q, hq1, by omega, by rw [hq2]; exact m2⟩
          · rintro ⟨q, hq1, _, m2⟩
            exact ⟨_, (mx _).1 (List.getElem_mem hq1), m2⟩
        simp (maxSteps := 1000000) -implicitDefEqProofs only [push_cast, seval, eb, beq_self_eq_true]
        rw [wrapSucc (by omega)]
        exact ⟨k + 1, by kernel_rfl, ⟨by omega, p6.trans p7⟩, by omega⟩
    · simp (maxSteps := 1000000) -implicitDefEqProofs only [push_cast, seval]
      rw [wrapSucc (by omega)]
      exact ⟨i + 1, by kernel_rfl, ⟨by omega, p3.trans ((p4.trans p5).trans p6)⟩, by omega⟩
  · simp (maxSteps := 1000000) -implicitDefEqProofs only [push_cast, seval]
    with_reducible refine ReadPattern_to eA (by omega) (fun rv LZ h3 eL w p3 => ?_)
    have u := w.r.one
    have yy := w.r.cell1
    simp (maxSteps := 1000000) -implicitDefEqProofs only [push_cast, seval, u, all1]
    rw [eL] at kA
    rw [List.length_map] at kA
    with_reducible refine CD.to (PatternOk_c _ LZ _ (w.pre (((Pre.refl h3).alloc _).set (Nat.le_refl _) _)) kA.1 kA.2.1 kA.2.2) ?_
    simp (maxSteps := 1000000) -implicitDefEqProofs only [push_cast, seval]
theorem law_Rows0 (A : Option Addr) (c : Nat) (l : List Nat) (h : AH) (hR : RdE h A 1 byV l) (hl : ∀ n ∈ l, n < 256) (hn : l.length ≤ maxLen) : CE Try.prog 7 [.slice A l.length c] h fun v _ => v = .bool true := by
  by_cases hb : l.length ≤ 1048576
  · exact law_Rows A c l h hR hl hb
  refine CE.ofN Try.func7 Try.ntmps7 Try.results7 rfl (by kernel_rfl) ?_
  simp (maxSteps := 1000000) -implicitDefEqProofs only [push_cast, seval]
  with_reducible refine CD.to (big_c A l.length c h) ?_
  have nb : decide ((1048576 : Int) < l.length) = true := decide_eq_true (by omega)
  simp (maxSteps := 1000000) -implicitDefEqProofs only [push_cast, seval, nb]
end Go.Proofs.Ytciajhpeikemoaa
/- One element of a slice that is read whole. Conditions: those that each theorem names. -/
set_option linter.unusedVariables false
namespace Go.Sim
theorem RdV.el {α : Type} {h : AH} {v : Value} {k : Nat} {enc : α → List Value} {l : List α} (r : RdV h v k enc l) (hl : ∀ x, (enc x).length = k) {i : Nat} (hi : i < l.length) : ∃ id off c, v = .slice (some ⟨id, off, none⟩) l.length c ∧ id < h.n ∧ rd h id (off + i * k) k = some (enc l[i]) := by
  rcases r with ⟨c, rfl, rfl⟩ | ⟨id, off, c, rfl, q, hlt⟩
  · cases hi
  · exact ⟨id, off, c, rfl, hlt, chunk_of (n := 0) (fun x _ => hl x) q hi⟩
end Go.Sim
namespace Go.Proofs.Ytciajhpeikemoaa
open Go Go.Sim Go.Proofs
set_option linter.unusedSimpArgs false
set_option linter.unusedVariables false
set_option maxRecDepth 100000
set_option maxHeartbeats 1000000
theorem law_Stars (A : Option Addr) (c : Nat) (l : List Nat) (h : AH) (hR : RdE h A 1 byV l) (hl : ∀ n ∈ l, n < 256) (hn : l.length ≤ 1048576) : CE Try.prog 3 [.slice A l.length c] h fun v _ => v = .bool true := by
  have hml := maxLen_eq
  refine CE.withBig (fun big => ?_)
  refine CE.ofN Try.func3 Try.ntmps3 Try.results3 rfl (by kernel_rfl) ?_
  simp (maxSteps := 1000000) -implicitDefEqProofs only [push_cast, seval]
  with_reducible refine CD.to (big_c A l.length c h) ?_
  simp (maxSteps := 1000000) -implicitDefEqProofs only [push_cast, seval]
  have nb : decide ((1048576 : Int) < l.length) = false := decide_eq_false (by omega)
  simp (maxSteps := 1000000) -implicitDefEqProofs only [push_cast, seval, nb]
  with_reducible refine DrawPatterns_to hR hl hn (fun a b s h1 ha hb hs p1 => ?_)
  simp (maxSteps := 1000000) -implicitDefEqProofs only [push_cast, seval]
  have tw := tx_one ha
  with_reducible refine Exists.elim tw (fun LA tw => ?_)
  have eA := tw.1
  have eS := tw.2.1
  have eP := tw.2.2.1
  have eO := tw.2.2.2.1
  have eM := tw.2.2.2.2
  clear tw
  have kA := readP_ok eA
  have kS := readP_ok eS
  have kP := readP_ok eP
  have kO := readP_ok eO
  have kM := readP_ok eM
  have za := tx_size ha
  have zs := hs.1
  have z1 : (⟨#[40]⟩ : ByteArray).size = 1 := rfl
  have z2 : (⟨#[41, 42]⟩ : ByteArray).size = 2 := rfl
  have z3 : (⟨#[41, 43]⟩ : ByteArray).size = 2 := rfl
  have z4 : (⟨#[41, 63]⟩ : ByteArray).size = 2 := rfl
  have z5 : (⟨#[41, 40]⟩ : ByteArray).size = 2 := rfl
  unfold oneT at eS eP eO
  unfold moreT at eM
  have y1 : (⟨#[40]⟩ ++ a ++ ⟨#[41, 42]⟩ : ByteArray).size = a.size + 3 := by simp only [ByteArray.size_append]; omega
  have y2 : (⟨#[40]⟩ ++ a ++ ⟨#[41, 43]⟩ : ByteArray).size = a.size + 3 := by simp only [ByteArray.size_append]; omega
  have y3 : (⟨#[40]⟩ ++ a ++ ⟨#[41, 63]⟩ : ByteArray).size = a.size + 3 := by simp only [ByteArray.size_append]; omega
  have y4 : (⟨#[40]⟩ ++ a ++ ⟨#[41, 40]⟩ ++ a ++ ⟨#[41, 42]⟩ : ByteArray).size = a.size + a.size + 5 := by simp only [ByteArray.size_append]; omega
  have lS := fun i j => star_law (s := s) (i := i) (j := j) kS.1 kA.1 kA.2.1
  have lP := fun i j => plus_law (s := s) (i := i) (j := j) kP.1 kA.1 kA.2.1
  have lO := fun i j => opt_law (s := s) (i := i) (j := j) kO.1 kA.1 kA.2.1
  have lM := fun i j => row_law (s := s) (i := i) (j := j) kM.1 kA.1 kS.1 kA.2.1 kS.2.1
  refine WC.loopA (by kernel_rfl) [6] [2, 7, 8, 9, 10, 11, 12, 13, 14, 25, 26, 27, 28, 29, 30, 31, 32, 33, 34, 35, 36, 37, 38, 39, 40, 41, 42, 43, 44, 45, 46, 47, 48, 49, 50, 51, 52, 53, 54, 55, 56, 57, 58, 59, 60, 61, 62, 63, 64, 65, 66, 67, 68, 69, 70, 71, 72, 73, 74, 75, 76, 77, 78, 79, 80, 81, 82, 83, 84, 85, 86, 87, 88, 89, 90, 91, 92, 93, 94, 95, 96, 97, 98, 99, 100, 101, 102, 103, 104, 105, 106, 107, 108, 109, 110, 111, 112, 113, 114, 115] (fun i : Nat => [.int .i64 (i : Nat)]) (fun i h' => i ≤ s.size + 1 ∧ Pre h1 h') (fun i => s.size + 1 - i) 0 (by kernel_rfl) ⟨by omega, Pre.refl _⟩ ?_
  intro i g h2 hJ
  have hi := hJ.1
  have p2 := hJ.2
  clear hJ
  simp (maxSteps := 1000000) -implicitDefEqProofs only [push_cast, seval]
  with_reducible refine bcase_d (fun hb1 => ?_) (fun hb1 => ?_)
  · simp (maxSteps := 1000000) -implicitDefEqProofs only [push_cast, seval]
    repeat (with_reducible refine And.intro (by first | omega | (simp only [ByteArray.size_append]; omega)) ?_)
    with_reducible refine ends_to eS (by omega) (by omega) (by omega) (fun vS h3 rS p3 => ?_)
    simp (maxSteps := 1000000) -implicitDefEqProofs only [push_cast, seval]
    repeat (with_reducible refine And.intro (by first | omega | (simp only [ByteArray.size_append]; omega)) ?_)
    with_reducible refine ends_to eP (by omega) (by omega) (by omega) (fun vP h4 rP p4 => ?_)
    simp (maxSteps := 1000000) -implicitDefEqProofs only [push_cast, seval]
    repeat (with_reducible refine And.intro (by first | omega | (simp only [ByteArray.size_append]; omega)) ?_)
    with_reducible refine ends_to eO (by omega) (by omega) (by omega) (fun vO h5 rO p5 => ?_)
    simp (maxSteps := 1000000) -implicitDefEqProofs only [push_cast, seval]
    with_reducible refine ends_to eA (by omega) (by omega) (by omega) (fun vA h6 rA p6 => ?_)
    simp (maxSteps := 1000000) -implicitDefEqProofs only [push_cast, seval]
    repeat (with_reducible refine And.intro (by first | omega | (simp only [ByteArray.size_append]; omega)) ?_)
    with_reducible refine ends_to eM (by omega) (by omega) (by omega) (fun vM h7 rM p7 => ?_)
    simp (maxSteps := 1000000) -implicitDefEqProofs only [push_cast, seval]
    repeat (with_reducible refine And.intro (by first | omega | (simp only [ByteArray.size_append]; omega)) ?_)
    with_reducible refine CC.mono (ReadPattern_s _ h7 (by omega)) (fun v h8 hv => ?_)
    have p8 := hv.1
    have hv2 := hv.2
    clear hv
    unfold PatV at hv2
    with_reducible refine Or.elim hv2 (fun hn => ?_) (fun hy => ?_)
    · exfalso
      rw [hn.1] at eM; cases eM
    with_reducible refine Exists.elim hy (fun rv hy => ?_)
    with_reducible refine Exists.elim hy (fun LZ hy => ?_)
    have eL := hy.1
    have ev := hy.2.1
    have w := hy.2.2
    clear hy hv2
    subst ev
    have u := w.r.one
    have yy := w.r.cell1
    simp (maxSteps := 1000000) -implicitDefEqProofs only [push_cast, seval, u, yy, all1]
    have pz : Pre h8 ((h8.alloc (.cells [.slice none 0 0] .solo h8.n)).set h8.n (.cells [rv] .solo h8.n)) := ((Pre.refl h8).alloc _).set (Nat.le_refl _) _
    generalize ((h8.alloc (.cells [.slice none 0 0] .solo h8.n)).set h8.n (.cells [rv] .solo h8.n)) = h9 at *
    have pS := ((((p4.trans p5).trans p6).trans p7).trans p8).trans pz
    have pP := (((p5.trans p6).trans p7).trans p8).trans pz
    have pO := ((p6.trans p7).trans p8).trans pz
    have pA := (p7.trans p8).trans pz
    have pM := p8.trans pz
    refine WC.loopA (by kernel_rfl) [14] [2, 72, 73, 74, 75, 76, 77, 78, 79, 80, 81, 82, 83, 84, 85, 86, 87, 88, 89, 90, 91, 92, 93, 94, 95, 96, 97, 98, 99, 100, 101, 102, 103, 104, 105, 106, 107, 108, 109, 110, 111, 112, 113, 114, 115] (fun k : Nat => [.int .i64 (k : Nat)]) (fun k h' => k ≤ s.size + 1 ∧ Pre h9 h') (fun k => s.size + 1 - k) 0 (by kernel_rfl) ⟨by omega, Pre.refl _⟩ ?_
    intro k g2 h10 hJ
    have hk := hJ.1
    have p10 := hJ.2
    clear hJ
    simp (maxSteps := 1000000) -implicitDefEqProofs only [push_cast, seval]
    with_reducible refine bcase_d (fun hb2 => ?_) (fun hb2 => ?_)
    · have m1 := lS i k
      have m2 := lP i k
      have m3 := lO i k
      have m4 := lM i k
      simp (maxSteps := 1000000) -implicitDefEqProofs only [push_cast, seval]
      with_reducible refine in_to kS.1 (by omega) (by omega) (by omega) (rS.pre (pS.trans p10)) (fun bS hS => ?_)
      simp (maxSteps := 1000000) -implicitDefEqProofs only [push_cast, seval]
      have tail : ∀ b : Bool, True := fun _ => trivial
      with_reducible refine bcase_d (fun hik => ?_) (fun hik => ?_)
      · have hik' : k = i := by omega
        subst hik'
        have eS1 : bS = true := hS.2 (m1.2 (.refl _))
        simp (maxSteps := 1000000) -implicitDefEqProofs only [push_cast, seval, eS1, beq_self_eq_true]
        with_reducible refine in_to kO.1 (by omega) (by omega) (by omega) (rO.pre (pO.trans p10)) (fun bO hO => ?_)
        have eO1 : bO = true := hO.2 (m3.2 (.inl rfl))
        simp (maxSteps := 1000000) -implicitDefEqProofs only [push_cast, seval, eO1, beq_self_eq_true]
        with_reducible refine in_to kP.1 (by omega) (by omega) (by omega) (rP.pre (pP.trans p10)) (fun bP hP => ?_)
        simp (maxSteps := 1000000) -implicitDefEqProofs only [push_cast, seval]
        with_reducible refine in_to kM.1 (by omega) (by omega) (by omega) (rM.pre (pM.trans p10)) (fun bM hM => ?_)
        have eb : bP = bM := by
          rw [Bool.eq_iff_iff, hP, hM, m2, m4]
          simp only [lS]
        simp (maxSteps := 1000000) -implicitDefEqProofs only [push_cast, seval, eb, beq_self_eq_true]
        rw [wrapSucc (by omega)]
        exact ⟨k + 1, by kernel_rfl, ⟨by omega, p10⟩, by omega⟩
      · have dk : decide ((k : Int) = i) = false := decide_eq_false hik
        have hne : ¬ i = k := by omega
        simp (maxSteps := 1000000) -implicitDefEqProofs only [push_cast, seval, dk]
        with_reducible refine in_to kP.1 (by omega) (by omega) (by omega) (rP.pre (pP.trans p10)) (fun bP hP => ?_)
        have e1 : bS = bP := by
          rw [Bool.eq_iff_iff, hS, hP, m1, m2, Rt_plus]
          exact ⟨fun h => by
            rcases h with h | h
            · exact absurd h hne
            · exact h, fun h => .inr h⟩
        simp (maxSteps := 1000000) -implicitDefEqProofs only [push_cast, seval, e1, dk, beq_self_eq_true]
        with_reducible refine in_to kO.1 (by omega) (by omega) (by omega) (rO.pre (pO.trans p10)) (fun bO hO => ?_)
        simp (maxSteps := 1000000) -implicitDefEqProofs only [push_cast, seval, dk]
        with_reducible refine in_to kA.1 (by omega) (by omega) (by omega) (rA.pre (pA.trans p10)) (fun bA hA => ?_)
        have e2 : bO = bA := by
          rw [Bool.eq_iff_iff, hO, hA, m3]
          exact ⟨fun h => by
            rcases h with h | h
            · exact absurd h.symm hne
            · exact h, fun h => .inr h⟩
        simp (maxSteps := 1000000) -implicitDefEqProofs only [push_cast, seval, e2, dk, beq_self_eq_true]
        with_reducible refine in_to kP.1 (by omega) (by omega) (by omega) (rP.pre (pP.trans p10)) (fun bP2 hP2 => ?_)
        simp (maxSteps := 1000000) -implicitDefEqProofs only [push_cast, seval]
        with_reducible refine in_to kM.1 (by omega) (by omega) (by omega) (rM.pre (pM.trans p10)) (fun bM hM => ?_)
        have eb : bP2 = bM := by
          rw [Bool.eq_iff_iff, hP2, hM, m2, m4]
          simp only [lS]
        simp (maxSteps := 1000000) -implicitDefEqProofs only [push_cast, seval, eb, beq_self_eq_true]
        rw [wrapSucc (by omega)]
        exact ⟨k + 1, by kernel_rfl, ⟨by omega, p10⟩, by omega⟩
    · simp (maxSteps := 1000000) -implicitDefEqProofs only [push_cast, seval]
      rw [wrapSucc (by omega)]
      exact ⟨i + 1, by kernel_rfl, ⟨by omega, p2.trans ((p3.trans pS).trans p10)⟩, by omega⟩
  · simp (maxSteps := 1000000) -implicitDefEqProofs only [push_cast, seval]
    repeat (with_reducible refine And.intro (by first | omega | (simp only [ByteArray.size_append]; omega)) ?_)
    with_reducible refine ReadPattern_to eS (by omega) (fun rv LZ h3 eL w p3 => ?_)
    have u := w.r.one
    have yy := w.r.cell1
    have kZ := kS
    rw [eL] at kZ
    rw [List.length_map] at kZ
    have wk : IntKind.i64.wrap ((LZ.length : Int) - 1) = ((LZ.length - 1 : Nat) : Int) := by rw [w64 (by omega) (by omega)]; omega
    have rl : ∃ X : Pc × Value, X.1.op = 7 ∧ ∃ id off c, rv = .slice (some ⟨id, off, none⟩) LZ.length c ∧ id < h3.n ∧ rd h3 id (off + (LZ.length - 1) * 3) 3 = some (encP X) := by
      refine ⟨_, ?_, w.r.el encP_len (show LZ.length - 1 < LZ.length by omega)⟩
      have hlen : LZ.length = LA.length + 1 := by have := congrArg List.length eL; rw [oneL_len, List.length_map] at this; omega
      have h1 : (LZ.map Prod.fst)[LZ.length - 1]? = some ⟨7, ⟨#[]⟩, [LA.length - 1]⟩ := by rw [← eL, hlen]; simp [oneL]
      rw [List.getElem?_map, List.getElem?_eq_getElem (by omega)] at h1
      simp only [Option.map_some, Option.some.injEq] at h1
      rw [h1]
    with_reducible refine Exists.elim rl (fun X rl => ?_)
    have eop := rl.1
    have rl := rl.2
    with_reducible refine Exists.elim rl (fun id rl => ?_)
    with_reducible refine Exists.elim rl (fun off rl => ?_)
    with_reducible refine Exists.elim rl (fun cc rl => ?_)
    have erv := rl.1
    have hlt := rl.2.1
    have hrd := rl.2.2
    clear rl
    subst erv
    simp only [encP] at hrd
    have r0 := (rd_3 hrd).1
    simp (maxSteps := 1000000) -implicitDefEqProofs only [push_cast, seval, u, all1]
    have pz : Pre h3 ((h3.alloc (.cells [.slice none 0 0] .solo h3.n)).set h3.n (.cells [.slice (some ⟨id, off, none⟩) LZ.length cc] .solo h3.n)) := ((Pre.refl h3).alloc _).set (Nat.le_refl _) _
    have e4 : ((h3.alloc (.cells [.slice none 0 0] .solo h3.n)).set h3.n (.cells [.slice (some ⟨id, off, none⟩) LZ.length cc] .solo h3.n)).ob h3.n = AOb.cells [.slice (some ⟨id, off, none⟩) LZ.length cc] .solo h3.n := set_same _ _
    have n4 : ((h3.alloc (.cells [.slice none 0 0] .solo h3.n)).set h3.n (.cells [.slice (some ⟨id, off, none⟩) LZ.length cc] .solo h3.n)).n = h3.n + 1 := rfl
    generalize ((h3.alloc (.cells [.slice none 0 0] .solo h3.n)).set h3.n (.cells [.slice (some ⟨id, off, none⟩) LZ.length cc] .solo h3.n)) = h4 at *
    have l4 : h3.n < h4.n := by omega
    have q0 : rd1 h4 id (off + (LZ.length - 1) * 3) = some (.int .i64 (X.1.op : Nat)) := (pz.rd1 hlt _).trans r0
    have hlt4 : id < h4.n := Nat.lt_of_lt_of_le hlt pz.n
    simp (maxSteps := 1000000) -implicitDefEqProofs only [push_cast, seval, e4, rd_of e4, rd1_of e4, l4, u]
    with_reducible refine CD.to (PatternOk_c _ LZ _ (w.pre pz) kZ.1 kZ.2.1 kZ.2.2) ?_
    simp (maxSteps := 1000000) -implicitDefEqProofs only [push_cast, seval, e4, rd_of e4, rd1_of e4, l4, u, wk, q0, hlt4, eop]
    exact ⟨by omega, by omega⟩
theorem law_Stars0 (A : Option Addr) (c : Nat) (l : List Nat) (h : AH) (hR : RdE h A 1 byV l) (hl : ∀ n ∈ l, n < 256) (hn : l.length ≤ maxLen) : CE Try.prog 3 [.slice A l.length c] h fun v _ => v = .bool true := by
  by_cases hb : l.length ≤ 1048576
  · exact law_Stars A c l h hR hl hb
  refine CE.ofN Try.func3 Try.ntmps3 Try.results3 rfl (by kernel_rfl) ?_
  simp (maxSteps := 1000000) -implicitDefEqProofs only [push_cast, seval]
  with_reducible refine CD.to (big_c A l.length c h) ?_
  have nb : decide ((1048576 : Int) < l.length) = true := decide_eq_true (by omega)
  simp (maxSteps := 1000000) -implicitDefEqProofs only [push_cast, seval, nb]
end Go.Proofs.Ytciajhpeikemoaa
/- Patterns of one piece: what they take. Conditions: none. -/
set_option linter.unusedSimpArgs false
set_option linter.unusedVariables false
namespace Go.Sim
theorem pw_single {l : List Nat} {e : Nat} (pw : l.Pairwise (· < ·)) (h : ∀ j, j ∈ l ↔ j = e) : l = [e] := by
  cases l with
  | nil => have := (h e).2 rfl; cases this
  | cons a r =>
    have ea := (h a).1 (by simp)
    subst ea
    cases r with
    | nil => rfl
    | cons b r =>
      have eb := (h b).1 (by simp)
      rw [List.pairwise_cons] at pw
      have := pw.1 b (by simp)
      omega
theorem no_mem {l : List Nat} (h : ∀ j, j ∉ l) : l = [] := List.eq_nil_iff_forall_not_mem.2 h
theorem ml_leaf {x : Pc} (o : Okp [x]) (hx : x.op < 5 ∨ 9 < x.op) {s : ByteArray} {i j : Nat} (hi : i ≤ s.size) : j ∈ ml [x] s 0 i ↔ leafP x s i j := by
  rw [ml_mem o (by simp) hi, Mt_eq o (by simp)]
  exact stepL hx
theorem ml_yes {x : Pc} (o : Okp [x]) (hx : x.op < 5 ∨ 9 < x.op) {s : ByteArray} {i e : Nat} (hi : i ≤ s.size) (h : ∀ j, leafP x s i j ↔ j = e) : ml [x] s 0 i = [e] :=
  pw_single (places_pw _ _) (fun j => (ml_leaf o hx hi).trans (h j))
theorem ml_no {x : Pc} (o : Okp [x]) (hx : x.op < 5 ∨ 9 < x.op) {s : ByteArray} {i : Nat} (hi : i ≤ s.size) (h : ∀ j, ¬ leafP x s i j) : ml [x] s 0 i = [] :=
  no_mem (fun j hj => h j ((ml_leaf o hx hi).1 hj))
theorem ml_begin {s : ByteArray} : ml [⟨10, ⟨#[]⟩, []⟩] s 0 0 = [0] := by
  have o : Okp [⟨10, ⟨#[]⟩, []⟩] := (readP_ok (s := ⟨#[94]⟩) (rdE'_eq (by decide +kernel))).1
  exact ml_yes o (.inr (by decide)) (Nat.zero_le _) (fun j => by rw [leaf10 rfl]; simp)
theorem ml_begin1 {s : ByteArray} (h : 1 ≤ s.size) : ml [⟨10, ⟨#[]⟩, []⟩] s 0 1 = [] := by
  have o : Okp [⟨10, ⟨#[]⟩, []⟩] := (readP_ok (s := ⟨#[94]⟩) (rdE'_eq (by decide +kernel))).1
  exact ml_no o (.inr (by decide)) h (fun j => by rw [leaf10 rfl]; simp)
theorem ml_end {s : ByteArray} : ml [⟨11, ⟨#[]⟩, []⟩] s 0 s.size = [s.size] := by
  have o : Okp [⟨11, ⟨#[]⟩, []⟩] := (readP_ok (s := ⟨#[36]⟩) (rdE'_eq (by decide +kernel))).1
  exact ml_yes o (.inr (by decide)) (Nat.le_refl _) (fun j => by rw [leaf11 rfl]; simp)
theorem hasB_one (c : UInt8) (b : Nat) : hasB ⟨#[c]⟩ b = decide (c.toNat = b) := by
  unfold hasB allAt
  have : (⟨#[c]⟩ : ByteArray).size = 1 := rfl
  rw [this]
  simp [List.range_succ, byteAt]
  omega
theorem ml_byte {c : UInt8} {t s : ByteArray} {i : Nat} (e : readP t = some [⟨1, ⟨#[c]⟩, []⟩]) (hi : i ≤ s.size) : ml [⟨1, ⟨#[c]⟩, []⟩] s 0 i = if i < s.size ∧ c = byteAt s i then [i + 1] else [] := by
  have o := (readP_ok e).1
  by_cases h : i < s.size ∧ c = byteAt s i
  · rw [if_pos h]
    refine ml_yes o (.inl (by show 1 < 5; decide)) hi (fun j => ?_)
    rw [leaf1 (by show 1 ≤ 1 ∧ 1 ≤ 4; decide)]
    have : tk ⟨1, ⟨#[c]⟩, []⟩ s i = true := by rw [tk, if_pos (.inl rfl), hasB_one, h.2]; simp
    exact ⟨fun x => x.2.1, fun x => ⟨h.1, x, this⟩⟩
  · rw [if_neg h]
    refine ml_no o (.inl (by show 1 < 5; decide)) hi (fun j => ?_)
    rw [leaf1 (by show 1 ≤ 1 ∧ 1 ≤ 4; decide)]
    rintro ⟨h1, _, h3⟩
    rw [tk, if_pos (.inl rfl), hasB_one] at h3
    exact h ⟨h1, UInt8.toNat_inj.1 (of_decide_eq_true h3)⟩
theorem sub_byte {s : ByteArray} {i : Nat} {c : UInt8} (h : i < s.size) : s.extract i (i + 1) = ⟨#[c]⟩ ↔ c = byteAt s i := by
  have e : s.extract i (i + 1) = ⟨#[byteAt s i]⟩ := by
    apply ByteArray.ext
    apply Array.ext_getElem?
    intro k
    rw [ByteArray.data_extract, Array.getElem?_extract]
    have h' : i < s.data.size := h
    by_cases hk : k = 0
    · subst hk
      have : (byteAt s i) = s.data[i] := by unfold byteAt; simp [h']; rw [Array.getElem?_eq_getElem h']; rfl
      rw [this]
      simp [h']
      omega
    · have : ¬ k < min (i + 1) s.data.size - i := by omega
      rw [if_neg this]
      simp [hk]
  rw [e]
  constructor
  · intro h; injection h with h; injection h with h; injection h with h; exact h.symm
  · rintro rfl; rfl
end Go.Sim
namespace Go.Proofs.Ytciajhpeikemoaa
open Go Go.Sim Go.Proofs
set_option linter.unusedSimpArgs false
set_option linter.unusedVariables false
set_option maxRecDepth 100000
set_option maxHeartbeats 1000000
theorem sameInts_c (l m : List Nat) (v w : Value) (h : AH) (hA : RdV h v 1 encNa l) (hB : RdV h w 1 encNa m) (hl : l.length < 274877906944) (hm : m.length < 274877906944) :
    CD Try.prog 31 [v, w] h (.bool (decide (l = m))) h := by
  refine CD.quiet ?_ (low_bool _ _)
  obtain ⟨A, ca, rfl, _⟩ := hA.rde (fun _ => rfl)
  obtain ⟨B, cb, rfl, _⟩ := hB.rde (fun _ => rfl)
  refine CC.ofN Try.func31 Try.ntmps31 Try.results31 rfl (by decide) (by kernel_rfl) ?_
  simp (maxSteps := 1000000) -implicitDefEqProofs only [push_cast, seval]
  with_reducible refine bcase_d (fun hb => ?_) (fun hb => ?_)
  rotate_left
  · have e : decide (l = m) = false := decide_eq_false (fun e => by subst e; omega)
    simp (maxSteps := 1000000) -implicitDefEqProofs only [push_cast, seval]
    rw [e]
    exact ⟨rfl, Keep.refl _ _⟩
  have hlm : l.length = m.length := by omega
  refine WC.loopA (by kernel_rfl) [5] [4, 11, 12, 13, 14, 15, 16, 17, 18, 19, 20, 21, 22, 23, 24, 25] (fun i : Nat => [.int .i64 (i : Nat)]) (fun i h' => (i ≤ l.length ∧ ∀ j (h1 : j < l.length) (h2 : j < m.length), j < i → l[j] = m[j]) ∧ Pre h h') (fun i => l.length - i) 0 (by kernel_rfl) ⟨⟨Nat.zero_le _, fun j _ _ h0 => absurd h0 (Nat.not_lt_zero j)⟩, Pre.refl _⟩ ?_
  intro i g h1 hJ
  have hi := hJ.1.1
  have hj := hJ.1.2
  have p1 := hJ.2
  clear hJ
  simp (maxSteps := 1000000) -implicitDefEqProofs only [push_cast, seval]
  with_reducible refine bcase_d (fun hb2 => ?_) (fun hb2 => ?_)
  rotate_left
  · have e : decide (l = m) = true := decide_eq_true (List.ext_getElem hlm (fun j a b => hj j a b (by omega)))
    simp (maxSteps := 1000000) -implicitDefEqProofs only [push_cast, seval]
    rw [e]
    exact ⟨rfl, p1.keep⟩
  have hi1 : i < l.length := by omega
  have hi2 : i < m.length := by omega
  have r1 := (hA.pre p1).el (fun _ => rfl) hi1
  have r2 := (hB.pre p1).el (fun _ => rfl) hi2
  have yes : l[i] = m[i] → ∀ j (h1 : j < l.length) (h2 : j < m.length), j < i + 1 → l[j] = m[j] := fun e j a b c => by
    by_cases e2 : j = i
    · subst e2; exact e
    · exact hj j a b (by omega)
  have no : l[i] ≠ m[i] → decide (l = m) = false := fun e => decide_eq_false (fun e2 => by subst e2; exact e rfl)
  generalize l[i] = X at *
  generalize m[i] = Y at *
  with_reducible refine Exists.elim r1 (fun id1 r1 => ?_)
  with_reducible refine Exists.elim r1 (fun off1 r1 => ?_)
  with_reducible refine Exists.elim r1 (fun c1 r1 => ?_)
  with_reducible refine Exists.elim r2 (fun id2 r2 => ?_)
  with_reducible refine Exists.elim r2 (fun off2 r2 => ?_)
  with_reducible refine Exists.elim r2 (fun c2 r2 => ?_)
  have e1 := r1.1
  have e2 := r2.1
  injection e1 with e1 _ _
  injection e2 with e2 _ _
  subst e1 e2
  have t1 := rd_1 r1.2.2
  have t2 := rd_1 r2.2.2
  have l1 := r1.2.1
  have l2 := r2.2.1
  clear r1 r2
  refine WC.draw' (by kernel_rfl) (by kernel_rfl) (.q 0 (.q 1 (.q 2 (.q 3 (.q 4 (.q 5 (.q 6 (.q 7 (.q 8 (.done)))))))))) (by kernel_rfl) ?_
  simp (maxSteps := 1000000) -implicitDefEqProofs only [push_cast, seval, t1, t2, l1, l2]
  repeat (with_reducible refine And.intro ?_ ?_; · (first | omega | decide))
  with_reducible refine bcase_d (fun hb3 => ?_) (fun hb3 => ?_)
  rotate_left
  · simp (maxSteps := 1000000) -implicitDefEqProofs only [push_cast, seval]
    rw [no (by omega)]
    exact ⟨rfl, p1.keep⟩
  · simp (maxSteps := 1000000) -implicitDefEqProofs only [push_cast, seval]
    rw [wrapSucc (by omega)]
    exact ⟨i + 1, by kernel_rfl, ⟨⟨by omega, yes (by omega)⟩, p1⟩, by omega⟩
end Go.Proofs.Ytciajhpeikemoaa
namespace Go.Proofs.Ytciajhpeikemoaa
open Go Go.Sim Go.Proofs
set_option linter.unusedSimpArgs false
set_option linter.unusedVariables false
set_option maxRecDepth 100000
set_option maxHeartbeats 1000000
/-- What is found of one byte. -/
theorem find_byte {c : UInt8} {t s : ByteArray} (e : readP t = some [⟨1, ⟨#[c]⟩, []⟩]) {v : Value} (q : FindQ [⟨1, ⟨#[c]⟩, []⟩] s v) :
    (∃ i : Nat, i < s.size ∧ c = byteAt s i ∧ (∀ j, j < i → c ≠ byteAt s j) ∧ v = .tuple #[.int .i64 (i : Nat), .int .i64 ((i + 1 : Nat) : Int), .bool true]) ∨ ((∀ j, j < s.size → c ≠ byteAt s j) ∧ v = .tuple #[.int .i64 0, .int .i64 0, .bool false]) := by
  have key : ∀ j, j ≤ s.size → ml [⟨1, ⟨#[c]⟩, []⟩] s 0 j = if j < s.size ∧ c = byteAt s j then [j + 1] else [] := fun j hj => ml_byte e hj
  rcases q with ⟨i, e', h1, h2, h3, h4, rfl⟩ | ⟨h1, rfl⟩
  · change ml _ s 0 i ≠ [] at h3
    change (ml _ s 0 i).getLast? = _ at h4
    rw [key i h1] at h3 h4
    by_cases hc : i < s.size ∧ c = byteAt s i
    · rw [if_pos hc] at h4
      simp only [List.getLast?_singleton, Option.some.injEq] at h4
      subst h4
      refine .inl ⟨i, hc.1, hc.2, fun j hj e2 => ?_, rfl⟩
      have := h2 j hj
      change ml _ s 0 j = [] at this
      rw [key j (by omega), if_pos ⟨by omega, e2⟩] at this
      cases this
    · rw [if_neg hc] at h3; exact absurd rfl h3
  · refine .inr ⟨fun j hj e2 => ?_, rfl⟩
    have := h1 j (by omega)
    change ml _ s 0 j = [] at this
    rw [key j (by omega), if_pos ⟨by omega, e2⟩] at this
    cases this
theorem find_to {t : ByteArray} {o : List Pc} (e : readP t = some o) {L : List (Pc × Value)} (eL : o = L.map Prod.fst) {rv : Value} {h : AH} (w : RdPat h rv L) {s : ByteArray} (hs : s.size ≤ 100000) {K : Value → AH → Prop}
    (hk : ∀ v h', FindQ o s v → Pre h h' → K v h') : CC Try.prog 30 [.agg #[rv], .string s] h K := by
  have k := readP_ok e
  rw [eL] at k
  rw [List.length_map] at k
  exact CC.mono (FindIn_i rv L s h w k.1 k.2.1 k.2.2 hs) (fun v h' hv => hk v h' (by rw [eL]; exact hv.1) hv.2)
theorem one_byte (r : Nat) (h : r < 4) : readP ⟨#[UInt8.ofNat (97 + r)]⟩ = some [⟨1, ⟨#[UInt8.ofNat (97 + r)]⟩, []⟩] := by
  have : r = 0 ∨ r = 1 ∨ r = 2 ∨ r = 3 := by omega
  rcases this with rfl | rfl | rfl | rfl <;> exact rdE'_eq (by decide +kernel)
/-- Where a byte comes first, looked for from the end on. -/
def Fst (s : ByteArray) (c : UInt8) (i f : Int) : Prop :=
  (f = -1 ∧ ∀ j : Nat, i < j → j < s.size → c ≠ byteAt s j) ∨ ∃ k : Nat, f = k ∧ i < k ∧ k < s.size ∧ c = byteAt s k ∧ ∀ j : Nat, i < j → j < k → c ≠ byteAt s j
theorem Fst.yes {s : ByteArray} {c : UInt8} {k : Nat} {f : Int} (h : k < s.size) (w : Fst s c k f) (e : c = byteAt s k) : Fst s c ((k : Int) - 1) k :=
  .inr ⟨k, rfl, by omega, h, e, fun j h1 h2 => by omega⟩
theorem Fst.no {s : ByteArray} {c : UInt8} {k : Nat} {f : Int} (w : Fst s c k f) (e : c ≠ byteAt s k) : Fst s c ((k : Int) - 1) f := by
  have st : ∀ j : Nat, (k : Int) - 1 < j → j = k ∨ (k : Int) < j := fun j h => by omega
  rcases w with ⟨a, b⟩ | ⟨q, a, b, d, g, z⟩
  · exact .inl ⟨a, fun j h1 h2 => by
      rcases st j h1 with rfl | h3
      · exact e
      · exact b j h3 h2⟩
  · exact .inr ⟨q, a, by omega, d, g, fun j h1 h2 => by
      rcases st j h1 with rfl | h3
      · exact e
      · exact z j h3 h2⟩
theorem rp_star : readP ⟨#[92, 42]⟩ = some [⟨1, ⟨#[42]⟩, []⟩] := rdE'_eq (by decide +kernel)
theorem rp_begin : readP ⟨#[94]⟩ = some [⟨10, ⟨#[]⟩, []⟩] := rdE'_eq (by decide +kernel)
theorem rp_end : readP ⟨#[36]⟩ = some [⟨11, ⟨#[]⟩, []⟩] := rdE'_eq (by decide +kernel)
theorem no_star {s : ByteArray} (w : Wrd 8 s) {j : Nat} (h : j < s.size) : (42 : UInt8) ≠ byteAt s j := fun e => by
  have h' : j < s.data.size := h
  have : byteAt s j = s.data[j] := by unfold byteAt; simp [h']; rw [Array.getElem?_eq_getElem h']; rfl
  rw [this] at e
  exact w.2 _ (by simp) e.symm
theorem ends_toZ {t s : ByteArray} {o : List Pc} (e : readP t = some o) {i : Nat} {z : Int} (hz : (i : Int) = z) {h : AH} (hi : i ≤ s.size) (hs : s.size ≤ 100000) (ht : t.size ≤ maxLen) {K : Value → AH → Prop}
    (hk : ∀ v h', RdV h' v 1 encNa (ml o s (o.length - 1) i) → Pre h h' → K v h') : CC Try.prog 14 [.string t, .string s, .int .i64 z] h K := by
  subst hz
  exact ends_to e hi hs ht hk
theorem law_Bytes (A : Option Addr) (c : Nat) (l : List Nat) (h : AH) (hR : RdE h A 1 byV l) (hl : ∀ n ∈ l, n < 256) (hn : l.length ≤ 1048576) : CE Try.prog 8 [.slice A l.length c] h fun v _ => v = .bool true := by
  have hml := maxLen_eq
  refine CE.withBig (fun big => ?_)
  refine CE.ofN Try.func8 Try.ntmps8 Try.results8 rfl (by kernel_rfl) ?_
  simp (maxSteps := 1000000) -implicitDefEqProofs only [push_cast, seval]
  with_reducible refine CD.to (big_c A l.length c h) ?_
  simp (maxSteps := 1000000) -implicitDefEqProofs only [push_cast, seval]
  have nb : decide ((1048576 : Int) < l.length) = false := decide_eq_false (by omega)
  simp (maxSteps := 1000000) -implicitDefEqProofs only [push_cast, seval, nb]
  with_reducible refine CC.mono (DrawPlaces_c A c l h hR hl hn) (fun v h1 hv => ?_)
  have p1 := hv.2
  have hps := hv.1
  clear hv
  with_reducible refine Exists.elim hps (fun ps hps => ?_)
  have plen := hps.1
  have plt := hps.2.1
  have rp := hps.2.2
  clear hps
  have yv := rp.one
  simp (maxSteps := 1000000) -implicitDefEqProofs only [push_cast, seval]
  with_reducible refine DrawPatterns_to (hR.pre big p1) hl hn (fun a b s h2 ha hb hs p2 => ?_)
  have zs := hs.1
  have rl : ∃ X : Nat, X < 10000 ∧ ∃ id off c, v = .slice (some ⟨id, off, none⟩) ps.length c ∧ id < h2.n ∧ rd h2 id (off + 0 * 1) 1 = some (encNa X) := by
    refine ⟨ps[0], plt _ (List.getElem_mem _), (rp.pre p2).el (fun _ => rfl) (show 0 < ps.length by omega)⟩
  with_reducible refine Exists.elim rl (fun X rl => ?_)
  have hX := rl.1
  have rl := rl.2
  with_reducible refine Exists.elim rl (fun id rl => ?_)
  with_reducible refine Exists.elim rl (fun off rl => ?_)
  with_reducible refine Exists.elim rl (fun cc rl => ?_)
  have erv := rl.1
  have hlt := rl.2.1
  have hrd := rl.2.2
  clear rl
  subst erv
  simp only [encNa, Nat.zero_mul, Nat.add_zero] at hrd
  have r0 := rd_1 hrd
  have tm : (X : Int).tmod 4 = ((X % 4 : Nat) : Int) := by rw [Int.tmod_eq_emod_of_nonneg (by omega)]; rfl
  have hr := Nat.mod_lt X (show 0 < 4 by omega)
  have w1 : IntKind.i64.wrap (97 + ((X % 4 : Nat) : Int)) = ((97 + X % 4 : Nat) : Int) := by rw [w64 (by omega) (by omega)]; omega
  have w2 : IntKind.u8.wrap ((97 + X % 4 : Nat) : Int) = ((97 + X % 4 : Nat) : Int) := w8 (by omega) (by omega)
  have rb := one_byte (X % 4) hr
  generalize X % 4 = r at *
  with_reducible refine nameN (97 + r) (fun N hN => ?_)
  rw [← hN] at w1 w2 rb
  simp (maxSteps := 1000000) -implicitDefEqProofs only [push_cast, seval, plen, tm, w1, w2, r0, hlt]
  with_reducible refine ReadPattern_to rb (by have : (⟨#[UInt8.ofNat N]⟩ : ByteArray).size = 1 := rfl; omega) (fun rv L h3 eL w p3 => ?_)
  have u := w.r.one
  have yy := w.r.cell1
  simp (maxSteps := 1000000) -implicitDefEqProofs only [push_cast, seval, u, yy, all1]
  have pz : Pre h3 ((h3.alloc (.cells [.slice none 0 0] .solo h3.n)).set h3.n (.cells [rv] .solo h3.n)) := ((Pre.refl h3).alloc _).set (Nat.le_refl _) _
  generalize ((h3.alloc (.cells [.slice none 0 0] .solo h3.n)).set h3.n (.cells [rv] .solo h3.n)) = h4 at *
  with_reducible refine find_to rb eL (w.pre pz) (by omega) (fun v h5 q p5 => ?_)
  have q := find_byte rb q
  have hC : UInt8.ofNat N ≠ 0 ∨ True := .inr trivial
  generalize UInt8.ofNat N = C at *
  have fin : ∃ b : Bool, ∃ x y : Int, v = .tuple #[.int .i64 x, .int .i64 y, .bool b] ∧ ((b = true ∧ ∃ i : Nat, x = i ∧ y = ((i + 1 : Nat) : Int) ∧ i < s.size ∧ C = byteAt s i ∧ ∀ j, j < i → C ≠ byteAt s j) ∨ (b = false ∧ ∀ j, j < s.size → C ≠ byteAt s j)) := by
    rcases q with ⟨i, h1, h2, h3, e⟩ | ⟨h1, e⟩
    · exact ⟨true, _, _, e, .inl ⟨rfl, i, rfl, rfl, h1, h2, h3⟩⟩
    · exact ⟨false, _, _, e, .inr ⟨rfl, h1⟩⟩
  with_reducible refine Exists.elim fin (fun fb fin => ?_)
  with_reducible refine Exists.elim fin (fun fx fin => ?_)
  with_reducible refine Exists.elim fin (fun fy fin => ?_)
  have ev := fin.1
  have fq := fin.2
  clear fin q
  subst ev
  simp (maxSteps := 1000000) -implicitDefEqProofs only [push_cast, seval]
  refine WC.loopA (by kernel_rfl) [13, 14] [56, 57, 58, 59, 60, 61, 62, 63, 64, 65, 66, 67] (fun a : Int × Int => [.int .i64 a.2, .int .i64 a.1]) (fun a h' => (-1 ≤ a.1 ∧ a.1 < s.size ∧ Fst s C a.1 a.2) ∧ Pre h5 h') (fun a => (a.1 + 1).toNat) (IntKind.i64.wrap ((s.size : Int) - 1), -1) (by kernel_rfl) ⟨?_, Pre.refl _⟩ ?_
  · show -1 ≤ IntKind.i64.wrap ((s.size : Int) - 1) ∧ IntKind.i64.wrap ((s.size : Int) - 1) < s.size ∧ Fst s C (IntKind.i64.wrap ((s.size : Int) - 1)) (-1)
    rw [w64 (by omega) (by omega)]
    exact ⟨by omega, by omega, .inl ⟨rfl, fun j h1 h2 => by omega⟩⟩
  intro a g h6 hJ
  have a1 := hJ.1.1
  have a2 := hJ.1.2.1
  have a3 := hJ.1.2.2
  have p6 := hJ.2
  clear hJ
  simp (maxSteps := 1000000) -implicitDefEqProofs only [push_cast, seval]
  with_reducible refine bcase_d (fun hb1 => ?_) (fun hb1 => ?_)
  · have hk : ∃ k : Nat, a.1 = k := ⟨a.1.toNat, by omega⟩
    with_reducible refine Exists.elim hk (fun k hk => ?_)
    rw [hk] at a2 a3
    have hk' : k < s.size := by omega
    have ws : IntKind.i64.wrap ((k : Int) + 1) = ((k + 1 : Nat) : Int) := wrapSucc (by omega)
    have wp : IntKind.i64.wrap ((k : Int) - 1) = (k : Int) - 1 := w64 (by omega) (by omega)
    have ee := sub_byte (s := s) (c := C) hk'
    simp (maxSteps := 1000000) -implicitDefEqProofs only [push_cast, seval, hk, ws, wp]
    repeat (with_reducible refine And.intro ?_ ?_; · (first | omega | decide))
    with_reducible refine bcase_d (fun hx => ?_) (fun hx => ?_)
    · simp (maxSteps := 1000000) -implicitDefEqProofs only [push_cast, seval, hk, ws, wp]
      exact ⟨((k : Int) - 1, (k : Int)), by kernel_rfl, ⟨⟨by show -1 ≤ (k : Int) - 1; omega, by show (k : Int) - 1 < s.size; omega, a3.yes hk' (ee.1 hx)⟩, p6⟩, by show ((k : Int) - 1 + 1).toNat < ((k : Int) + 1).toNat; omega⟩
    · simp (maxSteps := 1000000) -implicitDefEqProofs only [push_cast, seval, hk, ws, wp]
      exact ⟨((k : Int) - 1, a.2), by kernel_rfl, ⟨⟨by show -1 ≤ (k : Int) - 1; omega, by show (k : Int) - 1 < s.size; omega, a3.no (fun e => hx (ee.2 e))⟩, p6⟩, by show ((k : Int) - 1 + 1).toNat < ((k : Int) + 1).toNat; omega⟩
  · have ha1 : a.1 = -1 := by omega
    rw [ha1] at a3
    have fq2 : (fb = true ∧ ∃ i : Nat, fx = i ∧ fy = ((i + 1 : Nat) : Int) ∧ a.2 = i ∧ i < s.size) ∨ (fb = false ∧ a.2 = -1) := by
      rcases fq with ⟨e1, i, e2, e3, b1, b2, b3⟩ | ⟨e1, b1⟩
      · refine .inl ⟨e1, i, e2, e3, ?_, b1⟩
        rcases a3 with ⟨_, d⟩ | ⟨k, d1, d2, d3, d4, d5⟩
        · exact absurd b2 (d i (by omega) b1)
        · have : k = i := by
            by_cases h1 : k < i
            · exact absurd d4 (b3 k h1)
            · by_cases h2 : i < k
              · exact absurd b2 (d5 i (by omega) h2)
              · omega
          rw [d1, this]
      · refine .inr ⟨e1, ?_⟩
        rcases a3 with ⟨d, _⟩ | ⟨k, d1, d2, d3, d4, d5⟩
        · exact d
        · exact absurd d4 (b1 k d3)
    clear fq a3
    simp (maxSteps := 1000000) -implicitDefEqProofs only [push_cast, seval]
    with_reducible refine ReadPattern_to rp_star (by have : (⟨#[92, 42]⟩ : ByteArray).size = 2 := rfl; omega) (fun rw2 L2 h7 eL2 w2' p7 => ?_)
    have u2 := w2'.r.one
    have yy2 := w2'.r.cell1
    simp (maxSteps := 1000000) -implicitDefEqProofs only [push_cast, seval, u2, yy2, all1]
    have pz2 : Pre h7 ((h7.alloc (.cells [.slice none 0 0] .solo h7.n)).set h7.n (.cells [rw2] .solo h7.n)) := ((Pre.refl h7).alloc _).set (Nat.le_refl _) _
    have e8 : ((h7.alloc (.cells [.slice none 0 0] .solo h7.n)).set h7.n (.cells [rw2] .solo h7.n)).ob h7.n = AOb.cells [rw2] .solo h7.n := set_same _ _
    have n8 : ((h7.alloc (.cells [.slice none 0 0] .solo h7.n)).set h7.n (.cells [rw2] .solo h7.n)).n = h7.n + 1 := rfl
    generalize ((h7.alloc (.cells [.slice none 0 0] .solo h7.n)).set h7.n (.cells [rw2] .solo h7.n)) = h8 at *
    have z2 : (⟨#[97, 42]⟩ : ByteArray).size = 2 := rfl
    with_reducible refine find_to rp_star eL2 (w2'.pre pz2) (by omega) (fun v h9 q p9 => ?_)
    have q1 : ∃ x y, v = .tuple #[.int .i64 x, .int .i64 y, .bool true] := by
      rcases find_byte rp_star q with ⟨i, _, _, _, e⟩ | ⟨b1, _⟩
      · exact ⟨_, _, e⟩
      · exact absurd (by decide) (b1 1 (by omega))
    clear q
    with_reducible refine Exists.elim q1 (fun x1 q1 => ?_)
    with_reducible refine Exists.elim q1 (fun y1 q1 => ?_)
    subst q1
    have e9 : h9.ob h7.n = _ := (p9.ob _ (by omega)).trans e8
    have l9 : h7.n < h9.n := by have := p9.n; omega
    simp (maxSteps := 1000000) -implicitDefEqProofs only [push_cast, seval, e9, rd_of e9, rd1_of e9, l9, u2, yy2]
    with_reducible refine find_to rp_star eL2 ((w2'.pre pz2).pre p9) (by omega) (fun v h10 q p10 => ?_)
    have q1 : ∃ x y, v = .tuple #[.int .i64 x, .int .i64 y, .bool false] := by
      rcases find_byte rp_star q with ⟨i, h1, h2, _, e⟩ | ⟨b1, e⟩
      · exact absurd h2 (no_star hs h1)
      · exact ⟨_, _, e⟩
    clear q
    with_reducible refine Exists.elim q1 (fun x2 q1 => ?_)
    with_reducible refine Exists.elim q1 (fun y2 q1 => ?_)
    subst q1
    simp (maxSteps := 1000000) -implicitDefEqProofs only [push_cast, seval]
    have z3 : (⟨#[94]⟩ : ByteArray).size = 1 := rfl
    have z4 : (⟨#[36]⟩ : ByteArray).size = 1 := rfl
    with_reducible refine Or.elim fq2 (fun c1 => ?_) (fun c1 => ?_)
    · have c2 := c1.2
      with_reducible refine Exists.elim c2 (fun i c2 => ?_)
      have d0 := c1.1
      have d1 := c2.1
      have d2 := c2.2.1
      have d3 := c2.2.2.1
      have di := c2.2.2.2
      clear c1 c2 fq2
      subst d0 d1 d2
      have d4 : decide ((0 : Int) ≤ a.2) = true := decide_eq_true (by omega)
      have d5 : decide ((i : Int) = a.2) = true := decide_eq_true (by omega)
      have d6 : decide ((i : Int) + 1 = IntKind.i64.wrap ((i : Int) + 1)) = true := decide_eq_true (by
        rw [wrapSucc (by omega)]; omega)
      simp (maxSteps := 1000000) -implicitDefEqProofs only [push_cast, seval, d4, d5, d6, beq_self_eq_true]
      with_reducible refine ends_toZ (i := 0) (z := 0) rp_begin rfl (by omega) (by omega) (by omega) (fun vb h11 rb1 p11 => ?_)
      rw [show ([⟨10, ⟨#[]⟩, []⟩] : List Pc).length - 1 = 0 from rfl, ml_begin] at rb1
      simp (maxSteps := 1000000) -implicitDefEqProofs only [push_cast, seval]
      with_reducible refine CD.to (sameInts_c [0] [0] _ _ _ (rb1.pre ((Pre.refl _).alloc _)) ((Gr.new (n0 := h11.n) (Nat.le_refl _) [.int .i64 0] 1 1 rfl).rdv (enc := encNa) (l := [0]) (by decide) (fun _ => rfl)) (by decide) (by decide)) ?_
      have dd : decide ([0] = ([0] : List Nat)) = true := by decide
      simp (maxSteps := 1000000) -implicitDefEqProofs only [push_cast, seval, dd]
      with_reducible refine bcase_d (fun hz => ?_) (fun hz => ?_)
      · simp (maxSteps := 1000000) -implicitDefEqProofs only [push_cast, seval]
        with_reducible refine ends_to (i := s.size) rp_end (by omega) (by omega) (by omega) (fun ve h13 re p13 => ?_)
        rw [show ([⟨11, ⟨#[]⟩, []⟩] : List Pc).length - 1 = 0 from rfl, ml_end] at re
        simp (maxSteps := 1000000) -implicitDefEqProofs only [push_cast, seval]
        with_reducible refine CD.to (sameInts_c [s.size] [s.size] _ _ _ (re.pre ((Pre.refl _).alloc _)) ((Gr.new (n0 := h13.n) (Nat.le_refl _) [.int .i64 (s.size : Nat)] 1 1 rfl).rdv (enc := encNa) (l := [s.size]) (by decide) (fun _ => rfl)) (by rw [List.length_singleton]; decide) (by rw [List.length_singleton]; decide)) ?_
        have dd2 : decide ([s.size] = [s.size]) = true := decide_eq_true rfl
        simp (maxSteps := 1000000) -implicitDefEqProofs only [push_cast, seval, dd2]
      · simp (maxSteps := 1000000) -implicitDefEqProofs only [push_cast, seval]
        with_reducible refine ends_toZ (i := 1) (z := 1) rp_begin rfl (by omega) (by omega) (by omega) (fun vc h12 rc1 p12 => ?_)
        rw [show ([⟨10, ⟨#[]⟩, []⟩] : List Pc).length - 1 = 0 from rfl, ml_begin1 (by omega)] at rc1
        have rcf := rc1.rde (fun _ => rfl)
        with_reducible refine Exists.elim rcf (fun Ac rcf => ?_)
        with_reducible refine Exists.elim rcf (fun cc2 rcf => ?_)
        have erc := rcf.1
        clear rcf
        subst erc
        simp (maxSteps := 1000000) -implicitDefEqProofs only [push_cast, seval]
        with_reducible refine ends_to (i := s.size) rp_end (by omega) (by omega) (by omega) (fun ve h13 re p13 => ?_)
        rw [show ([⟨11, ⟨#[]⟩, []⟩] : List Pc).length - 1 = 0 from rfl, ml_end] at re
        simp (maxSteps := 1000000) -implicitDefEqProofs only [push_cast, seval]
        with_reducible refine CD.to (sameInts_c [s.size] [s.size] _ _ _ (re.pre ((Pre.refl _).alloc _)) ((Gr.new (n0 := h13.n) (Nat.le_refl _) [.int .i64 (s.size : Nat)] 1 1 rfl).rdv (enc := encNa) (l := [s.size]) (by decide) (fun _ => rfl)) (by rw [List.length_singleton]; decide) (by rw [List.length_singleton]; decide)) ?_
        have dd2 : decide ([s.size] = [s.size]) = true := decide_eq_true rfl
        simp (maxSteps := 1000000) -implicitDefEqProofs only [push_cast, seval, dd2]
    · have d0 := c1.1
      have d3 := c1.2
      clear c1 fq2
      subst d0
      have d4 : decide ((0 : Int) ≤ a.2) = false := decide_eq_false (by omega)
      simp (maxSteps := 1000000) -implicitDefEqProofs only [push_cast, seval, d4, beq_self_eq_true]
      with_reducible refine ends_toZ (i := 0) (z := 0) rp_begin rfl (by omega) (by omega) (by omega) (fun vb h11 rb1 p11 => ?_)
      rw [show ([⟨10, ⟨#[]⟩, []⟩] : List Pc).length - 1 = 0 from rfl, ml_begin] at rb1
      simp (maxSteps := 1000000) -implicitDefEqProofs only [push_cast, seval]
      with_reducible refine CD.to (sameInts_c [0] [0] _ _ _ (rb1.pre ((Pre.refl _).alloc _)) ((Gr.new (n0 := h11.n) (Nat.le_refl _) [.int .i64 0] 1 1 rfl).rdv (enc := encNa) (l := [0]) (by decide) (fun _ => rfl)) (by decide) (by decide)) ?_
      have dd : decide ([0] = ([0] : List Nat)) = true := by decide
      simp (maxSteps := 1000000) -implicitDefEqProofs only [push_cast, seval, dd]
      with_reducible refine bcase_d (fun hz => ?_) (fun hz => ?_)
      · simp (maxSteps := 1000000) -implicitDefEqProofs only [push_cast, seval]
        with_reducible refine ends_to (i := s.size) rp_end (by omega) (by omega) (by omega) (fun ve h13 re p13 => ?_)
        rw [show ([⟨11, ⟨#[]⟩, []⟩] : List Pc).length - 1 = 0 from rfl, ml_end] at re
        simp (maxSteps := 1000000) -implicitDefEqProofs only [push_cast, seval]
        with_reducible refine CD.to (sameInts_c [s.size] [s.size] _ _ _ (re.pre ((Pre.refl _).alloc _)) ((Gr.new (n0 := h13.n) (Nat.le_refl _) [.int .i64 (s.size : Nat)] 1 1 rfl).rdv (enc := encNa) (l := [s.size]) (by decide) (fun _ => rfl)) (by rw [List.length_singleton]; decide) (by rw [List.length_singleton]; decide)) ?_
        have dd2 : decide ([s.size] = [s.size]) = true := decide_eq_true rfl
        simp (maxSteps := 1000000) -implicitDefEqProofs only [push_cast, seval, dd2]
      · simp (maxSteps := 1000000) -implicitDefEqProofs only [push_cast, seval]
        with_reducible refine ends_toZ (i := 1) (z := 1) rp_begin rfl (by omega) (by omega) (by omega) (fun vc h12 rc1 p12 => ?_)
        rw [show ([⟨10, ⟨#[]⟩, []⟩] : List Pc).length - 1 = 0 from rfl, ml_begin1 (by omega)] at rc1
        have rcf := rc1.rde (fun _ => rfl)
        with_reducible refine Exists.elim rcf (fun Ac rcf => ?_)
        with_reducible refine Exists.elim rcf (fun cc2 rcf => ?_)
        have erc := rcf.1
        clear rcf
        subst erc
        simp (maxSteps := 1000000) -implicitDefEqProofs only [push_cast, seval]
        with_reducible refine ends_to (i := s.size) rp_end (by omega) (by omega) (by omega) (fun ve h13 re p13 => ?_)
        rw [show ([⟨11, ⟨#[]⟩, []⟩] : List Pc).length - 1 = 0 from rfl, ml_end] at re
        simp (maxSteps := 1000000) -implicitDefEqProofs only [push_cast, seval]
        with_reducible refine CD.to (sameInts_c [s.size] [s.size] _ _ _ (re.pre ((Pre.refl _).alloc _)) ((Gr.new (n0 := h13.n) (Nat.le_refl _) [.int .i64 (s.size : Nat)] 1 1 rfl).rdv (enc := encNa) (l := [s.size]) (by decide) (fun _ => rfl)) (by rw [List.length_singleton]; decide) (by rw [List.length_singleton]; decide)) ?_
        have dd2 : decide ([s.size] = [s.size]) = true := decide_eq_true rfl
        simp (maxSteps := 1000000) -implicitDefEqProofs only [push_cast, seval, dd2]
theorem law_Bytes0 (A : Option Addr) (c : Nat) (l : List Nat) (h : AH) (hR : RdE h A 1 byV l) (hl : ∀ n ∈ l, n < 256) (hn : l.length ≤ maxLen) : CE Try.prog 8 [.slice A l.length c] h fun v _ => v = .bool true := by
  by_cases hb : l.length ≤ 1048576
  · exact law_Bytes A c l h hR hl hb
  refine CE.ofN Try.func8 Try.ntmps8 Try.results8 rfl (by kernel_rfl) ?_
  simp (maxSteps := 1000000) -implicitDefEqProofs only [push_cast, seval]
  with_reducible refine CD.to (big_c A l.length c h) ?_
  have nb : decide ((1048576 : Int) < l.length) = true := decide_eq_true (by omega)
  simp (maxSteps := 1000000) -implicitDefEqProofs only [push_cast, seval, nb]
end Go.Proofs.Ytciajhpeikemoaa
