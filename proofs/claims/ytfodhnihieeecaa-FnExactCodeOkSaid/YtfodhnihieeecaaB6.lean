/- Parts of the proof of the row: the ground, contracts of the functions that it reaches (L80). Conditions: those that each theorem names. -/
import Derived.Test.YtfodhnihieeecaaB5
namespace Go.Proofs.Ytfodhnihieeecaa
open Go Go.Sim Go.Proofs
set_option linter.unusedSimpArgs false
set_option linter.unusedVariables false
set_option maxRecDepth 100000
set_option maxHeartbeats 1000000
theorem law_CodeText (c : Cod) (vA vB : Value) (h : AH) (r : RdC h vA vB c) (hz : SzC c) (big : Big h) : CE Try.prog 5 [.agg #[vA, vB, .int .i64 c.bgn, .int .i64 c.line, .int .i64 c.fin]] h fun v _ => v = .bool true := by
  have y1 := r.texts.one
  have y2 := rdv_cells r.texts
  have y3 := r.list.one
  have y4 := rdv_cells r.list
  have pb : Pre h (h.alloc (.cells [vA, vB, .int .i64 c.bgn, .int .i64 c.line, .int .i64 c.fin] .solo h.n)) := (Pre.refl _).alloc _
  have hS := szCode_c c vA vB 1048576 _ (r.pre pb) hz (by omega)
  obtain ⟨V0, eV⟩ : ∃ V0, codeV c = .tuple #[.string V0, .bool (codeOk c)] := ⟨_, rfl⟩
  refine CE.ofN Try.func5 Try.ntmps5 Try.results5 rfl (by kernel_rfl) ?_
  simp (maxSteps := 1000000) -implicitDefEqProofs only [push_cast, seval, y1, y2, y3, y4]
  repeat (with_reducible refine And.intro ?_ ?_; · (first | omega | decide))
  with_reducible refine CD.to hS ?_
  simp (maxSteps := 1000000) -implicitDefEqProofs only [push_cast, seval]
  with_reducible refine bcase_d (fun hb => ?_) (fun hb => ?_)
  · simp (maxSteps := 1000000) -implicitDefEqProofs only [push_cast, seval]
  have hw : codeW c ≤ 1048576 := by
    by_cases e : (1048576 : Int) - codeW c < 0
    · exact absurd (by rw [if_pos e]; decide) hb
    · omega
  have hsm := SzC.small hw
  simp (maxSteps := 1000000) -implicitDefEqProofs only [push_cast, seval, y1, y2, y3, y4]
  with_reducible refine CC.mono (toCode_c c vA vB _ (r.pre pb) (by omega) (by omega)) (fun v h1 hv => ?_)
  with_reducible refine Exists.elim hv (fun A1 hw1 => ?_)
  with_reducible refine Exists.elim hw1 (fun B1 hw2 => ?_)
  have e1 := hw2.1
  have r1 := hw2.2.1
  have p1 := hw2.2.2
  clear hv hw1 hw2
  subst e1
  have q1 : Pre h h1 := pb.trans p1
  have l1 : h.n < h1.n := Nat.lt_of_lt_of_le (lt_alloc _) p1.n
  have o1 : h1.ob h.n = _ := (p1.ob _ (lt_alloc _)).trans (alloc_same _)
  simp (maxSteps := 1000000) -implicitDefEqProofs only [push_cast, seval, o1, rd_of o1, rd1_of o1, l1]
  with_reducible refine CD.to (CodeText_s c A1 B1 _ r1 hsm.1 hsm.2 hz.texts) ?_
  rw [eV]
  simp (maxSteps := 1000000) -implicitDefEqProofs only [push_cast, seval, o1, rd_of o1, rd1_of o1, l1]
  with_reducible refine CC.mono (toCode_c c vA vB _ (r.pre q1) (by omega) (by omega)) (fun v h2 hv => ?_)
  with_reducible refine Exists.elim hv (fun A2 hw1 => ?_)
  with_reducible refine Exists.elim hw1 (fun B2 hw2 => ?_)
  have e1 := hw2.1
  have r2 := hw2.2.1
  have p2 := hw2.2.2
  clear hv hw1 hw2
  subst e1
  have q2 : Pre h h2 := q1.trans p2
  have l2 : h.n < h2.n := Nat.lt_of_lt_of_le l1 p2.n
  have o2 : h2.ob h.n = _ := (p2.ob _ l1).trans o1
  have z1 := r2.texts.one
  have z2 := rdv_cells r2.texts
  have z3 := r2.list.one
  have z4 := rdv_cells r2.list
  simp (maxSteps := 1000000) -implicitDefEqProofs only [push_cast, seval, o2, rd_of o2, rd1_of o2, l2, z1, z2, z3, z4]
  have p3 : Pre h2 ((h2.alloc (.cells [.slice none 0 0, .slice none 0 0, .int .i64 0, .int .i64 0, .int .i64 0] .solo h2.n)).set h2.n (.cells [A2, B2, .int .i64 c.bgn, .int .i64 c.line, .int .i64 c.fin] .solo h2.n)) := ((Pre.refl h2).alloc _).set (Nat.le_refl _) _
  have o3 : ((h2.alloc (.cells [.slice none 0 0, .slice none 0 0, .int .i64 0, .int .i64 0, .int .i64 0] .solo h2.n)).set h2.n (.cells [A2, B2, .int .i64 c.bgn, .int .i64 c.line, .int .i64 c.fin] .solo h2.n)).ob h2.n = AOb.cells [A2, B2, .int .i64 c.bgn, .int .i64 c.line, .int .i64 c.fin] .solo h2.n := set_same _ _
  have n3 : ((h2.alloc (.cells [.slice none 0 0, .slice none 0 0, .int .i64 0, .int .i64 0, .int .i64 0] .solo h2.n)).set h2.n (.cells [A2, B2, .int .i64 c.bgn, .int .i64 c.line, .int .i64 c.fin] .solo h2.n)).n = h2.n + 1 := rfl
  generalize ((h2.alloc (.cells [.slice none 0 0, .slice none 0 0, .int .i64 0, .int .i64 0, .int .i64 0] .solo h2.n)).set h2.n (.cells [A2, B2, .int .i64 c.bgn, .int .i64 c.line, .int .i64 c.fin] .solo h2.n)) = h3 at *
  have m3 : h2.n < h3.n := by omega
  have l3 : h.n < h3.n := by omega
  have o33 : h3.ob h.n = _ := (p3.ob _ l2).trans o2
  have q3 := q2.trans p3
  with_reducible refine CD.to (CodeText_i c A2 B2 _ (r2.pre p3) hsm.1 hsm.2 hz.texts) ?_
  rw [eV]
  simp (maxSteps := 1000000) -implicitDefEqProofs only [push_cast, seval, o3, rd_of o3, rd1_of o3, o33, rd_of o33, rd1_of o33, m3, l3, z1, z2, z3, z4]
  with_reducible refine bcase_mk (fun hb2 => ?_) (fun hb2 => ?_)
  rotate_left
  · simp at hb2
  simp (maxSteps := 1000000) -implicitDefEqProofs only [push_cast, seval]
  refine WC.draw' (by kernel_rfl) (by kernel_rfl) (.q 0 (.q 1 (.a 2 false (.a 3 false (.q 4 (.done)))))) (by kernel_rfl) ?_
  simp (maxSteps := 1000000) -implicitDefEqProofs only [push_cast, seval, o3, rd_of o3, rd1_of o3, o33, rd_of o33, rd1_of o33, m3, l3, z1, z2, z3, z4, y1, y2, y3, y4]
  with_reducible refine CC.mono (toCode_c c vA vB _ (r.pre q3) (by omega) (by omega)) (fun v h4 hv => ?_)
  with_reducible refine Exists.elim hv (fun A4 hw1 => ?_)
  with_reducible refine Exists.elim hw1 (fun B4 hw2 => ?_)
  have e1 := hw2.1
  have r4 := hw2.2.1
  have p4 := hw2.2.2
  clear hv hw1 hw2
  subst e1
  have o4 : h4.ob h2.n = _ := (p4.ob _ m3).trans o3
  have o44 : h4.ob h.n = _ := (p4.ob _ l3).trans o33
  have m4 : h2.n < h4.n := Nat.lt_of_lt_of_le m3 p4.n
  have x1 := r4.texts.one
  have x2 := rdv_cells r4.texts
  have x3 := r4.list.one
  have x4 := rdv_cells r4.list
  simp (maxSteps := 1000000) -implicitDefEqProofs only [push_cast, seval, o4, rd_of o4, rd1_of o4, o44, rd_of o44, rd1_of o44, o3, o33, m4, z1, z2, z3, z4, x1, x2, x3, x4]
  with_reducible refine CD.to (eqCode_c c A2 B2 A4 B4 h4 (r2.pre (p3.trans p4)) r4 (by omega) (by omega)) ?_
  simp (maxSteps := 1000000) -implicitDefEqProofs only [push_cast, seval, o4, rd_of o4, rd1_of o4, o44, rd_of o44, rd1_of o44, o3, o33, m4, z1, z2, z3, z4, x1, x2, x3, x4]
end Go.Proofs.Ytfodhnihieeecaa
