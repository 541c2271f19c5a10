/- A part of the proof of the row: contracts of functions that it reaches. Conditions: those that each theorem names. -/
import Derived.Test.YtfbcedjheempfaaL18
namespace Go.Proofs.Ytfbcedjheempfaa
open Go Go.Sim Go.Proofs
set_option linter.unusedSimpArgs false
set_option linter.unusedVariables false
set_option maxRecDepth 100000
set_option maxHeartbeats 1000000
theorem law_StoreText (s : Store) (A B : Option Addr) (ca cb : Nat) (h : AH) (hR : RdS h A B s) (hz0 : SzA s) (big : Big h) : CE Try.prog 9 [.agg #[.slice A s.vars.length ca, .slice B s.cells.length cb, .string s.out]] h fun v _ => v = .bool true := by
  have pb : Pre h (h.alloc (AOb.cells [Value.slice A s.vars.length ca, Value.slice B s.cells.length cb, Value.string s.out] Stat.solo h.n)) := (Pre.refl _).alloc _
  have r1 : RdS (h.alloc (AOb.cells [Value.slice A s.vars.length ca, Value.slice B s.cells.length cb, Value.string s.out] Stat.solo h.n)) A B s := ⟨hR.vars.pre big pb, hR.cells.pre big pb⟩
  have hS := szStore_c s A B ca cb 1048576 _ r1 hz0 (by omega)
  refine CE.ofN Try.func9 Try.ntmps9 Try.results9 rfl (by kernel_rfl) ?_
  simp -implicitDefEqProofs only [push_cast, seval]
  repeat' (first | with_reducible (first | exact Keep.refl _ _ | assumption | exact byte_lt _ _ | apply Keep.alloc | (refine Keep.set ?_ ?_; rotate_left; · omega) | apply Pre.alloc | apply Pre.set | exact Pre.refl _ | exact le_alloc _ | (refine Pre.keep ?_; assumption) | (refine Pre.n ?_; assumption)) | ((with_reducible (first | refine CD.to (hS) ?_ | refine CQ.pure (fun _ => hS) ?_ | refine bcase_d (fun hb => ?_) (fun hb => ?_) | refine bcase_mk (fun hb => ?_) (fun hb => ?_))) <;> try simp -implicitDefEqProofs only [push_cast, seval]) | with_reducible refine And.intro ?_ ?_ | omega | (simp only [alloc_n, set_n, kill_n]; omega) | (exfalso; omega))
  have hz : Sz s := hz0.sz (by
    have e : ¬ ((1048576 : Int) - storeW s < 0) := fun e => hb (by rw [if_pos e]; decide)
    omega)
  with_reducible refine CC.mono (toStore_c s A B ca cb _ r1 hz) (fun v h1 hv => ?_)
  with_reducible refine Exists.elim hv (fun A1 hv => ?_)
  with_reducible refine Exists.elim hv (fun B1 hv => ?_)
  have e1 := hv.1
  have f1 := hv.2.1
  have p1 := hv.2.2
  clear hv
  subst e1
  have q1 : Pre h h1 := pb.trans p1
  have l1 : h.n < h1.n := Nat.lt_of_lt_of_le (lt_alloc _) p1.n
  have o1 : h1.ob h.n = _ := (p1.ob _ (lt_alloc _)).trans (alloc_same _)
  have hT := StoreText_s s A1 B1 2 3 _ (f1 _ (Pre.refl _)) hz
  simp -implicitDefEqProofs only [push_cast, seval, rd_of o1, rd1_of o1, l1]
  repeat' (first | with_reducible (first | exact Keep.refl _ _ | assumption | exact byte_lt _ _ | apply Keep.alloc | (refine Keep.set ?_ ?_; rotate_left; · omega) | apply Pre.alloc | apply Pre.set | exact Pre.refl _ | exact le_alloc _ | (refine Pre.keep ?_; assumption) | (refine Pre.n ?_; assumption)) | ((with_reducible (first | refine CD.to (hT) ?_ | refine CQ.pure (fun _ => hT) ?_ | refine bcase_d (fun hb => ?_) (fun hb => ?_) | refine bcase_mk (fun hb => ?_) (fun hb => ?_))) <;> try simp -implicitDefEqProofs only [push_cast, seval, rd_of o1, rd1_of o1, l1]) | with_reducible refine And.intro ?_ ?_ | omega | (simp only [alloc_n, set_n, kill_n]; omega) | (exfalso; omega))
  have r2 : RdS h1 A B s := ⟨hR.vars.pre big q1, hR.cells.pre big q1⟩
  with_reducible refine CC.mono (toStore_c s A B ca cb _ r2 hz) (fun v h2 hv => ?_)
  with_reducible refine Exists.elim hv (fun A2 hv => ?_)
  with_reducible refine Exists.elim hv (fun B2 hv => ?_)
  have e1 := hv.1
  have f2 := hv.2.1
  have p2 := hv.2.2
  clear hv
  subst e1
  have q2 : Pre h h2 := q1.trans p2
  have l2 : h.n < h2.n := Nat.lt_of_lt_of_le l1 p2.n
  have o2 : h2.ob h.n = _ := (p2.ob _ l1).trans o1
  have t2 : Pre h2 ((h2.alloc (AOb.cells [Value.slice none 0 0, Value.slice none 0 0, Value.string ⟨#[]⟩] Stat.solo h2.n)).set h2.n (AOb.cells [Value.slice A2 s.vars.length 2, Value.slice B2 s.cells.length 3, Value.string s.out] Stat.solo h2.n)) := ((Pre.refl _).alloc _).set (Nat.le_refl _) _
  have hU := StoreText_i s A2 B2 2 3 _ (f2 _ t2) hz
  simp -implicitDefEqProofs only [push_cast, seval, rd_of o2, rd1_of o2, l2]
  repeat' (first | with_reducible (first | exact Keep.refl _ _ | assumption | exact byte_lt _ _ | apply Keep.alloc | (refine Keep.set ?_ ?_; rotate_left; · omega) | apply Pre.alloc | apply Pre.set | exact Pre.refl _ | exact le_alloc _ | (refine Pre.keep ?_; assumption) | (refine Pre.n ?_; assumption)) | ((with_reducible (first | refine CD.to (hU) ?_ | refine CQ.pure (fun _ => hU) ?_ | refine bcase_d (fun hb => ?_) (fun hb => ?_) | refine bcase_mk (fun hb => ?_) (fun hb => ?_))) <;> try simp -implicitDefEqProofs only [push_cast, seval, rd_of o2, rd1_of o2, l2]) | with_reducible refine And.intro ?_ ?_ | omega | (simp only [alloc_n, set_n, kill_n]; omega) | (exfalso; omega))
  rotate_left
  · simp at hb
  refine WC.draw' (by kernel_rfl) (by kernel_rfl) (.q 0 (.q 1 (.a 2 false (.a 3 false (.q 4 (.done)))))) (by kernel_rfl) ?_
  simp -implicitDefEqProofs only [push_cast, seval, rd_of o2, rd1_of o2, l2]
  have q3 := q2.trans t2
  have r3 := (show RdS _ A B s from ⟨hR.vars.pre big q3, hR.cells.pre big q3⟩)
  with_reducible refine CC.mono (toStore_c s A B ca cb _ r3 hz) (fun v h3 hv => ?_)
  with_reducible refine Exists.elim hv (fun A3 hv => ?_)
  with_reducible refine Exists.elim hv (fun B3 hv => ?_)
  have e1 := hv.1
  have f3 := hv.2.1
  have p3 := hv.2.2
  clear hv
  subst e1
  have l3 : h2.n < h3.n := Nat.lt_of_lt_of_le (Nat.lt_succ_self h2.n) p3.n
  have k3 : h3.ob h2.n = AOb.cells [Value.slice A2 s.vars.length 2, Value.slice B2 s.cells.length 3, Value.string s.out] Stat.solo h2.n := (p3.ob _ (by show h2.n < h2.n + 1; omega)).trans (set_same _ _)
  have hE := eqStore_c s s A2 B2 A3 B3 2 3 2 3 h3 (f2 _ (t2.trans p3)) (f3 _ (Pre.refl _)) hz hz
  simp -implicitDefEqProofs only [push_cast, seval, k3, rd_of k3, rd1_of k3, l3]
  have l4 := p3.ob h.n (show h.n < h2.n + 1 by omega)
  with_reducible refine And.intro l4 ?_
  repeat' (first | with_reducible (first | exact Keep.refl _ _ | assumption | exact byte_lt _ _ | apply Keep.alloc | (refine Keep.set ?_ ?_; rotate_left; · omega) | apply Pre.alloc | apply Pre.set | exact Pre.refl _ | exact le_alloc _ | (refine Pre.keep ?_; assumption) | (refine Pre.n ?_; assumption)) | ((with_reducible (first | refine CD.to (hE) ?_ | refine CQ.pure (fun _ => hE) ?_ | refine bcase_d (fun hb => ?_) (fun hb => ?_) | refine bcase_mk (fun hb => ?_) (fun hb => ?_))) <;> try simp -implicitDefEqProofs only [push_cast, seval]) | with_reducible refine And.intro ?_ ?_ | omega | (simp only [alloc_n, set_n, kill_n]; omega) | (exfalso; omega))
end Go.Proofs.Ytfbcedjheempfaa
