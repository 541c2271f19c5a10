/- A part of the proof of the row: contracts of functions that it reaches. Conditions: those that each theorem names. -/
import Derived.Test.YtfbcedjheempfaaL17
namespace Go.Proofs.Ytfbcedjheempfaa
open Go Go.Sim Go.Proofs
set_option linter.unusedSimpArgs false
set_option linter.unusedVariables false
set_option maxRecDepth 100000
set_option maxHeartbeats 1000000
theorem eqVar_c (a b : Var) (h : AH) : CD Try.prog 119 [.agg #[.string a.name, .string a.val], .agg #[.string b.name, .string b.val]] h (.bool (decide (a = b))) h := by
  refine CD.quiet ?_ (low_bool _ _)
  refine CC.ofN Try.func119 Try.ntmps119 Try.results119 rfl (by decide) (by kernel_rfl) ?_
  simp -implicitDefEqProofs only [push_cast, seval]
  repeat' (first | with_reducible (first | exact Keep.refl _ _ | assumption | exact byte_lt _ _ | apply Keep.alloc | (refine Keep.set ?_ ?_; rotate_left; · omega) | apply Pre.alloc | apply Pre.set | exact Pre.refl _ | exact le_alloc _ | (refine Pre.keep ?_; assumption) | (refine Pre.n ?_; assumption)) | ((with_reducible (first | refine bcase_d (fun hb => ?_) (fun hb => ?_) | refine bcase_mk (fun hb => ?_) (fun hb => ?_))) <;> try simp -implicitDefEqProofs only [push_cast, seval]) | with_reducible refine And.intro ?_ ?_ | omega | (simp only [alloc_n, set_n, kill_n]; omega) | (exfalso; omega))
  all_goals (obtain ⟨a1, a2⟩ := a; obtain ⟨b1, b2⟩ := b; simp_all [Var.mk.injEq])
theorem eqCell_c (a b : Cell) (h : AH) : CD Try.prog 120 [.agg #[.string a.name, .string a.key, .string a.val], .agg #[.string b.name, .string b.key, .string b.val]] h (.bool (decide (a = b))) h := by
  refine CD.quiet ?_ (low_bool _ _)
  refine CC.ofN Try.func120 Try.ntmps120 Try.results120 rfl (by decide) (by kernel_rfl) ?_
  simp -implicitDefEqProofs only [push_cast, seval]
  repeat' (first | with_reducible (first | exact Keep.refl _ _ | assumption | exact byte_lt _ _ | apply Keep.alloc | (refine Keep.set ?_ ?_; rotate_left; · omega) | apply Pre.alloc | apply Pre.set | exact Pre.refl _ | exact le_alloc _ | (refine Pre.keep ?_; assumption) | (refine Pre.n ?_; assumption)) | ((with_reducible (first | refine bcase_d (fun hb => ?_) (fun hb => ?_) | refine bcase_mk (fun hb => ?_) (fun hb => ?_))) <;> try simp -implicitDefEqProofs only [push_cast, seval]) | with_reducible refine And.intro ?_ ?_ | omega | (simp only [alloc_n, set_n, kill_n]; omega) | (exfalso; omega))
  all_goals (obtain ⟨a1, a2, a3⟩ := a; obtain ⟨b1, b2, b3⟩ := b; simp_all [Cell.mk.injEq])
theorem take_next {α : Type} {l m : List α} {i : Nat} (e : l.take i = m.take i) (hi : i < l.length) (hj : i < m.length) (h : l[i] = m[i]) : l.take (i + 1) = m.take (i + 1) := by
  rw [List.take_add_one, List.take_add_one, e, List.getElem?_eq_getElem hi, List.getElem?_eq_getElem hj, h]
theorem take_full {α : Type} {l m : List α} (e : l.take l.length = m.take l.length) (h : l.length = m.length) : l = m := by
  rw [List.take_length, h, List.take_length] at e; exact e
theorem eqVarS_c (l m : List Var) (A B : Option Addr) (ca cb : Nat) (h : AH) (hA : RdE h A 2 Var.enc l) (hB : RdE h B 2 Var.enc m) (hl : l.length < 274877906944) (hm : m.length < 274877906944) :
    CD Try.prog 85 [.slice A l.length ca, .slice B m.length cb] h (.bool (decide (l = m))) h := by
  refine CD.withBig (fun big => ?_)
  refine CD.quiet ?_ (low_bool _ _)
  refine CC.ofN Try.func85 Try.ntmps85 Try.results85 rfl (by decide) (by kernel_rfl) ?_
  simp -implicitDefEqProofs only [push_cast, seval]
  with_reducible refine bcase_d (fun hb => ?_) (fun hb => ?_)
  rotate_left
  · simp -implicitDefEqProofs only [push_cast, seval]
    repeat' (first | with_reducible (first | exact Keep.refl _ _ | assumption | exact byte_lt _ _ | apply Keep.alloc | (refine Keep.set ?_ ?_; rotate_left; · omega) | apply Pre.alloc | apply Pre.set | exact Pre.refl _ | exact le_alloc _ | (refine Pre.keep ?_; assumption) | (refine Pre.n ?_; assumption)) | ((with_reducible (first | refine bcase_d (fun hb => ?_) (fun hb => ?_) | refine bcase_mk (fun hb => ?_) (fun hb => ?_))) <;> try simp -implicitDefEqProofs only [push_cast, seval]) | with_reducible refine And.intro ?_ ?_ | omega | (simp only [alloc_n, set_n, kill_n]; omega) | (exfalso; omega))
    have : l ≠ m := fun e => hb (by rw [e])
    simp [this]
  have hlm : l.length = m.length := by omega
  simp -implicitDefEqProofs only [push_cast, seval]
  refine WC.loopA (by kernel_rfl) [5] [4, 11, 12, 13, 14, 15, 16, 17, 18, 19, 20, 21, 22, 23, 24, 25, 26] (fun a : Nat => [.int .i64 (a : Nat)]) (fun a h' => a ≤ l.length ∧ l.take a = m.take a ∧ Pre h h') (fun a => l.length - a) 0 (by kernel_rfl) ⟨Nat.zero_le _, by simp, Pre.refl _⟩ ?_
  intro a g h1 hJ
  have hi := hJ.1
  have he := hJ.2.1
  have hp := hJ.2.2
  clear hJ
  simp -implicitDefEqProofs only [push_cast, seval]
  with_reducible refine bcase_d (fun hb => ?_) (fun hb => ?_)
  · have hi' : a < l.length := by omega
    have hj' : a < m.length := by omega
    with_reducible refine hA.use big hp hi' (fun id off eA hlt hr => ?_)
    with_reducible refine hB.use big hp hj' (fun id2 off2 eB hlt2 hr2 => ?_)
    subst eA
    subst eB
    simp only [Var.enc] at hr hr2
    simp -implicitDefEqProofs only [push_cast, seval, hr, hlt, hr2, hlt2]
    refine WC.draw' (by kernel_rfl) (by kernel_rfl) (.q 0 (.q 1 (.q 2 (.q 3 (.q 4 (.q 5 (.q 6 (.q 7 (.c 8 (.q 9 (.done))))))))))) (by kernel_rfl) ?_
    simp -implicitDefEqProofs only [push_cast, seval, hr, hlt, hr2, hlt2]
    repeat' (first | with_reducible (first | exact Keep.refl _ _ | assumption | exact byte_lt _ _ | apply Keep.alloc | (refine Keep.set ?_ ?_; rotate_left; · omega) | apply Pre.alloc | apply Pre.set | exact Pre.refl _ | exact le_alloc _ | (refine Pre.keep ?_; assumption) | (refine Pre.n ?_; assumption)) | ((with_reducible (first | refine CD.to (eqVar_c _ _ _) ?_ | refine CQ.pure (fun _ => eqVar_c _ _ _) ?_ | refine bcase_d (fun hb => ?_) (fun hb => ?_) | refine bcase_mk (fun hb => ?_) (fun hb => ?_))) <;> try simp -implicitDefEqProofs only [push_cast, seval, hr, hlt, hr2, hlt2]) | with_reducible refine And.intro ?_ ?_ | omega | (simp only [alloc_n, set_n, kill_n]; omega) | (exfalso; omega))
    · rw [wrapSucc (by omega)]
      refine ⟨a + 1, by kernel_rfl, ⟨by show a + 1 ≤ l.length; omega, take_next he hi' hj' ?_, hp⟩, by show l.length - (a + 1) < l.length - a; omega⟩
      simpa using hb
    · have : l ≠ m := fun e => by subst e; simp at hb
      simp [this]
  · have hn : a = l.length := by omega
    subst hn
    simp -implicitDefEqProofs only [push_cast, seval]
    repeat' (first | with_reducible (first | exact Keep.refl _ _ | assumption | exact byte_lt _ _ | apply Keep.alloc | (refine Keep.set ?_ ?_; rotate_left; · omega) | apply Pre.alloc | apply Pre.set | exact Pre.refl _ | exact le_alloc _ | (refine Pre.keep ?_; assumption) | (refine Pre.n ?_; assumption)) | ((with_reducible (first | refine bcase_d (fun hb => ?_) (fun hb => ?_) | refine bcase_mk (fun hb => ?_) (fun hb => ?_))) <;> try simp -implicitDefEqProofs only [push_cast, seval]) | with_reducible refine And.intro ?_ ?_ | omega | (simp only [alloc_n, set_n, kill_n]; omega) | (exfalso; omega))
    have := take_full he hlm
    simp [this]
theorem eqCellS_c (l m : List Cell) (A B : Option Addr) (ca cb : Nat) (h : AH) (hA : RdE h A 3 Cell.enc l) (hB : RdE h B 3 Cell.enc m) (hl : l.length < 274877906944) (hm : m.length < 274877906944) :
    CD Try.prog 86 [.slice A l.length ca, .slice B m.length cb] h (.bool (decide (l = m))) h := by
  refine CD.withBig (fun big => ?_)
  refine CD.quiet ?_ (low_bool _ _)
  refine CC.ofN Try.func86 Try.ntmps86 Try.results86 rfl (by decide) (by kernel_rfl) ?_
  simp -implicitDefEqProofs only [push_cast, seval]
  with_reducible refine bcase_d (fun hb => ?_) (fun hb => ?_)
  rotate_left
  · simp -implicitDefEqProofs only [push_cast, seval]
    repeat' (first | with_reducible (first | exact Keep.refl _ _ | assumption | exact byte_lt _ _ | apply Keep.alloc | (refine Keep.set ?_ ?_; rotate_left; · omega) | apply Pre.alloc | apply Pre.set | exact Pre.refl _ | exact le_alloc _ | (refine Pre.keep ?_; assumption) | (refine Pre.n ?_; assumption)) | ((with_reducible (first | refine bcase_d (fun hb => ?_) (fun hb => ?_) | refine bcase_mk (fun hb => ?_) (fun hb => ?_))) <;> try simp -implicitDefEqProofs only [push_cast, seval]) | with_reducible refine And.intro ?_ ?_ | omega | (simp only [alloc_n, set_n, kill_n]; omega) | (exfalso; omega))
    have : l ≠ m := fun e => hb (by rw [e])
    simp [this]
  have hlm : l.length = m.length := by omega
  simp -implicitDefEqProofs only [push_cast, seval]
  refine WC.loopA (by kernel_rfl) [5] [4, 11, 12, 13, 14, 15, 16, 17, 18, 19, 20, 21, 22, 23, 24, 25, 26] (fun a : Nat => [.int .i64 (a : Nat)]) (fun a h' => a ≤ l.length ∧ l.take a = m.take a ∧ Pre h h') (fun a => l.length - a) 0 (by kernel_rfl) ⟨Nat.zero_le _, by simp, Pre.refl _⟩ ?_
  intro a g h1 hJ
  have hi := hJ.1
  have he := hJ.2.1
  have hp := hJ.2.2
  clear hJ
  simp -implicitDefEqProofs only [push_cast, seval]
  with_reducible refine bcase_d (fun hb => ?_) (fun hb => ?_)
  · have hi' : a < l.length := by omega
    have hj' : a < m.length := by omega
    with_reducible refine hA.use big hp hi' (fun id off eA hlt hr => ?_)
    with_reducible refine hB.use big hp hj' (fun id2 off2 eB hlt2 hr2 => ?_)
    subst eA
    subst eB
    simp only [Cell.enc] at hr hr2
    simp -implicitDefEqProofs only [push_cast, seval, hr, hlt, hr2, hlt2]
    refine WC.draw' (by kernel_rfl) (by kernel_rfl) (.q 0 (.q 1 (.q 2 (.q 3 (.q 4 (.q 5 (.q 6 (.q 7 (.c 8 (.q 9 (.done))))))))))) (by kernel_rfl) ?_
    simp -implicitDefEqProofs only [push_cast, seval, hr, hlt, hr2, hlt2]
    repeat' (first | with_reducible (first | exact Keep.refl _ _ | assumption | exact byte_lt _ _ | apply Keep.alloc | (refine Keep.set ?_ ?_; rotate_left; · omega) | apply Pre.alloc | apply Pre.set | exact Pre.refl _ | exact le_alloc _ | (refine Pre.keep ?_; assumption) | (refine Pre.n ?_; assumption)) | ((with_reducible (first | refine CD.to (eqCell_c _ _ _) ?_ | refine CQ.pure (fun _ => eqCell_c _ _ _) ?_ | refine bcase_d (fun hb => ?_) (fun hb => ?_) | refine bcase_mk (fun hb => ?_) (fun hb => ?_))) <;> try simp -implicitDefEqProofs only [push_cast, seval, hr, hlt, hr2, hlt2]) | with_reducible refine And.intro ?_ ?_ | omega | (simp only [alloc_n, set_n, kill_n]; omega) | (exfalso; omega))
    · rw [wrapSucc (by omega)]
      refine ⟨a + 1, by kernel_rfl, ⟨by show a + 1 ≤ l.length; omega, take_next he hi' hj' ?_, hp⟩, by show l.length - (a + 1) < l.length - a; omega⟩
      simpa using hb
    · have : l ≠ m := fun e => by subst e; simp at hb
      simp [this]
  · have hn : a = l.length := by omega
    subst hn
    simp -implicitDefEqProofs only [push_cast, seval]
    repeat' (first | with_reducible (first | exact Keep.refl _ _ | assumption | exact byte_lt _ _ | apply Keep.alloc | (refine Keep.set ?_ ?_; rotate_left; · omega) | apply Pre.alloc | apply Pre.set | exact Pre.refl _ | exact le_alloc _ | (refine Pre.keep ?_; assumption) | (refine Pre.n ?_; assumption)) | ((with_reducible (first | refine bcase_d (fun hb => ?_) (fun hb => ?_) | refine bcase_mk (fun hb => ?_) (fun hb => ?_))) <;> try simp -implicitDefEqProofs only [push_cast, seval]) | with_reducible refine And.intro ?_ ?_ | omega | (simp only [alloc_n, set_n, kill_n]; omega) | (exfalso; omega))
    have := take_full he hlm
    simp [this]
theorem eqStore_c (s t : Store) (A B C D : Option Addr) (ca cb cc cd : Nat) (h : AH) (hs : RdS h A B s) (ht : RdS h C D t) (zs : Sz s) (zt : Sz t) :
    CD Try.prog 43 [.agg #[.slice A s.vars.length ca, .slice B s.cells.length cb, .string s.out], .agg #[.slice C t.vars.length cc, .slice D t.cells.length cd, .string t.out]] h (.bool (decide (s = t))) h := by
  refine CD.withBig (fun big => ?_)
  refine CD.quiet ?_ (low_bool _ _)
  have pb : Pre h ((h.alloc (AOb.cells [Value.slice A s.vars.length ca, Value.slice B s.cells.length cb, Value.string s.out] Stat.solo h.n)).alloc (AOb.cells [Value.slice C t.vars.length cc, Value.slice D t.cells.length cd, Value.string t.out] Stat.solo (h.n + 1))) := ((Pre.refl _).alloc _).alloc _
  have hV := eqVarS_c s.vars t.vars A C ca cc _ (hs.vars.pre big pb) (ht.vars.pre big pb) zs.nv zt.nv
  have hC := eqCellS_c s.cells t.cells B D cb cd _ (hs.cells.pre big pb) (ht.cells.pre big pb) zs.nc zt.nc
  refine CC.ofN Try.func43 Try.ntmps43 Try.results43 rfl (by decide) (by kernel_rfl) ?_
  simp -implicitDefEqProofs only [push_cast, seval]
  repeat' (first | with_reducible (first | exact Keep.refl _ _ | assumption | exact byte_lt _ _ | apply Keep.alloc | (refine Keep.set ?_ ?_; rotate_left; · omega) | apply Pre.alloc | apply Pre.set | exact Pre.refl _ | exact le_alloc _ | (refine Pre.keep ?_; assumption) | (refine Pre.n ?_; assumption)) | ((with_reducible (first | refine CD.to (hV) ?_ | refine CQ.pure (fun _ => hV) ?_ | refine CD.to (hC) ?_ | refine CQ.pure (fun _ => hC) ?_ | refine bcase_d (fun hb => ?_) (fun hb => ?_) | refine bcase_mk (fun hb => ?_) (fun hb => ?_))) <;> try simp -implicitDefEqProofs only [push_cast, seval]) | with_reducible refine And.intro ?_ ?_ | omega | (simp only [alloc_n, set_n, kill_n]; omega) | (exfalso; omega))
  all_goals (obtain ⟨a1, a2, a3⟩ := s; obtain ⟨b1, b2, b3⟩ := t; simp_all [Store.mk.injEq])
end Go.Proofs.Ytfbcedjheempfaa
