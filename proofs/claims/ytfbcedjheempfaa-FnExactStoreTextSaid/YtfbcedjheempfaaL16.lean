/- A part of the proof of the row: contracts of functions that it reaches. Conditions: those that each theorem names. -/
import Derived.Test.YtfbcedjheempfaaL15
namespace Go.Proofs.Ytfbcedjheempfaa
open Go Go.Sim Go.Proofs
set_option linter.unusedSimpArgs false
set_option linter.unusedVariables false
set_option maxRecDepth 100000
set_option maxHeartbeats 1000000
theorem szVar_c (x : Var) (l : Int) (hx : x.name.size ≤ maxLen ∧ x.val.size ≤ maxLen) (hl : 0 ≤ l ∧ l ≤ 1048576) (h : AH) : CD Try.prog 114 [.agg #[.string x.name, .string x.val], .int .i64 l] h (.int .i64 (if l - x.name.size - x.val.size < 0 then -1 else l - x.name.size - x.val.size)) h := by
  refine CD.quiet ?_ (low_int _ _ _)
  have hm := maxLen_eq
  have w1 : IntKind.i64.wrap (l - (x.name.size : Int)) = l - (x.name.size : Int) := by rw [w64 (by omega) (by omega)]
  refine CC.ofN Try.func114 Try.ntmps114 Try.results114 rfl (by decide) (by kernel_rfl) ?_
  simp -implicitDefEqProofs only [push_cast, seval, w1]
  with_reducible refine bcase_d (fun hb => ?_) (fun hb => ?_)
  · simp -implicitDefEqProofs only [push_cast, seval]
    repeat' (first | with_reducible (first | exact Keep.refl _ _ | assumption | exact byte_lt _ _ | apply Keep.alloc | (refine Keep.set ?_ ?_; rotate_left; · omega) | apply Pre.alloc | apply Pre.set | exact Pre.refl _ | exact le_alloc _ | (refine Pre.keep ?_; assumption) | (refine Pre.n ?_; assumption)) | ((with_reducible (first | refine bcase_d (fun hb => ?_) (fun hb => ?_) | refine bcase_mk (fun hb => ?_) (fun hb => ?_))) <;> try simp -implicitDefEqProofs only [push_cast, seval]) | with_reducible refine And.intro ?_ ?_ | omega | (simp only [alloc_n, set_n, kill_n]; omega) | (exfalso; omega))
    all_goals grind
  have w2 : IntKind.i64.wrap (l - (x.name.size : Int) - (x.val.size : Int)) = l - (x.name.size : Int) - (x.val.size : Int) := by rw [w64 (by omega) (by omega)]
  simp -implicitDefEqProofs only [push_cast, seval, w2]
  repeat' (first | with_reducible (first | exact Keep.refl _ _ | assumption | exact byte_lt _ _ | apply Keep.alloc | (refine Keep.set ?_ ?_; rotate_left; · omega) | apply Pre.alloc | apply Pre.set | exact Pre.refl _ | exact le_alloc _ | (refine Pre.keep ?_; assumption) | (refine Pre.n ?_; assumption)) | ((with_reducible (first | refine bcase_d (fun hb => ?_) (fun hb => ?_) | refine bcase_mk (fun hb => ?_) (fun hb => ?_))) <;> try simp -implicitDefEqProofs only [push_cast, seval, w2]) | with_reducible refine And.intro ?_ ?_ | omega | (simp only [alloc_n, set_n, kill_n]; omega) | (exfalso; omega))
  all_goals grind
theorem szCell_c (x : Cell) (l : Int) (hx : x.name.size ≤ maxLen ∧ x.key.size ≤ maxLen ∧ x.val.size ≤ maxLen) (hl : 0 ≤ l ∧ l ≤ 1048576) (h : AH) : CD Try.prog 115 [.agg #[.string x.name, .string x.key, .string x.val], .int .i64 l] h (.int .i64 (if l - x.name.size - x.key.size - x.val.size < 0 then -1 else l - x.name.size - x.key.size - x.val.size)) h := by
  refine CD.quiet ?_ (low_int _ _ _)
  have hm := maxLen_eq
  have w1 : IntKind.i64.wrap (l - (x.name.size : Int)) = l - (x.name.size : Int) := by rw [w64 (by omega) (by omega)]
  refine CC.ofN Try.func115 Try.ntmps115 Try.results115 rfl (by decide) (by kernel_rfl) ?_
  simp -implicitDefEqProofs only [push_cast, seval, w1]
  with_reducible refine bcase_d (fun hb => ?_) (fun hb => ?_)
  · simp -implicitDefEqProofs only [push_cast, seval]
    repeat' (first | with_reducible (first | exact Keep.refl _ _ | assumption | exact byte_lt _ _ | apply Keep.alloc | (refine Keep.set ?_ ?_; rotate_left; · omega) | apply Pre.alloc | apply Pre.set | exact Pre.refl _ | exact le_alloc _ | (refine Pre.keep ?_; assumption) | (refine Pre.n ?_; assumption)) | ((with_reducible (first | refine bcase_d (fun hb => ?_) (fun hb => ?_) | refine bcase_mk (fun hb => ?_) (fun hb => ?_))) <;> try simp -implicitDefEqProofs only [push_cast, seval]) | with_reducible refine And.intro ?_ ?_ | omega | (simp only [alloc_n, set_n, kill_n]; omega) | (exfalso; omega))
    all_goals grind
  have w2 : IntKind.i64.wrap (l - (x.name.size : Int) - (x.key.size : Int)) = l - (x.name.size : Int) - (x.key.size : Int) := by rw [w64 (by omega) (by omega)]
  simp -implicitDefEqProofs only [push_cast, seval, w2]
  with_reducible refine bcase_d (fun hb => ?_) (fun hb => ?_)
  · simp -implicitDefEqProofs only [push_cast, seval]
    repeat' (first | with_reducible (first | exact Keep.refl _ _ | assumption | exact byte_lt _ _ | apply Keep.alloc | (refine Keep.set ?_ ?_; rotate_left; · omega) | apply Pre.alloc | apply Pre.set | exact Pre.refl _ | exact le_alloc _ | (refine Pre.keep ?_; assumption) | (refine Pre.n ?_; assumption)) | ((with_reducible (first | refine bcase_d (fun hb => ?_) (fun hb => ?_) | refine bcase_mk (fun hb => ?_) (fun hb => ?_))) <;> try simp -implicitDefEqProofs only [push_cast, seval]) | with_reducible refine And.intro ?_ ?_ | omega | (simp only [alloc_n, set_n, kill_n]; omega) | (exfalso; omega))
    all_goals grind
  have w3 : IntKind.i64.wrap (l - (x.name.size : Int) - (x.key.size : Int) - (x.val.size : Int)) = l - (x.name.size : Int) - (x.key.size : Int) - (x.val.size : Int) := by rw [w64 (by omega) (by omega)]
  simp -implicitDefEqProofs only [push_cast, seval, w3]
  repeat' (first | with_reducible (first | exact Keep.refl _ _ | assumption | exact byte_lt _ _ | apply Keep.alloc | (refine Keep.set ?_ ?_; rotate_left; · omega) | apply Pre.alloc | apply Pre.set | exact Pre.refl _ | exact le_alloc _ | (refine Pre.keep ?_; assumption) | (refine Pre.n ?_; assumption)) | ((with_reducible (first | refine bcase_d (fun hb => ?_) (fun hb => ?_) | refine bcase_mk (fun hb => ?_) (fun hb => ?_))) <;> try simp -implicitDefEqProofs only [push_cast, seval, w3]) | with_reducible refine And.intro ?_ ?_ | omega | (simp only [alloc_n, set_n, kill_n]; omega) | (exfalso; omega))
  all_goals grind
def varW (l : List Var) (i : Nat) : Nat := ((l.take i).map fun x => x.name.size + x.val.size).sum
theorem varW_zero (l : List Var) : varW l 0 = 0 := by simp [varW]
theorem varW_succ {l : List Var} {i : Nat} (h : i < l.length) : varW l (i + 1) = varW l i + (l[i].name.size + l[i].val.size) := by
  simp only [varW, List.take_add_one, List.getElem?_eq_getElem h, Option.toList_some, List.map_append, List.map_cons, List.map_nil, List.sum_append, List.sum_cons, List.sum_nil]; omega
theorem varW_mono {l : List Var} : ∀ {i j : Nat}, i ≤ j → j ≤ l.length → varW l i ≤ varW l j
  | i, 0, h, _ => by have : i = 0 := by omega
                     subst this; exact Nat.le_refl _
  | i, j + 1, h, hj => by
    by_cases e : i = j + 1
    · subst e; exact Nat.le_refl _
    · have := varW_mono (l := l) (i := i) (j := j) (by omega) (by omega)
      rw [varW_succ (by omega)]; omega
def cellW (l : List Cell) (i : Nat) : Nat := ((l.take i).map fun x => x.name.size + x.key.size + x.val.size).sum
theorem cellW_zero (l : List Cell) : cellW l 0 = 0 := by simp [cellW]
theorem cellW_succ {l : List Cell} {i : Nat} (h : i < l.length) : cellW l (i + 1) = cellW l i + (l[i].name.size + l[i].key.size + l[i].val.size) := by
  simp only [cellW, List.take_add_one, List.getElem?_eq_getElem h, Option.toList_some, List.map_append, List.map_cons, List.map_nil, List.sum_append, List.sum_cons, List.sum_nil]; omega
theorem cellW_mono {l : List Cell} : ∀ {i j : Nat}, i ≤ j → j ≤ l.length → cellW l i ≤ cellW l j
  | i, 0, h, _ => by have : i = 0 := by omega
                     subst this; exact Nat.le_refl _
  | i, j + 1, h, hj => by
    by_cases e : i = j + 1
    · subst e; exact Nat.le_refl _
    · have := cellW_mono (l := l) (i := i) (j := j) (by omega) (by omega)
      rw [cellW_succ (by omega)]; omega
theorem szVarS_c (vs : List Var) (A : Option Addr) (ca : Nat) (l : Int) (h : AH) (hR : RdE h A 2 Var.enc vs) (hz : ∀ x ∈ vs, x.name.size ≤ maxLen ∧ x.val.size ≤ maxLen) (hn : vs.length ≤ maxLen) (hl : 0 ≤ l ∧ l ≤ 1048576) :
    CD Try.prog 80 [.slice A vs.length ca, .int .i64 l] h (.int .i64 (if l - vs.length - varW vs vs.length < 0 then -1 else l - vs.length - varW vs vs.length)) h := by
  refine CD.withBig (fun big => ?_)
  refine CD.quiet ?_ (low_int _ _ _)
  have hm := maxLen_eq
  have w1 : IntKind.i64.wrap (l - (vs.length : Int)) = l - (vs.length : Int) := by rw [w64 (by omega) (by omega)]
  refine CC.ofN Try.func80 Try.ntmps80 Try.results80 rfl (by decide) (by kernel_rfl) ?_
  simp -implicitDefEqProofs only [push_cast, seval, w1]
  with_reducible refine bcase_d (fun hb => ?_) (fun hb => ?_)
  · simp -implicitDefEqProofs only [push_cast, seval]
    repeat' (first | with_reducible (first | exact Keep.refl _ _ | assumption | exact byte_lt _ _ | apply Keep.alloc | (refine Keep.set ?_ ?_; rotate_left; · omega) | apply Pre.alloc | apply Pre.set | exact Pre.refl _ | exact le_alloc _ | (refine Pre.keep ?_; assumption) | (refine Pre.n ?_; assumption)) | ((with_reducible (first | refine bcase_d (fun hb => ?_) (fun hb => ?_) | refine bcase_mk (fun hb => ?_) (fun hb => ?_))) <;> try simp -implicitDefEqProofs only [push_cast, seval]) | with_reducible refine And.intro ?_ ?_ | omega | (simp only [alloc_n, set_n, kill_n]; omega) | (exfalso; omega))
    all_goals grind
  simp -implicitDefEqProofs only [push_cast, seval]
  refine WC.loopA (by kernel_rfl) [1, 5] [4, 12, 13, 14, 15, 16, 17, 18, 19, 20, 21, 22, 23, 24, 25] (fun a : Int × Nat => [.int .i64 a.1, .int .i64 (a.2 : Nat)]) (fun a h' => (a.1 = l - vs.length - varW vs a.2 ∧ 0 ≤ a.1 ∧ a.2 ≤ vs.length) ∧ Pre h h') (fun a => vs.length - a.2) (l - vs.length, 0) (by kernel_rfl) ⟨⟨by rw [varW_zero]; simp, by omega, Nat.zero_le _⟩, Pre.refl _⟩ ?_
  intro a g h1 hJ
  have ha := hJ.1.1
  have h0 := hJ.1.2.1
  have hi := hJ.1.2.2
  have hp := hJ.2
  clear hJ
  simp -implicitDefEqProofs only [push_cast, seval]
  with_reducible refine bcase_d (fun hb => ?_) (fun hb => ?_)
  · have hi' : a.2 < vs.length := by omega
    with_reducible refine hR.use big hp hi' (fun id off eA hlt hr => ?_)
    subst eA
    simp only [Var.enc] at hr
    have hzi := hz _ (List.getElem_mem hi')
    have hs := varW_succ hi'
    have hmo := varW_mono (l := vs) (i := a.2 + 1) (j := vs.length) (by omega) (Nat.le_refl _)
    simp -implicitDefEqProofs only [push_cast, seval, hr, hlt]
    repeat' (first | with_reducible (first | exact Keep.refl _ _ | assumption | exact byte_lt _ _ | apply Keep.alloc | (refine Keep.set ?_ ?_; rotate_left; · omega) | apply Pre.alloc | apply Pre.set | exact Pre.refl _ | exact le_alloc _ | (refine Pre.keep ?_; assumption) | (refine Pre.n ?_; assumption)) | ((with_reducible (first | refine CD.to (szVar_c _ _ ?_ ?_ _) ?_ | refine CQ.pure (fun _ => szVar_c _ _ ?_ ?_ _) ?_ | refine bcase_d (fun hb => ?_) (fun hb => ?_) | refine bcase_mk (fun hb => ?_) (fun hb => ?_))) <;> try simp -implicitDefEqProofs only [push_cast, seval, hr, hlt]) | with_reducible refine And.intro ?_ ?_ | omega | (simp only [alloc_n, set_n, kill_n]; omega) | (exfalso; omega))
    · grind
    · have hq : ¬ (a.1 - vs[a.2].name.size - vs[a.2].val.size < 0) := by intro e; rw [if_pos e] at hb; omega
      rw [if_neg hq, wrapSucc (by omega)]
      refine ⟨(a.1 - vs[a.2].name.size - vs[a.2].val.size, a.2 + 1), by kernel_rfl, ⟨⟨?_, ?_, ?_⟩, hp⟩, ?_⟩
      · show a.1 - vs[a.2].name.size - vs[a.2].val.size = l - vs.length - varW vs (a.2 + 1)
        omega
      · show 0 ≤ a.1 - vs[a.2].name.size - vs[a.2].val.size
        omega
      · show a.2 + 1 ≤ vs.length
        omega
      · show vs.length - (a.2 + 1) < vs.length - a.2
        omega
  · have hn : a.2 = vs.length := by omega
    simp -implicitDefEqProofs only [push_cast, seval]
    repeat' (first | with_reducible (first | exact Keep.refl _ _ | assumption | exact byte_lt _ _ | apply Keep.alloc | (refine Keep.set ?_ ?_; rotate_left; · omega) | apply Pre.alloc | apply Pre.set | exact Pre.refl _ | exact le_alloc _ | (refine Pre.keep ?_; assumption) | (refine Pre.n ?_; assumption)) | ((with_reducible (first | refine bcase_d (fun hb => ?_) (fun hb => ?_) | refine bcase_mk (fun hb => ?_) (fun hb => ?_))) <;> try simp -implicitDefEqProofs only [push_cast, seval]) | with_reducible refine And.intro ?_ ?_ | omega | (simp only [alloc_n, set_n, kill_n]; omega) | (exfalso; omega))
    grind
theorem szCellS_c (vs : List Cell) (A : Option Addr) (ca : Nat) (l : Int) (h : AH) (hR : RdE h A 3 Cell.enc vs) (hz : ∀ x ∈ vs, x.name.size ≤ maxLen ∧ x.key.size ≤ maxLen ∧ x.val.size ≤ maxLen) (hn : vs.length ≤ maxLen) (hl : 0 ≤ l ∧ l ≤ 1048576) :
    CD Try.prog 81 [.slice A vs.length ca, .int .i64 l] h (.int .i64 (if l - vs.length - cellW vs vs.length < 0 then -1 else l - vs.length - cellW vs vs.length)) h := by
  refine CD.withBig (fun big => ?_)
  refine CD.quiet ?_ (low_int _ _ _)
  have hm := maxLen_eq
  have w1 : IntKind.i64.wrap (l - (vs.length : Int)) = l - (vs.length : Int) := by rw [w64 (by omega) (by omega)]
  refine CC.ofN Try.func81 Try.ntmps81 Try.results81 rfl (by decide) (by kernel_rfl) ?_
  simp -implicitDefEqProofs only [push_cast, seval, w1]
  with_reducible refine bcase_d (fun hb => ?_) (fun hb => ?_)
  · simp -implicitDefEqProofs only [push_cast, seval]
    repeat' (first | with_reducible (first | exact Keep.refl _ _ | assumption | exact byte_lt _ _ | apply Keep.alloc | (refine Keep.set ?_ ?_; rotate_left; · omega) | apply Pre.alloc | apply Pre.set | exact Pre.refl _ | exact le_alloc _ | (refine Pre.keep ?_; assumption) | (refine Pre.n ?_; assumption)) | ((with_reducible (first | refine bcase_d (fun hb => ?_) (fun hb => ?_) | refine bcase_mk (fun hb => ?_) (fun hb => ?_))) <;> try simp -implicitDefEqProofs only [push_cast, seval]) | with_reducible refine And.intro ?_ ?_ | omega | (simp only [alloc_n, set_n, kill_n]; omega) | (exfalso; omega))
    all_goals grind
  simp -implicitDefEqProofs only [push_cast, seval]
  refine WC.loopA (by kernel_rfl) [1, 5] [4, 12, 13, 14, 15, 16, 17, 18, 19, 20, 21, 22, 23, 24, 25] (fun a : Int × Nat => [.int .i64 a.1, .int .i64 (a.2 : Nat)]) (fun a h' => (a.1 = l - vs.length - cellW vs a.2 ∧ 0 ≤ a.1 ∧ a.2 ≤ vs.length) ∧ Pre h h') (fun a => vs.length - a.2) (l - vs.length, 0) (by kernel_rfl) ⟨⟨by rw [cellW_zero]; simp, by omega, Nat.zero_le _⟩, Pre.refl _⟩ ?_
  intro a g h1 hJ
  have ha := hJ.1.1
  have h0 := hJ.1.2.1
  have hi := hJ.1.2.2
  have hp := hJ.2
  clear hJ
  simp -implicitDefEqProofs only [push_cast, seval]
  with_reducible refine bcase_d (fun hb => ?_) (fun hb => ?_)
  · have hi' : a.2 < vs.length := by omega
    with_reducible refine hR.use big hp hi' (fun id off eA hlt hr => ?_)
    subst eA
    simp only [Cell.enc] at hr
    have hzi := hz _ (List.getElem_mem hi')
    have hs := cellW_succ hi'
    have hmo := cellW_mono (l := vs) (i := a.2 + 1) (j := vs.length) (by omega) (Nat.le_refl _)
    simp -implicitDefEqProofs only [push_cast, seval, hr, hlt]
    repeat' (first | with_reducible (first | exact Keep.refl _ _ | assumption | exact byte_lt _ _ | apply Keep.alloc | (refine Keep.set ?_ ?_; rotate_left; · omega) | apply Pre.alloc | apply Pre.set | exact Pre.refl _ | exact le_alloc _ | (refine Pre.keep ?_; assumption) | (refine Pre.n ?_; assumption)) | ((with_reducible (first | refine CD.to (szCell_c _ _ ?_ ?_ _) ?_ | refine CQ.pure (fun _ => szCell_c _ _ ?_ ?_ _) ?_ | refine bcase_d (fun hb => ?_) (fun hb => ?_) | refine bcase_mk (fun hb => ?_) (fun hb => ?_))) <;> try simp -implicitDefEqProofs only [push_cast, seval, hr, hlt]) | with_reducible refine And.intro ?_ ?_ | omega | (simp only [alloc_n, set_n, kill_n]; omega) | (exfalso; omega))
    · grind
    · have hq : ¬ (a.1 - vs[a.2].name.size - vs[a.2].key.size - vs[a.2].val.size < 0) := by intro e; rw [if_pos e] at hb; omega
      rw [if_neg hq, wrapSucc (by omega)]
      refine ⟨(a.1 - vs[a.2].name.size - vs[a.2].key.size - vs[a.2].val.size, a.2 + 1), by kernel_rfl, ⟨⟨?_, ?_, ?_⟩, hp⟩, ?_⟩
      · show a.1 - vs[a.2].name.size - vs[a.2].key.size - vs[a.2].val.size = l - vs.length - cellW vs (a.2 + 1)
        omega
      · show 0 ≤ a.1 - vs[a.2].name.size - vs[a.2].key.size - vs[a.2].val.size
        omega
      · show a.2 + 1 ≤ vs.length
        omega
      · show vs.length - (a.2 + 1) < vs.length - a.2
        omega
  · have hn : a.2 = vs.length := by omega
    simp -implicitDefEqProofs only [push_cast, seval]
    repeat' (first | with_reducible (first | exact Keep.refl _ _ | assumption | exact byte_lt _ _ | apply Keep.alloc | (refine Keep.set ?_ ?_; rotate_left; · omega) | apply Pre.alloc | apply Pre.set | exact Pre.refl _ | exact le_alloc _ | (refine Pre.keep ?_; assumption) | (refine Pre.n ?_; assumption)) | ((with_reducible (first | refine bcase_d (fun hb => ?_) (fun hb => ?_) | refine bcase_mk (fun hb => ?_) (fun hb => ?_))) <;> try simp -implicitDefEqProofs only [push_cast, seval]) | with_reducible refine And.intro ?_ ?_ | omega | (simp only [alloc_n, set_n, kill_n]; omega) | (exfalso; omega))
    grind
def storeW (s : Store) : Nat := s.vars.length + varW s.vars s.vars.length + (s.cells.length + cellW s.cells s.cells.length) + s.out.size
structure SzA (s : Store) : Prop where
  vars : ∀ x ∈ s.vars, x.name.size ≤ maxLen ∧ x.val.size ≤ maxLen
  cells : ∀ x ∈ s.cells, x.name.size ≤ maxLen ∧ x.key.size ≤ maxLen ∧ x.val.size ≤ maxLen
  out : s.out.size ≤ maxLen
  nv : s.vars.length ≤ maxLen
  nc : s.cells.length ≤ maxLen
theorem SzA.sz {s : Store} (a : SzA s) (h : storeW s ≤ 1048576) : Sz s := ⟨a.vars, a.cells, a.out, by simp only [storeW] at h; omega, by simp only [storeW] at h; omega⟩
theorem szStore_c (s : Store) (A B : Option Addr) (ca cb : Nat) (l : Int) (h : AH) (hR : RdS h A B s) (hz : SzA s) (hl : 0 ≤ l ∧ l ≤ 1048576) :
    CD Try.prog 40 [.agg #[.slice A s.vars.length ca, .slice B s.cells.length cb, .string s.out], .int .i64 l] h (.int .i64 (if l - storeW s < 0 then -1 else l - storeW s)) h := by
  refine CD.withBig (fun big => ?_)
  refine CD.quiet ?_ (low_int _ _ _)
  have hm := maxLen_eq
  have ho := hz.out
  have pb : Pre h (h.alloc (AOb.cells [Value.slice A s.vars.length ca, Value.slice B s.cells.length cb, Value.string s.out] Stat.solo h.n)) := (Pre.refl _).alloc _
  have hV := szVarS_c s.vars A ca l _ (hR.vars.pre big pb) hz.vars hz.nv hl
  have hw : storeW s = s.vars.length + varW s.vars s.vars.length + (s.cells.length + cellW s.cells s.cells.length) + s.out.size := rfl
  have c1 : ∀ {a : Int}, (a < 0) = True → (if a < 0 then (-1 : Int) else a) = -1 := fun e => if_pos (of_eq_true e)
  refine CC.ofN Try.func40 Try.ntmps40 Try.results40 rfl (by decide) (by kernel_rfl) ?_
  simp -implicitDefEqProofs only [push_cast, seval]
  repeat' (first | with_reducible (first | exact Keep.refl _ _ | assumption | exact byte_lt _ _ | apply Keep.alloc | (refine Keep.set ?_ ?_; rotate_left; · omega) | apply Pre.alloc | apply Pre.set | exact Pre.refl _ | exact le_alloc _ | (refine Pre.keep ?_; assumption) | (refine Pre.n ?_; assumption)) | ((with_reducible (first | refine CD.to (hV) ?_ | refine CQ.pure (fun _ => hV) ?_ | refine bcase_d (fun hb => ?_) (fun hb => ?_) | refine bcase_mk (fun hb => ?_) (fun hb => ?_))) <;> try simp -implicitDefEqProofs only [push_cast, seval]) | with_reducible refine And.intro ?_ ?_ | omega | (simp only [alloc_n, set_n, kill_n]; omega) | (exfalso; omega))
  · grind
  have hq : ¬ (l - s.vars.length - varW s.vars s.vars.length < 0) := by intro e; rw [if_pos e] at hb; omega
  have hC := szCellS_c s.cells B cb (l - s.vars.length - varW s.vars s.vars.length) _ (hR.cells.pre big pb) hz.cells hz.nc (by omega)
  rw [if_neg hq]
  repeat' (first | with_reducible (first | exact Keep.refl _ _ | assumption | exact byte_lt _ _ | apply Keep.alloc | (refine Keep.set ?_ ?_; rotate_left; · omega) | apply Pre.alloc | apply Pre.set | exact Pre.refl _ | exact le_alloc _ | (refine Pre.keep ?_; assumption) | (refine Pre.n ?_; assumption)) | ((with_reducible (first | refine CD.to (hC) ?_ | refine CQ.pure (fun _ => hC) ?_ | refine bcase_d (fun hb => ?_) (fun hb => ?_) | refine bcase_mk (fun hb => ?_) (fun hb => ?_))) <;> try simp -implicitDefEqProofs only [push_cast, seval]) | with_reducible refine And.intro ?_ ?_ | omega | (simp only [alloc_n, set_n, kill_n]; omega) | (exfalso; omega))
  · grind
  all_goals
    by_cases e : l - s.vars.length - varW s.vars s.vars.length - s.cells.length - cellW s.cells s.cells.length < 0
    · rename_i hb1 hb2
      exact absurd (by rw [if_pos e]; decide) hb2
    · have w := w64 (n := l - s.vars.length - varW s.vars s.vars.length - s.cells.length - cellW s.cells s.cells.length - s.out.size) (by omega) (by omega)
      rename_i hb1 hb2
      rw [if_neg e, w] at hb
      try rw [if_neg e, w]
      grind
end Go.Proofs.Ytfbcedjheempfaa
