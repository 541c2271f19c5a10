/- A part of the proof of the row: contracts of functions that it reaches. Conditions: those that each theorem names. -/
import Derived.Test.YtfbcedjheempfaaL16
namespace Go.Proofs.Ytfbcedjheempfaa
open Go Go.Sim Go.Proofs
set_option linter.unusedSimpArgs false
set_option linter.unusedVariables false
set_option maxRecDepth 100000
set_option maxHeartbeats 1000000
theorem toVar_c (x : Var) (h : AH) : CD Try.prog 116 [.agg #[.string x.name, .string x.val]] h (.agg #[.string x.name, .string x.val]) h := by
  refine CD.quiet ?_ (low_agg (by simp [low_string]))
  refine CC.ofN Try.func116 Try.ntmps116 Try.results116 rfl (by decide) (by kernel_rfl) ?_
  simp -implicitDefEqProofs only [push_cast, seval]
  repeat' (first | with_reducible (first | exact Keep.refl _ _ | assumption | exact byte_lt _ _ | apply Keep.alloc | (refine Keep.set ?_ ?_; rotate_left; · omega) | apply Pre.alloc | apply Pre.set | exact Pre.refl _ | exact le_alloc _ | (refine Pre.keep ?_; assumption) | (refine Pre.n ?_; assumption)) | ((with_reducible (first | refine bcase_d (fun hb => ?_) (fun hb => ?_) | refine bcase_mk (fun hb => ?_) (fun hb => ?_))) <;> try simp -implicitDefEqProofs only [push_cast, seval]) | with_reducible refine And.intro ?_ ?_ | omega | (simp only [alloc_n, set_n, kill_n]; omega) | (exfalso; omega))
theorem toCell_c (x : Cell) (h : AH) : CD Try.prog 117 [.agg #[.string x.name, .string x.key, .string x.val]] h (.agg #[.string x.name, .string x.key, .string x.val]) h := by
  refine CD.quiet ?_ (low_agg (by simp [low_string]))
  refine CC.ofN Try.func117 Try.ntmps117 Try.results117 rfl (by decide) (by kernel_rfl) ?_
  simp -implicitDefEqProofs only [push_cast, seval]
  repeat' (first | with_reducible (first | exact Keep.refl _ _ | assumption | exact byte_lt _ _ | apply Keep.alloc | (refine Keep.set ?_ ?_; rotate_left; · omega) | apply Pre.alloc | apply Pre.set | exact Pre.refl _ | exact le_alloc _ | (refine Pre.keep ?_; assumption) | (refine Pre.n ?_; assumption)) | ((with_reducible (first | refine bcase_d (fun hb => ?_) (fun hb => ?_) | refine bcase_mk (fun hb => ?_) (fun hb => ?_))) <;> try simp -implicitDefEqProofs only [push_cast, seval]) | with_reducible refine And.intro ?_ ?_ | omega | (simp only [alloc_n, set_n, kill_n]; omega) | (exfalso; omega))
/-- A new slice's cells, of which the first are filled. -/
def Filled {α : Type} (k : Nat) (enc : α → List Value) (l : List α) (cs : List Value) (i : Nat) : Prop := cs.length = l.length * k ∧ ∀ j (hj : j < l.length), j < i → (cs.drop (j * k)).take k = enc l[j]
theorem Filled.put {α : Type} {k : Nat} {enc : α → List Value} {l : List α} {cs : List Value} {i : Nat} (w : Filled k enc l cs i) (hi : i < l.length) (hk : (enc l[i]).length = k) : Filled k enc l (putL cs (i * k) (enc l[i])) (i + 1) := by
  refine ⟨by rw [putL_length, w.1], fun j hj hji => ?_⟩
  have hb : i * k + k ≤ cs.length := by rw [w.1, ← Nat.succ_mul]; exact Nat.mul_le_mul_right k hi
  by_cases e : j = i
  · subst e
    apply List.ext_getElem?
    intro m
    rw [List.getElem?_take]
    by_cases hm : m < k
    · rw [if_pos hm, List.getElem?_drop, putL_in _ _ _ m (by omega) (by omega), List.getElem?_eq_getElem]
    · rw [if_neg hm, List.getElem?_eq_none (by omega)]
  · have hji' : j < i := by omega
    rw [← w.2 j hj hji']
    have hq : j * k + k ≤ i * k := by rw [← Nat.succ_mul]; exact Nat.mul_le_mul_right k hji'
    apply List.ext_getElem?
    intro m
    rw [List.getElem?_take, List.getElem?_take]
    by_cases hm : m < k
    · rw [if_pos hm, if_pos hm, List.getElem?_drop, List.getElem?_drop, putL_out _ _ _ _ (.inl (by omega))]
    · rw [if_neg hm, if_neg hm]
theorem Filled.zero {α : Type} {k : Nat} {enc : α → List Value} {l : List α} (z : List Value) : Filled k enc l (zerosL (l.length * k) z) 0 := ⟨zerosL_length _ _, fun j _ h => absurd h (Nat.not_lt_zero j)⟩
theorem Filled.readAt {α : Type} {k : Nat} {enc : α → List Value} {l : List α} {cs : List Value} (w : Filled k enc l cs l.length) {h : AH} {i : Nat} {st : Sim.Stat} {ln : Nat} (e : h.ob i = .cells cs st ln) : RdE h (some ⟨i, 0, none⟩) k enc l := fun j hj => by
  refine ⟨i, 0, rfl, ?_⟩
  rw [rd_of e, rdO_cells, Nat.zero_add, w.2 j hj hj]
  have : j * k + k ≤ cs.length := by rw [w.1, ← Nat.succ_mul]; exact Nat.mul_le_mul_right k hj
  simp [this]
theorem Filled.read {α : Type} {k : Nat} {enc : α → List Value} {l : List α} {cs : List Value} (w : Filled k enc l cs l.length) (h : AH) : RdE (h.alloc (.cells cs .solo h.n)) (some ⟨h.n, 0, none⟩) k enc l := fun i hi => by
  refine ⟨h.n, 0, rfl, ?_⟩
  rw [rd_alloc_same, rdO_cells, Nat.zero_add, w.2 i hi hi]
  have : i * k + k ≤ cs.length := by rw [w.1, ← Nat.succ_mul]; exact Nat.mul_le_mul_right k hi
  simp [this]
theorem alloc_set {h : AH} (o o' : AOb) : (h.alloc o).set h.n o' = h.alloc o' := by
  unfold AH.set AH.alloc
  simp only
  congr 1
  funext j
  split <;> rfl
theorem toVarS_c (vs : List Var) (A : Option Addr) (ca : Nat) (h : AH) (hR : RdE h A 2 Var.enc vs) (hn : vs.length < 274877906944) :
    CC Try.prog 82 [.slice A vs.length ca] h (fun v h' => ∃ cs, v = .slice (some ⟨h.n, 0, none⟩) vs.length 2 ∧ h' = h.alloc (.cells cs .solo h.n) ∧ Filled 2 Var.enc vs cs vs.length) := by
  refine CC.withBig (fun big => ?_)
  refine CC.ofN Try.func82 Try.ntmps82 Try.results82 rfl (by decide) (by kernel_rfl) ?_
  simp -implicitDefEqProofs only [push_cast, seval]
  repeat (with_reducible refine And.intro ?_ ?_; · (first | omega | decide))
  refine WC.loopA (by kernel_rfl) [4] [8, 9, 10, 11, 12, 13, 14, 15, 16, 17, 18, 19, 20, 21] (fun a : Nat × List Value => [.int .i64 (a.1 : Nat)]) (fun a h' => h' = h.alloc (.cells a.2 .solo h.n) ∧ a.1 ≤ vs.length ∧ Filled 2 Var.enc vs a.2 a.1) (fun a => vs.length - a.1) (0, zerosL (vs.length * 2) [.string ⟨#[]⟩, .string ⟨#[]⟩]) (by kernel_rfl) ⟨rfl, Nat.zero_le _, Filled.zero _⟩ ?_
  intro a g h1 hJ
  have hh := hJ.1
  have hi := hJ.2.1
  have hf := hJ.2.2
  clear hJ
  subst hh
  have pb : Pre h (h.alloc (.cells a.2 .solo h.n)) := (Pre.refl _).alloc _
  simp -implicitDefEqProofs only [push_cast, seval]
  with_reducible refine bcase_d (fun hb => ?_) (fun hb => ?_)
  · have hi' : a.1 < vs.length := by omega
    with_reducible refine hR.use big pb hi' (fun id off eA hlt hr => ?_)
    subst eA
    simp only [Var.enc] at hr
    have hc := hf.1
    have hf' := hf.put hi' rfl
    simp only [Var.enc] at hf'
    simp -implicitDefEqProofs only [push_cast, seval, hr, hlt]
    repeat' (first | with_reducible (first | exact Keep.refl _ _ | assumption | exact byte_lt _ _ | apply Keep.alloc | (refine Keep.set ?_ ?_; rotate_left; · omega) | apply Pre.alloc | apply Pre.set | exact Pre.refl _ | exact le_alloc _ | (refine Pre.keep ?_; assumption) | (refine Pre.n ?_; assumption)) | ((with_reducible (first | refine CD.to (toVar_c _ _) ?_ | refine CQ.pure (fun _ => toVar_c _ _) ?_ | refine bcase_d (fun hb => ?_) (fun hb => ?_) | refine bcase_mk (fun hb => ?_) (fun hb => ?_))) <;> try simp -implicitDefEqProofs only [push_cast, seval, hr, hlt]) | with_reducible refine And.intro ?_ ?_ | omega | (simp only [alloc_n, set_n, kill_n]; omega) | (exfalso; omega))
    rw [wrapSucc (by omega)]
    refine ⟨(a.1 + 1, putL a.2 (a.1 * 2) [.string vs[a.1].name, .string vs[a.1].val]), by kernel_rfl, ⟨?_, ?_, hf'⟩, ?_⟩
    · simp only [putL, alloc_set]
    · show a.1 + 1 ≤ vs.length
      omega
    · show vs.length - (a.1 + 1) < vs.length - a.1
      omega
  · have hn : a.1 = vs.length := by omega
    rw [hn] at hf
    simp -implicitDefEqProofs only [push_cast, seval]
    repeat' (first | with_reducible (first | exact Keep.refl _ _ | assumption | exact byte_lt _ _ | apply Keep.alloc | (refine Keep.set ?_ ?_; rotate_left; · omega) | apply Pre.alloc | apply Pre.set | exact Pre.refl _ | exact le_alloc _ | (refine Pre.keep ?_; assumption) | (refine Pre.n ?_; assumption)) | ((with_reducible (first | refine bcase_d (fun hb => ?_) (fun hb => ?_) | refine bcase_mk (fun hb => ?_) (fun hb => ?_))) <;> try simp -implicitDefEqProofs only [push_cast, seval]) | with_reducible refine And.intro ?_ ?_ | omega | (simp only [alloc_n, set_n, kill_n]; omega) | (exfalso; omega))
    exact ⟨_, rfl, hf⟩
theorem toCellS_c (vs : List Cell) (A : Option Addr) (ca : Nat) (h : AH) (hR : RdE h A 3 Cell.enc vs) (hn : vs.length < 274877906944) :
    CC Try.prog 83 [.slice A vs.length ca] h (fun v h' => ∃ cs, v = .slice (some ⟨h.n, 0, none⟩) vs.length 3 ∧ h' = h.alloc (.cells cs .solo h.n) ∧ Filled 3 Cell.enc vs cs vs.length) := by
  refine CC.withBig (fun big => ?_)
  refine CC.ofN Try.func83 Try.ntmps83 Try.results83 rfl (by decide) (by kernel_rfl) ?_
  simp -implicitDefEqProofs only [push_cast, seval]
  repeat (with_reducible refine And.intro ?_ ?_; · (first | omega | decide))
  refine WC.loopA (by kernel_rfl) [4] [8, 9, 10, 11, 12, 13, 14, 15, 16, 17, 18, 19, 20, 21] (fun a : Nat × List Value => [.int .i64 (a.1 : Nat)]) (fun a h' => h' = h.alloc (.cells a.2 .solo h.n) ∧ a.1 ≤ vs.length ∧ Filled 3 Cell.enc vs a.2 a.1) (fun a => vs.length - a.1) (0, zerosL (vs.length * 3) [.string ⟨#[]⟩, .string ⟨#[]⟩, .string ⟨#[]⟩]) (by kernel_rfl) ⟨rfl, Nat.zero_le _, Filled.zero _⟩ ?_
  intro a g h1 hJ
  have hh := hJ.1
  have hi := hJ.2.1
  have hf := hJ.2.2
  clear hJ
  subst hh
  have pb : Pre h (h.alloc (.cells a.2 .solo h.n)) := (Pre.refl _).alloc _
  simp -implicitDefEqProofs only [push_cast, seval]
  with_reducible refine bcase_d (fun hb => ?_) (fun hb => ?_)
  · have hi' : a.1 < vs.length := by omega
    with_reducible refine hR.use big pb hi' (fun id off eA hlt hr => ?_)
    subst eA
    simp only [Cell.enc] at hr
    have hc := hf.1
    have hf' := hf.put hi' rfl
    simp only [Cell.enc] at hf'
    simp -implicitDefEqProofs only [push_cast, seval, hr, hlt]
    repeat' (first | with_reducible (first | exact Keep.refl _ _ | assumption | exact byte_lt _ _ | apply Keep.alloc | (refine Keep.set ?_ ?_; rotate_left; · omega) | apply Pre.alloc | apply Pre.set | exact Pre.refl _ | exact le_alloc _ | (refine Pre.keep ?_; assumption) | (refine Pre.n ?_; assumption)) | ((with_reducible (first | refine CD.to (toCell_c _ _) ?_ | refine CQ.pure (fun _ => toCell_c _ _) ?_ | refine bcase_d (fun hb => ?_) (fun hb => ?_) | refine bcase_mk (fun hb => ?_) (fun hb => ?_))) <;> try simp -implicitDefEqProofs only [push_cast, seval, hr, hlt]) | with_reducible refine And.intro ?_ ?_ | omega | (simp only [alloc_n, set_n, kill_n]; omega) | (exfalso; omega))
    rw [wrapSucc (by omega)]
    refine ⟨(a.1 + 1, putL a.2 (a.1 * 3) [.string vs[a.1].name, .string vs[a.1].key, .string vs[a.1].val]), by kernel_rfl, ⟨?_, ?_, hf'⟩, ?_⟩
    · simp only [putL, alloc_set]
    · show a.1 + 1 ≤ vs.length
      omega
    · show vs.length - (a.1 + 1) < vs.length - a.1
      omega
  · have hn : a.1 = vs.length := by omega
    rw [hn] at hf
    simp -implicitDefEqProofs only [push_cast, seval]
    repeat' (first | with_reducible (first | exact Keep.refl _ _ | assumption | exact byte_lt _ _ | apply Keep.alloc | (refine Keep.set ?_ ?_; rotate_left; · omega) | apply Pre.alloc | apply Pre.set | exact Pre.refl _ | exact le_alloc _ | (refine Pre.keep ?_; assumption) | (refine Pre.n ?_; assumption)) | ((with_reducible (first | refine bcase_d (fun hb => ?_) (fun hb => ?_) | refine bcase_mk (fun hb => ?_) (fun hb => ?_))) <;> try simp -implicitDefEqProofs only [push_cast, seval]) | with_reducible refine And.intro ?_ ?_ | omega | (simp only [alloc_n, set_n, kill_n]; omega) | (exfalso; omega))
    exact ⟨_, rfl, hf⟩
theorem toStore_c (s : Store) (A B : Option Addr) (ca cb : Nat) (h : AH) (hR : RdS h A B s) (hz : Sz s) :
    CC Try.prog 41 [.agg #[.slice A s.vars.length ca, .slice B s.cells.length cb, .string s.out]] h (fun v h' => ∃ A' B', v = .agg #[.slice A' s.vars.length 2, .slice B' s.cells.length 3, .string s.out] ∧ (∀ h2, Pre h' h2 → RdS h2 A' B' s) ∧ Pre h h') := by
  refine CC.withBig (fun big => ?_)
  have hA := hR.vars
  have hB := hR.cells
  have hnv := hz.nv
  have hnc := hz.nc
  refine CC.ofN Try.func41 Try.ntmps41 Try.results41 rfl (by decide) (by kernel_rfl) ?_
  simp -implicitDefEqProofs only [push_cast, seval]
  have p1 : Pre h (((h.alloc (AOb.cells [Value.slice A s.vars.length ca, Value.slice B s.cells.length cb, Value.string s.out] Stat.solo h.n)).alloc (AOb.cells [Value.slice none 0 0, Value.slice none 0 0, Value.string ⟨#[]⟩] Stat.solo (h.n + 1))).alloc (AOb.cells [Value.slice none 0 0, Value.slice none 0 0, Value.string ⟨#[]⟩] Stat.solo (h.n + 2))) := (((Pre.refl _).alloc _).alloc _).alloc _
  with_reducible refine CC.mono (toVarS_c s.vars A ca _ (hA.pre big p1) hnv) (fun v h1 hv => ?_)
  with_reducible refine Exists.elim hv (fun cs hv => ?_)
  have e1 := hv.1
  have e2 := hv.2.1
  have f1 := hv.2.2
  clear hv
  subst e1 e2
  simp -implicitDefEqProofs only [push_cast, seval]
  have p2 : Pre h (((((h.alloc (AOb.cells [Value.slice A s.vars.length ca, Value.slice B s.cells.length cb, Value.string s.out] Stat.solo h.n)).alloc (AOb.cells [Value.slice none 0 0, Value.slice none 0 0, Value.string ⟨#[]⟩] Stat.solo (h.n + 1))).alloc (AOb.cells [Value.slice none 0 0, Value.slice none 0 0, Value.string ⟨#[]⟩] Stat.solo (h.n + 2))).alloc (AOb.cells cs Stat.solo (h.n + 3))).set (h.n + 2) (AOb.cells [Value.slice (some ⟨h.n + 3, 0, none⟩) s.vars.length 2, Value.slice none 0 0, Value.string ⟨#[]⟩] Stat.solo (h.n + 2))) := (p1.alloc _).set (by omega) _
  with_reducible refine CC.mono (toCellS_c s.cells B cb _ (hB.pre big p2) hnc) (fun v h1 hv => ?_)
  with_reducible refine Exists.elim hv (fun cs2 hv => ?_)
  have e1 := hv.1
  have e2 := hv.2.1
  have f2 := hv.2.2
  clear hv
  subst e1 e2
  simp -implicitDefEqProofs only [push_cast, seval]
  refine ⟨_, _, rfl, fun h2 q2 => ⟨f1.readAt (st := Sim.Stat.solo) (ln := h.n + 3) ((q2.ob _ ?_).trans ?_), f2.readAt (st := Sim.Stat.solo) (ln := h.n + 4) ((q2.ob _ ?_).trans ?_)⟩, ?_⟩
  · show h.n + 3 < h.n + 5
    omega
  · simp [AH.set, AH.alloc]
  · show h.n + 4 < h.n + 5
    omega
  · simp [AH.set, AH.alloc]
  · refine Pre.set (Pre.set (p2.alloc _) ?_ _) ?_ _ <;> omega
end Go.Proofs.Ytfbcedjheempfaa
