/- The abstract heap and the world go on together: a draw, a new object, a store, an append. Conditions: those that each theorem names. -/
import Derived.Test.YtfbcedjheempfaaSim1
set_option linter.unusedVariables false
set_option linter.unusedSimpArgs false
namespace Go.Sim
variable {P : Program} {FB : Nat → Prop} {w0 : World} {μ : Nat → Option Loc} {h : AH} {w : World}

def upd (μ : Nat → Option Loc) (i : Nat) (l : Loc) : Nat → Option Loc := fun j => if j = i then some l else μ j
theorem upd_same (i : Nat) (l : Loc) : upd μ i l i = some l := by simp [upd]
theorem upd_ne {i j : Nat} (l : Loc) (e : j ≠ i) : upd μ i l j = μ j := by simp [upd, e]

theorem AOb.own_some {o : AOb} {n : Nat} (e : o.own = some n) : ∃ cs st, o = .cells cs st n ∧ st ≠ .ro := by
  cases o with
  | none => simp [AOb.own] at e
  | map es => simp [AOb.own] at e
  | cells cs st ln => cases st <;> simp [AOb.own] at e <;> subst e <;> exact ⟨_, _, rfl, by simp⟩
theorem AOb.own_cells {cs : List Value} {st : Stat} {n : Nat} (e : st ≠ .ro) : (AOb.cells cs st n).own = some n := by cases st <;> simp_all [AOb.own]

theorem Sim.lt (s : Sim P FB w0 μ h w) {i : Nat} {l : Loc} {cs : List Value} {st : Stat} {ln : Nat} (hm : μ i = some l) (ho : h.ob i = .cells cs st ln) (hs : st ≠ .ro) : l.b < w.heap.size := by
  obtain ⟨_, ⟨arr, e, fz, hb, _⟩, _⟩ := s.blk i l cs st ln hm ho hs
  exact (Array.getElem?_eq_some_iff.1 hb).1
theorem Sim.lt_own (s : Sim P FB w0 μ h w) {i : Nat} {l : Loc} {n : Nat} (hm : μ i = some l) (ho : (h.ob i).own = some n) : l.b < w.heap.size := by
  obtain ⟨cs, st, e, hs⟩ := AOb.own_some ho
  exact s.lt hm e hs
theorem Sim.lt_map (s : Sim P FB w0 μ h w) {i : Nat} {l : Loc} {es : List (Value × Value)} (hm : μ i = some l) (ho : h.ob i = .map es) : l.b < w.heap.size := by
  obtain ⟨_, ents, c, hb, _⟩ := s.mp i l es hm ho
  exact (Array.getElem?_eq_some_iff.1 hb).1
theorem Sim.ltn (s : Sim P FB w0 μ h w) {i : Nat} {n : Nat} (ho : (h.ob i).own = some n) : i < h.n := by
  apply Classical.byContradiction; intro hc
  rw [s.big i (by omega)] at ho; simp [AOb.own] at ho
theorem Sim.none_n (s : Sim P FB w0 μ h w) : μ h.n = none := by
  cases hm : μ h.n with
  | none => rfl
  | some l => exact absurd (s.dom _ _ hm) (by omega)

/-- Where worlds have the same heap. -/
theorem Sim.same (s : Sim P FB w0 μ h w) {w' : World} (hh : w'.heap = w.heap) (h1 : w'.os = w.os) (h2 : w'.tape = w.tape) (h3 : w'.output = w.output) : Sim P FB w0 μ h w' := by
  have hc : ∀ a, w'.cell? a = w.cell? a := fun a => by simp [World.cell?, hh]
  refine { s with os := h1.trans s.os, tape := h2.trans s.tape, out := h3.trans s.out, frame := ?_, cell := ?_, blk := ?_, mp := ?_ }
  · intro b hb; rw [hh]; exact s.frame b hb
  · intro i l cs st ln a b j hj; simpa only [hc] using s.cell i l cs st ln a b j hj
  · intro i l cs st ln a b c; simpa only [Blk, hh] using s.blk i l cs st ln a b c
  · intro i l es a b; simpa only [hh] using s.mp i l es a b

theorem Sim.drew (s : Sim P FB w0 μ h w) : Sim P FB w0 μ h w.drew := s.same rfl rfl rfl rfl
theorem Sim.drawn (s : Sim P FB w0 μ h w) (d : Nat) : Sim P FB w0 μ h { w with drawn := d } := s.same rfl rfl rfl rfl

theorem MapR.ext {μ' : Nat → Option Loc} (hx : Ext μ μ') {es : List (Value × Value)} {ents : Array MapEntry} (m : MapR μ es ents) : MapR μ' es ents :=
  ⟨m.1, fun j a b => ⟨(m.2 j a b).1, (m.2 j a b).2.1, (m.2 j a b).2.2.ext hx⟩⟩

theorem Blk.alloc {l : Loc} (hb : Blk w l) (o : Obj) : Blk (w.alloc o) l := by
  obtain ⟨arr, e, fz, h1, h2⟩ := hb
  exact ⟨arr, e, fz, by rw [RowKit.Below.heap_alloc w o l.b (Array.getElem?_eq_some_iff.1 h1).1]; exact h1, h2⟩

theorem cell_alloc {a : Addr} {v : Value} (hc : w.cell? a = some v) (o : Obj) : (w.alloc o).cell? a = some v := by
  rw [World.cell?_alloc_lt]; exact hc; exact World.block_lt_of_cell? w a hc

/-- A new object, in a block of its own: alone, or behind what it was appended to. -/
theorem Sim.add (s : Sim P FB w0 μ h w) {cs : List Value} {st : Stat} {ln : Nat} {arr : Array Value} {e : TypeId} {fz : Nat × Nat}
    (hl : cs.length ≤ arr.size) (hr : ∀ j (hj : j < cs.length) (hj' : j < arr.size), VR μ cs[j] arr[j]) (hfz : ∀ j, j < arr.size → ¬ (fz.1 ≤ j ∧ j < fz.2))
    (c1 : st ≠ .ro) (c2 : st = .solo → ln = h.n) (c3 : st ≠ .solo → (∀ j c, h.ob j ≠ .cells c .tip ln) ∧ (∀ j c, h.ob j ≠ .cells c .solo ln)) (c3' : ln ≤ h.n)
    (c4 : ∀ j, (h.ob j).own = some ln → μ j ≠ none) (c5 : st = .tip ∨ st = .solo) (c6 : ∀ v ∈ cs, one v = true) :
    Post P FB w0 μ h (upd μ h.n ⟨w.heap.size, 0, arr.size⟩) (h.alloc (.cells cs st ln)) (w.alloc (.cells arr e fz)) := by
  have hx : Ext μ (upd μ h.n ⟨w.heap.size, 0, arr.size⟩) := fun i l hm => by
    rw [upd_ne _ (by have := s.dom i l hm; omega)]; exact hm
  have hob : ∀ i, i ≠ h.n → (h.alloc (.cells cs st ln)).ob i = h.ob i := fun i hi => by simp [AH.alloc, hi]
  have hnew : (h.alloc (.cells cs st ln)).ob h.n = .cells cs st ln := by simp [AH.alloc]
  have hown : (AOb.cells cs st ln).own = some ln := AOb.own_cells c1
  have hnl : ∀ j, (h.ob j).own = some ln → st ≠ .solo := fun j hj e => by
    have := s.lin j ln hj
    have := s.ltn hj
    have := c2 e
    omega
  refine ⟨?_, hx, ⟨by simp [AH.alloc], fun i hi hm => ⟨by rw [upd_ne _ (by omega)]; exact hm, hob i (by omega)⟩⟩⟩
  constructor
  case os => exact s.os
  case tape => exact s.tape
  case out => exact s.out
  case frame =>
    intro b hb
    obtain ⟨h1, h2⟩ := s.frame b hb
    exact ⟨by simp; omega, by rw [RowKit.Below.heap_alloc w _ b h1]; exact h2⟩
  case dom =>
    intro i l hm
    by_cases hi : i = h.n
    · subst hi; simp [AH.alloc]
    · rw [upd_ne _ hi] at hm; have := s.dom i l hm; simp [AH.alloc]; omega
  case big =>
    intro i hi
    simp [AH.alloc] at hi
    rw [hob i (by omega)]; exact s.big i (by omega)
  case glob =>
    intro g hg
    obtain ⟨l, a, b⟩ := s.glob g hg
    exact ⟨l, hx _ _ a, b⟩
  case cell =>
    intro i l c1' st' ln' hm ho j hj
    by_cases hi : i = h.n
    · subst hi
      rw [upd_same] at hm; rw [hnew] at ho
      obtain rfl := Option.some.inj hm
      simp only [AOb.cells.injEq] at ho
      obtain ⟨rfl, rfl, rfl⟩ := ho
      have hj' : j < arr.size := by omega
      refine ⟨arr[j], ?_, (hr j hj hj').ext hx⟩
      rw [World.cell?_alloc_mark]; simp [hj']
    · rw [upd_ne _ hi] at hm; rw [hob i hi] at ho
      obtain ⟨cv, a, b⟩ := s.cell i l c1' st' ln' hm ho j hj
      exact ⟨cv, cell_alloc a _, b.ext hx⟩
  case blk =>
    intro i l c1' st' ln' hm ho hs
    by_cases hi : i = h.n
    · subst hi
      rw [upd_same] at hm; rw [hnew] at ho
      obtain rfl := Option.some.inj hm
      simp only [AOb.cells.injEq] at ho
      obtain ⟨rfl, rfl, rfl⟩ := ho
      refine ⟨fun hf => ?_, ⟨arr, e, fz, heap_alloc_new w _, by simp, hfz⟩, hl⟩
      have := (s.frame _ hf).1; simp at this
    · rw [upd_ne _ hi] at hm; rw [hob i hi] at ho
      obtain ⟨a, b, c⟩ := s.blk i l c1' st' ln' hm ho hs
      exact ⟨a, b.alloc _, c⟩
  case rob =>
    intro i l c n hm ho
    have e1 : i ≠ h.n := fun e1 => by
      subst e1; rw [hnew] at ho
      simp only [AOb.cells.injEq] at ho
      exact c1 ho.2.1
    rw [upd_ne _ e1] at hm; rw [hob i e1] at ho
    exact s.rob i l c n hm ho
  case onec =>
    intro i c st' n ho
    by_cases e1 : i = h.n
    · subst e1; rw [hnew] at ho
      simp only [AOb.cells.injEq] at ho
      obtain ⟨rfl, _, _⟩ := ho
      exact c6
    · rw [hob i e1] at ho; exact s.onec i c st' n ho
  case sep =>
    intro i j li lj ni nj hi hj oi oj hb
    by_cases e1 : i = h.n <;> by_cases e2 : j = h.n
    · subst e1; subst e2; rw [oi] at oj; exact Option.some.inj oj
    · subst e1; rw [upd_same] at hi; rw [upd_ne _ e2] at hj; rw [hob j e2] at oj
      have := s.lt_own hj oj
      obtain rfl := Option.some.inj hi
      simp at hb; omega
    · subst e2; rw [upd_same] at hj; rw [upd_ne _ e1] at hi; rw [hob i e1] at oi
      have := s.lt_own hi oi
      obtain rfl := Option.some.inj hj
      simp at hb; omega
    · rw [upd_ne _ e1] at hi; rw [upd_ne _ e2] at hj; rw [hob i e1] at oi; rw [hob j e2] at oj
      exact s.sep i j li lj ni nj hi hj oi oj hb
  case tip =>
    intro i j li lj ci cj sj ni nj hi hj oi oj hs hb
    by_cases e1 : i = h.n <;> by_cases e2 : j = h.n
    · subst e1; subst e2
      rw [hi] at hj; rw [oi] at oj
      obtain rfl := Option.some.inj hj
      simp only [AOb.cells.injEq] at oj
      obtain ⟨rfl, _, _⟩ := oj
      omega
    · subst e1; rw [upd_same] at hi; rw [upd_ne _ e2] at hj; rw [hob j e2] at oj
      have := s.lt hj oj hs
      obtain rfl := Option.some.inj hi
      simp at hb; omega
    · subst e2; rw [upd_same] at hj; rw [upd_ne _ e1] at hi; rw [hob i e1] at oi
      have := s.lt hi oi (by simp)
      obtain rfl := Option.some.inj hj
      simp at hb; omega
    · rw [upd_ne _ e1] at hi; rw [upd_ne _ e2] at hj; rw [hob i e1] at oi; rw [hob j e2] at oj
      exact s.tip i j li lj ci cj sj ni nj hi hj oi oj hs hb
  case tipu =>
    intro i j ci cj n oi oj
    by_cases e1 : i = h.n <;> by_cases e2 : j = h.n
    · omega
    · subst e1; rw [hnew] at oi; rw [hob j e2] at oj
      simp only [AOb.cells.injEq] at oi
      obtain ⟨rfl, rfl, rfl⟩ := oi
      exact absurd oj ((c3 (by simp)).1 j cj)
    · subst e2; rw [hnew] at oj; rw [hob i e1] at oi
      simp only [AOb.cells.injEq] at oj
      obtain ⟨rfl, rfl, rfl⟩ := oj
      exact absurd oi ((c3 (by simp)).1 i ci)
    · rw [hob i e1] at oi; rw [hob j e2] at oj
      exact s.tipu i j ci cj n oi oj
  case solo =>
    intro i c n oi
    by_cases e1 : i = h.n
    · subst e1
      rw [hnew] at oi
      simp only [AOb.cells.injEq] at oi
      obtain ⟨rfl, rfl, rfl⟩ := oi
      refine ⟨c2 rfl, fun j hj => ?_⟩
      apply Classical.byContradiction; intro e2
      rw [hob j e2] at hj
      have := s.lin j _ hj
      have := s.ltn hj
      omega
    · rw [hob i e1] at oi
      obtain ⟨rfl, hu⟩ := s.solo i c n oi
      refine ⟨rfl, fun j hj => ?_⟩
      by_cases e2 : j = h.n
      · subst e2
        rw [hnew, hown] at hj
        obtain rfl := Option.some.inj hj
        by_cases e3 : st = .solo
        · have := c2 e3; exact this.symm
        · exact absurd oi ((c3 e3).2 _ c)
      · rw [hob j e2] at hj; exact hu j hj
  case lin =>
    intro i n oi
    by_cases e1 : i = h.n
    · subst e1; rw [hnew, hown] at oi; obtain rfl := Option.some.inj oi; exact c3'
    · rw [hob i e1] at oi; exact s.lin i n oi
  case linc =>
    intro i j n oi oj hm
    by_cases e2 : j = h.n
    · subst e2; rw [upd_same]; simp
    · rw [upd_ne _ e2]
      rw [hob j e2] at oj
      by_cases e1 : i = h.n
      · subst e1; rw [hnew, hown] at oi; obtain rfl := Option.some.inj oi; exact c4 j oj
      · rw [hob i e1] at oi; rw [upd_ne _ e1] at hm; exact s.linc i j n oi oj hm
  case mp =>
    intro i l es hm ho
    have e1 : i ≠ h.n := fun e1 => by subst e1; rw [hnew] at ho; cases ho
    rw [upd_ne _ e1] at hm; rw [hob i e1] at ho
    obtain ⟨a, ents, c, b, d⟩ := s.mp i l es hm ho
    exact ⟨a, ents, c, by rw [RowKit.Below.heap_alloc w _ l.b (Array.getElem?_eq_some_iff.1 b).1]; exact b, d.ext hx⟩
  case mpu =>
    intro i j li lj es es' hi hj oi oj hb
    have e1 : i ≠ h.n := fun e1 => by subst e1; rw [hnew] at oi; cases oi
    have e2 : j ≠ h.n := fun e1 => by subst e1; rw [hnew] at oj; cases oj
    rw [upd_ne _ e1] at hi; rw [upd_ne _ e2] at hj; rw [hob i e1] at oi; rw [hob j e2] at oj
    exact s.mpu i j li lj es es' hi hj oi oj hb

/-- A new object alone in a new block. -/
theorem Sim.new (s : Sim P FB w0 μ h w) {cs : List Value} {arr : Array Value} {e : TypeId} {fz : Nat × Nat}
    (hl : cs.length ≤ arr.size) (hr : ∀ j (hj : j < cs.length) (hj' : j < arr.size), VR μ cs[j] arr[j]) (hfz : ∀ j, j < arr.size → ¬ (fz.1 ≤ j ∧ j < fz.2)) (h1 : ∀ v ∈ cs, one v = true) :
    Post P FB w0 μ h (upd μ h.n ⟨w.heap.size, 0, arr.size⟩) (h.alloc (.cells cs .solo h.n)) (w.alloc (.cells arr e fz)) :=
  s.add hl hr hfz (by simp) (fun _ => rfl) (fun hc => absurd rfl hc) (Nat.le_refl _) (fun j hj => by
    have := s.lin j _ hj
    have := s.ltn hj
    omega) (.inr rfl) h1

/-- A new object that nothing lies for (an empty one). -/
theorem Sim.newNone (s : Sim P FB w0 μ h w) (cs : List Value) (h1 : ∀ v ∈ cs, one v = true) : Post P FB w0 μ h μ (h.alloc (.cells cs .solo h.n)) w := by
  have hob : ∀ i, i ≠ h.n → (h.alloc (.cells cs .solo h.n)).ob i = h.ob i := fun i hi => by simp [AH.alloc, hi]
  have hnew : (h.alloc (.cells cs .solo h.n)).ob h.n = .cells cs .solo h.n := by simp [AH.alloc]
  have hne : ∀ i l, μ i = some l → i ≠ h.n := fun i l hm => by have := s.dom i l hm; omega
  refine ⟨?_, Ext.refl _, ⟨by simp [AH.alloc], fun i hi hm => ⟨hm, hob i (by omega)⟩⟩⟩
  constructor
  case os => exact s.os
  case tape => exact s.tape
  case out => exact s.out
  case frame => exact s.frame
  case dom => intro i l hm; have := s.dom i l hm; simp [AH.alloc]; omega
  case big => intro i hi; simp [AH.alloc] at hi; rw [hob i (by omega)]; exact s.big i (by omega)
  case glob => exact s.glob
  case cell => intro i l c st ln hm ho j hj; rw [hob i (hne i l hm)] at ho; exact s.cell i l c st ln hm ho j hj
  case blk => intro i l c st ln hm ho hs; rw [hob i (hne i l hm)] at ho; exact s.blk i l c st ln hm ho hs
  case rob => intro i l c n hm ho; rw [hob i (hne i l hm)] at ho; exact s.rob i l c n hm ho
  case onec =>
    intro i c st' n ho
    by_cases e1 : i = h.n
    · subst e1; rw [hnew] at ho
      simp only [AOb.cells.injEq] at ho
      obtain ⟨rfl, _, _⟩ := ho
      exact h1
    · rw [hob i e1] at ho; exact s.onec i c st' n ho
  case sep =>
    intro i j li lj ni nj hi hj oi oj hb
    rw [hob i (hne _ _ hi)] at oi; rw [hob j (hne _ _ hj)] at oj
    exact s.sep i j li lj ni nj hi hj oi oj hb
  case tip =>
    intro i j li lj ci cj sj ni nj hi hj oi oj hs hb
    rw [hob i (hne _ _ hi)] at oi; rw [hob j (hne _ _ hj)] at oj
    exact s.tip i j li lj ci cj sj ni nj hi hj oi oj hs hb
  case tipu =>
    intro i j ci cj n oi oj
    have e1 : i ≠ h.n := fun e1 => by subst e1; rw [hnew] at oi; cases oi
    have e2 : j ≠ h.n := fun e1 => by subst e1; rw [hnew] at oj; cases oj
    rw [hob i e1] at oi; rw [hob j e2] at oj
    exact s.tipu i j ci cj n oi oj
  case solo =>
    intro i c n oi
    by_cases e1 : i = h.n
    · subst e1
      rw [hnew] at oi
      simp only [AOb.cells.injEq] at oi
      refine ⟨oi.2.2.symm, fun j hj => ?_⟩
      apply Classical.byContradiction; intro e2
      rw [hob j e2] at hj
      have := s.lin j _ hj
      have := s.ltn hj
      omega
    · rw [hob i e1] at oi
      obtain ⟨rfl, hu⟩ := s.solo i c n oi
      refine ⟨rfl, fun j hj => ?_⟩
      by_cases e2 : j = h.n
      · subst e2
        rw [hnew] at hj
        simp [AOb.own] at hj; exact hj
      · rw [hob j e2] at hj; exact hu j hj
  case lin =>
    intro i n oi
    by_cases e1 : i = h.n
    · subst e1; rw [hnew] at oi; simp [AOb.own] at oi; omega
    · rw [hob i e1] at oi; exact s.lin i n oi
  case linc =>
    intro i j n oi oj hm
    have e1 : i ≠ h.n := fun e => by subst e; exact hm s.none_n
    rw [hob i e1] at oi
    by_cases e2 : j = h.n
    · subst e2; rw [hnew] at oj
      simp [AOb.own] at oj
      have := s.lin i _ oi; have := s.ltn oi; omega
    · rw [hob j e2] at oj; exact s.linc i j n oi oj hm
  case mp => intro i l es hm ho; rw [hob i (hne i l hm)] at ho; exact s.mp i l es hm ho
  case mpu =>
    intro i j li lj es es' hi hj oi oj hb
    rw [hob i (hne _ _ hi)] at oi; rw [hob j (hne _ _ hj)] at oj
    exact s.mpu i j li lj es es' hi hj oi oj hb

/-- A new map. -/
theorem Sim.newMap (s : Sim P FB w0 μ h w) : Post P FB w0 μ h (upd μ h.n ⟨w.heap.size, 0, 0⟩) (h.alloc (.map [])) (w.alloc (.map #[] 0)) := by
  have hx : Ext μ (upd μ h.n ⟨w.heap.size, 0, 0⟩) := fun i l hm => by
    rw [upd_ne _ (by have := s.dom i l hm; omega)]; exact hm
  have hob : ∀ i, i ≠ h.n → (h.alloc (.map [])).ob i = h.ob i := fun i hi => by simp [AH.alloc, hi]
  have hnew : (h.alloc (.map [])).ob h.n = .map [] := by simp [AH.alloc]
  have hno : ∀ i n, ((h.alloc (.map [])).ob i).own = some n → i ≠ h.n := fun i n ho e => by subst e; rw [hnew] at ho; simp [AOb.own] at ho
  have hnc : ∀ i c st n, (h.alloc (.map [])).ob i = .cells c st n → i ≠ h.n := fun i c st n ho e => by subst e; rw [hnew] at ho; cases ho
  refine ⟨?_, hx, ⟨by simp [AH.alloc], fun i hi hm => ⟨by rw [upd_ne _ (by omega)]; exact hm, hob i (by omega)⟩⟩⟩
  constructor
  case os => exact s.os
  case tape => exact s.tape
  case out => exact s.out
  case frame =>
    intro b hb
    obtain ⟨h1, h2⟩ := s.frame b hb
    exact ⟨by simp; omega, by rw [RowKit.Below.heap_alloc w _ b h1]; exact h2⟩
  case dom =>
    intro i l hm
    by_cases hi : i = h.n
    · subst hi; simp [AH.alloc]
    · rw [upd_ne _ hi] at hm; have := s.dom i l hm; simp [AH.alloc]; omega
  case big => intro i hi; simp [AH.alloc] at hi; rw [hob i (by omega)]; exact s.big i (by omega)
  case glob =>
    intro g hg
    obtain ⟨l, a, b⟩ := s.glob g hg
    exact ⟨l, hx _ _ a, b⟩
  case cell =>
    intro i l c1' st' ln' hm ho j hj
    have hi := hnc _ _ _ _ ho
    rw [upd_ne _ hi] at hm; rw [hob i hi] at ho
    obtain ⟨cv, a, b⟩ := s.cell i l c1' st' ln' hm ho j hj
    exact ⟨cv, cell_alloc a _, b.ext hx⟩
  case blk =>
    intro i l c1' st' ln' hm ho hs
    have hi := hnc _ _ _ _ ho
    rw [upd_ne _ hi] at hm; rw [hob i hi] at ho
    obtain ⟨a, b, c⟩ := s.blk i l c1' st' ln' hm ho hs
    exact ⟨a, b.alloc _, c⟩
  case rob =>
    intro i l c n hm ho
    have e1 := hnc _ _ _ _ ho
    rw [upd_ne _ e1] at hm; rw [hob i e1] at ho
    exact s.rob i l c n hm ho
  case onec => intro i c st' n ho; have e1 := hnc _ _ _ _ ho; rw [hob i e1] at ho; exact s.onec i c st' n ho
  case sep =>
    intro i j li lj ni nj hi hj oi oj hb
    have e1 := hno _ _ oi
    have e2 := hno _ _ oj
    rw [upd_ne _ e1] at hi; rw [upd_ne _ e2] at hj; rw [hob i e1] at oi; rw [hob j e2] at oj
    exact s.sep i j li lj ni nj hi hj oi oj hb
  case tip =>
    intro i j li lj ci cj sj ni nj hi hj oi oj hs hb
    have e1 := hnc _ _ _ _ oi
    have e2 := hnc _ _ _ _ oj
    rw [upd_ne _ e1] at hi; rw [upd_ne _ e2] at hj; rw [hob i e1] at oi; rw [hob j e2] at oj
    exact s.tip i j li lj ci cj sj ni nj hi hj oi oj hs hb
  case tipu =>
    intro i j ci cj n oi oj
    rw [hob i (hnc _ _ _ _ oi)] at oi; rw [hob j (hnc _ _ _ _ oj)] at oj
    exact s.tipu i j ci cj n oi oj
  case solo =>
    intro i c n oi
    rw [hob i (hnc _ _ _ _ oi)] at oi
    obtain ⟨rfl, hu⟩ := s.solo i c n oi
    exact ⟨rfl, fun j hj => by rw [hob j (hno _ _ hj)] at hj; exact hu j hj⟩
  case lin => intro i n oi; rw [hob i (hno _ _ oi)] at oi; exact s.lin i n oi
  case linc =>
    intro i j n oi oj hm
    have e1 := hno _ _ oi
    have e2 := hno _ _ oj
    rw [upd_ne _ e1] at hm; rw [upd_ne _ e2]; rw [hob i e1] at oi; rw [hob j e2] at oj
    exact s.linc i j n oi oj hm
  case mp =>
    intro i l es hm ho
    by_cases e1 : i = h.n
    · subst e1
      rw [upd_same] at hm; rw [hnew] at ho
      obtain rfl := Option.some.inj hm
      simp only [AOb.map.injEq] at ho
      subst ho
      refine ⟨fun hf => ?_, #[], 0, heap_alloc_new w _, rfl, fun j hj => by simp at hj⟩
      have := (s.frame _ hf).1; simp at this
    · rw [upd_ne _ e1] at hm; rw [hob i e1] at ho
      obtain ⟨a, ents, c, b, d⟩ := s.mp i l es hm ho
      exact ⟨a, ents, c, by rw [RowKit.Below.heap_alloc w _ l.b (Array.getElem?_eq_some_iff.1 b).1]; exact b, d.ext hx⟩
  case mpu =>
    intro i j li lj es es' hi hj oi oj hb
    by_cases e1 : i = h.n <;> by_cases e2 : j = h.n
    · omega
    · subst e1; rw [upd_same] at hi; rw [upd_ne _ e2] at hj; rw [hob j e2] at oj
      have := s.lt_map hj oj
      obtain rfl := Option.some.inj hi
      simp at hb; omega
    · subst e2; rw [upd_same] at hj; rw [upd_ne _ e1] at hi; rw [hob i e1] at oi
      have := s.lt_map hi oi
      obtain rfl := Option.some.inj hj
      simp at hb; omega
    · rw [upd_ne _ e1] at hi; rw [upd_ne _ e2] at hj; rw [hob i e1] at oi; rw [hob j e2] at oj
      exact s.mpu i j li lj es es' hi hj oi oj hb

end Go.Sim
