/- Parts of the proof of the row: the ground, contracts of the functions that it reaches (Sim1, Sim2, Sim3, Sim4, Sim5, Sim6, Sim7, Sim8, Sim9). Conditions: those that each theorem names. -/
import Derived.WalkKit
import Derived.Orders
import Derived.ChangeKeysEq
import Derived.Laws.StructEq
import Derived.Lib.ConvBytes
/- The ground of the proofs of this seat: an abstract heap, and how it lies in the model's memory. Conditions: none; nothing here speaks of a program. -/
set_option linter.unusedVariables false
set_option linter.unusedSimpArgs false
namespace Go.Sim

/-- Where an abstract object lies: block, first cell, how many cells there are from there to the block's end. -/
structure Loc where
  b : Nat
  o : Nat
  room : Nat

inductive Stat where
  | ro
  | solo
  | old
  | tip
  deriving DecidableEq

inductive AOb where
  | none
  | cells (cs : List Value) (st : Stat) (ln : Nat)
  | map (es : List (Value × Value))

structure AH where
  n : Nat
  ob : Nat → AOb

def AOb.own : AOb → Option Nat
  | .cells _ .ro _ => Option.none
  | .cells _ _ ln => some ln
  | _ => Option.none

def AH.set (h : AH) (i : Nat) (o : AOb) : AH := ⟨h.n, fun j => if j = i then o else h.ob j⟩
def AH.alloc (h : AH) (o : AOb) : AH := ⟨h.n + 1, fun j => if j = h.n then o else h.ob j⟩
def AH.kill (h : AH) (ln : Nat) : AH := ⟨h.n, fun j => if (h.ob j).own = some ln then .none else h.ob j⟩

def isPlain : Value → Bool
  | .bool _ | .int _ _ | .float _ _ | .complex _ _ _ | .string _ | .nilFunc | .nilIface | .pointer Option.none | .map Option.none | .chan Option.none => true
  | .tuple vs => vs.isEmpty
  | _ => false

inductive VR (μ : Nat → Option Loc) : Value → Value → Prop
  | plain (v : Value) (h : isPlain v = true) : VR μ v v
  | ptr (i off : Nat) (l : Loc) (h : μ i = some l) : VR μ (.pointer (some ⟨i, off, none⟩)) (.pointer (some ⟨l.b, l.o + off, none⟩))
  | sl (i off n k cap : Nat) (l : Loc) (h : μ i = some l) (hn : n ≤ cap) (hr : off + cap * k ≤ l.room) :
      VR μ (.slice (some ⟨i, off, none⟩) n k) (.slice (some ⟨l.b, l.o + off, none⟩) n cap)
  | slz (i off k : Nat) (l : Loc) (h : μ i = some l) (ho : off ≤ l.room) (A' : Option Addr) : VR μ (.slice (some ⟨i, off, none⟩) 0 k) (.slice A' 0 0)
  | sl0 (A' : Option Addr) (c : Nat) : VR μ (.slice none 0 c) (.slice A' 0 0)
  | map (i : Nat) (l : Loc) (h : μ i = some l) : VR μ (.map (some i)) (.map (some l.b))
  | func (fn : Fn) (f f' c c' : Array Value) (hf : f.size = f'.size) (hc : c.size = c'.size)
      (ef : ∀ j (h : j < f.size) (h' : j < f'.size), VR μ f[j] f'[j]) (ec : ∀ j (h : j < c.size) (h' : j < c'.size), VR μ c[j] c'[j]) :
      VR μ (.func fn f c) (.func fn f' c')
  | agg (a a' : Array Value) (hs : a.size = a'.size) (e : ∀ j (h : j < a.size) (h' : j < a'.size), VR μ a[j] a'[j]) : VR μ (.agg a) (.agg a')
  | tuple (a a' : Array Value) (hs : a.size = a'.size) (e : ∀ j (h : j < a.size) (h' : j < a'.size), VR μ a[j] a'[j]) : VR μ (.tuple a) (.tuple a')

/-- Lists of values, one beside the other. -/
def LR (μ : Nat → Option Loc) (a b : List Value) : Prop := a.length = b.length ∧ ∀ j (h : j < a.length) (h' : j < b.length), VR μ a[j] b[j]
def AR (μ : Nat → Option Loc) (a b : Array Value) : Prop := a.size = b.size ∧ ∀ j (h : j < a.size) (h' : j < b.size), VR μ a[j] b[j]

def Ext (μ μ' : Nat → Option Loc) : Prop := ∀ i l, μ i = some l → μ' i = some l
theorem Ext.refl (μ : Nat → Option Loc) : Ext μ μ := fun _ _ h => h
theorem Ext.trans {a b c : Nat → Option Loc} (h : Ext a b) (k : Ext b c) : Ext a c := fun i l x => k i l (h i l x)

theorem VR.ext {μ μ' : Nat → Option Loc} (hx : Ext μ μ') {v c : Value} (h : VR μ v c) : VR μ' v c := by
  induction h with
  | plain v h => exact .plain v h
  | ptr i off l h => exact .ptr i off l (hx _ _ h)
  | sl i off n k cap l h hn hr => exact .sl i off n k cap l (hx _ _ h) hn hr
  | slz i off k l h ho A' => exact .slz i off k l (hx _ _ h) ho A'
  | sl0 A' c => exact .sl0 A' c
  | map i l h => exact .map i l (hx _ _ h)
  | func fn f f' c c' hf hc _ _ ef ec => exact .func fn f f' c c' hf hc (fun j a b => ef j a b) (fun j a b => ec j a b)
  | agg a a' hs _ e => exact .agg a a' hs (fun j x y => e j x y)
  | tuple a a' hs _ e => exact .tuple a a' hs (fun j x y => e j x y)

theorem LR.ext {μ μ' : Nat → Option Loc} (hx : Ext μ μ') {a b : List Value} (h : LR μ a b) : LR μ' a b := ⟨h.1, fun j x y => (h.2 j x y).ext hx⟩
theorem AR.ext {μ μ' : Nat → Option Loc} (hx : Ext μ μ') {a b : Array Value} (h : AR μ a b) : AR μ' a b := ⟨h.1, fun j x y => (h.2 j x y).ext hx⟩
theorem AR.list {μ : Nat → Option Loc} {a b : Array Value} (h : AR μ a b) : LR μ a.toList b.toList := ⟨by simpa using h.1, fun j x y => h.2 j (by simpa using x) (by simpa using y)⟩
theorem LR.array {μ : Nat → Option Loc} {a b : Array Value} (h : LR μ a.toList b.toList) : AR μ a b := ⟨by simpa using h.1, fun j x y => h.2 j (by simpa using x) (by simpa using y)⟩
theorem LR.nil (μ : Nat → Option Loc) : LR μ [] [] := ⟨rfl, fun j h => by simp at h⟩
theorem LR.cons {μ : Nat → Option Loc} {x y : Value} {a b : List Value} (hx : VR μ x y) (h : LR μ a b) : LR μ (x :: a) (y :: b) :=
  ⟨by simp [h.1], fun j p q => by
    cases j with
    | zero => simpa using hx
    | succ j => simpa using h.2 j (by simpa using p) (by simpa using q)⟩
theorem LR.head {μ : Nat → Option Loc} {x y : Value} {a b : List Value} (h : LR μ (x :: a) (y :: b)) : VR μ x y := h.2 0 (by simp) (by simp)
theorem LR.tail {μ : Nat → Option Loc} {x y : Value} {a b : List Value} (h : LR μ (x :: a) (y :: b)) : LR μ a b :=
  ⟨by simpa using h.1, fun j p q => h.2 (j + 1) (by simpa using p) (by simpa using q)⟩
theorem LR.append {μ : Nat → Option Loc} {a b c d : List Value} (h : LR μ a b) (k : LR μ c d) : LR μ (a ++ c) (b ++ d) := by
  refine ⟨by simp [h.1, k.1], fun j p q => ?_⟩
  by_cases hj : j < a.length
  · rw [List.getElem_append_left hj, List.getElem_append_left (by rw [← h.1]; exact hj)]; exact h.2 j hj (by rw [← h.1]; exact hj)
  · simp only [List.length_append] at p q
    have e := h.1
    have hb : ¬ j < b.length := by omega
    rw [List.getElem_append_right (by omega), List.getElem_append_right (by omega)]
    have := k.2 (j - a.length) (by omega) (by omega)
    simpa [e] using this
theorem LR.take {μ : Nat → Option Loc} {a b : List Value} (h : LR μ a b) (n : Nat) : LR μ (a.take n) (b.take n) := by
  refine ⟨by simp [h.1], fun j p q => ?_⟩
  simp only [List.length_take] at p q
  simpa using h.2 j (by omega) (by omega)
theorem LR.drop {μ : Nat → Option Loc} {a b : List Value} (h : LR μ a b) (n : Nat) : LR μ (a.drop n) (b.drop n) := by
  refine ⟨by simp [h.1], fun j p q => ?_⟩
  simp only [List.length_drop] at p q
  simpa using h.2 (n + j) (by omega) (by omega)
theorem LR.set {μ : Nat → Option Loc} {a b : List Value} (h : LR μ a b) (i : Nat) {x y : Value} (hx : VR μ x y) : LR μ (a.set i x) (b.set i y) := by
  refine ⟨by simp [h.1], fun j p q => ?_⟩
  simp only [List.length_set] at p q
  by_cases e : i = j
  · subst e; simpa using hx
  · simpa [List.getElem_set, e] using h.2 j p q

theorem VR.undef (μ : Nat → Option Loc) : VR μ undef undef := .plain _ rfl

theorem AR.getD {μ : Nat → Option Loc} {a b : Array Value} (h : AR μ a b) (i : Nat) : VR μ (a.getD i undef) (b.getD i undef) := by
  by_cases hi : i < a.size
  · have hb : i < b.size := by rw [← h.1]; exact hi
    simpa [Array.getD, hi, hb] using h.2 i hi hb
  · have hb : ¬ i < b.size := by rw [← h.1]; exact hi
    simpa [Array.getD, hi, hb] using VR.undef μ

theorem AR.setIfInBounds {μ : Nat → Option Loc} {a b : Array Value} (h : AR μ a b) (i : Nat) {x y : Value} (hx : VR μ x y) : AR μ (a.setIfInBounds i x) (b.setIfInBounds i y) := by
  refine ⟨by simp [h.1], fun j p q => ?_⟩
  simp only [Array.size_setIfInBounds] at p q
  by_cases e : i = j
  · subst e; simpa using hx
  · rw [Array.getElem_setIfInBounds_ne (h := e) (hj := p), Array.getElem_setIfInBounds_ne (h := e) (hj := q)]; exact h.2 j p q

/-! what a value tells of the one beside it -/
theorem VR.bool {μ : Nat → Option Loc} {b : Bool} {c : Value} (h : VR μ (.bool b) c) : c = .bool b := by cases h; rfl
theorem VR.int {μ : Nat → Option Loc} {k : IntKind} {n : Int} {c : Value} (h : VR μ (.int k n) c) : c = .int k n := by cases h; rfl
theorem VR.string {μ : Nat → Option Loc} {s : ByteArray} {c : Value} (h : VR μ (.string s) c) : c = .string s := by cases h; rfl
theorem VR.of_bool {μ : Nat → Option Loc} {b : Bool} {v : Value} (h : VR μ v (.bool b)) : v = .bool b := by cases h; rfl
theorem VR.cellsLR {μ : Nat → Option Loc} {v c : Value} (h : VR μ v c) : AR μ v.cells c.cells := by
  have one : ∀ {v c : Value}, VR μ v c → AR μ #[v] #[c] := fun h => ⟨rfl, fun j p q => by
    have : j = 0 := by simpa using p
    subst this; simpa using h⟩
  cases h with
  | agg a a' hs e => exact ⟨hs, e⟩
  | plain v hp =>
    cases v <;> first | exact one (.plain _ hp) | (simp [isPlain] at hp)
  | ptr i off l h => exact one (.ptr i off l h)
  | sl i off n c cap l h hn hr => exact one (.sl i off n c cap l h hn hr)
  | slz i off k l h ho A' => exact one (.slz i off k l h ho A')
  | sl0 A' c => exact one (.sl0 A' c)
  | map i l h => exact one (.map i l h)
  | func fn f f' c c' hf hc ef ec => exact one (.func fn f f' c c' hf hc ef ec)
  | tuple a a' hs e => exact one (.tuple a a' hs e)
/-- The value of one cell. -/
def one : Value → Bool
  | .agg _ | .tuple _ => false
  | _ => true
theorem VR.one {μ : Nat → Option Loc} {v c : Value} (h : VR μ v c) : Sim.one c = Sim.one v := by cases h <;> rfl

/-! ### how an abstract heap lies in a world -/
def Blk (w : World) (l : Loc) : Prop :=
  ∃ arr e fz, w.heap[l.b]? = some (.cells arr e fz) ∧ arr.size = l.o + l.room ∧ ∀ j, j < arr.size → ¬ (fz.1 ≤ j ∧ j < fz.2)

def MapR (μ : Nat → Option Loc) (es : List (Value × Value)) (ents : Array MapEntry) : Prop :=
  es.length = ents.size ∧ ∀ j (h : j < es.length) (h' : j < ents.size), isPlain es[j].1 = true ∧ es[j].1 = ents[j].key ∧ VR μ es[j].2 ents[j].val

structure Sim (P : Program) (FB : Nat → Prop) (w0 : World) (μ : Nat → Option Loc) (h : AH) (w : World) : Prop where
  os : w.os = w0.os
  tape : w.tape = w0.tape
  out : w.output = w0.output
  frame : ∀ b, FB b → b < w.heap.size ∧ w.heap[b]? = w0.heap[b]?
  dom : ∀ i l, μ i = some l → i < h.n
  big : ∀ i, h.n ≤ i → h.ob i = .none
  glob : ∀ g, g < P.globals.size → ∃ l, μ g = some l ∧ l.b = g ∧ l.o = 0
  tab : ∀ g cs ln, g < P.globals.size → h.ob g = .cells cs .ro ln → ∃ arr e fz, w0.heap[g]? = some (.cells arr e fz) ∧ arr.size = cs.length
  cell : ∀ i l cs st ln, μ i = some l → h.ob i = .cells cs st ln → ∀ j (_ : j < cs.length), ∃ cv, w.cell? ⟨l.b, l.o + j, none⟩ = some cv ∧ VR μ cs[j] cv
  blk : ∀ i l cs st ln, μ i = some l → h.ob i = .cells cs st ln → st ≠ .ro → ¬ FB l.b ∧ Blk w l ∧ cs.length ≤ l.room
  rob : ∀ i l cs ln, μ i = some l → h.ob i = .cells cs .ro ln → (cs = [] → i < P.globals.size) → FB l.b
  onec : ∀ i cs st ln, h.ob i = .cells cs st ln → ∀ v ∈ cs, Sim.one v = true
  sep : ∀ i j li lj ni nj, μ i = some li → μ j = some lj → (h.ob i).own = some ni → (h.ob j).own = some nj → li.b = lj.b → ni = nj
  tip : ∀ i j li lj ci cj sj ni nj, μ i = some li → μ j = some lj → h.ob i = .cells ci .tip ni → h.ob j = .cells cj sj nj → sj ≠ .ro → li.b = lj.b → lj.o + cj.length ≤ li.o + ci.length
  tipu : ∀ i j ci cj n, h.ob i = .cells ci .tip n → h.ob j = .cells cj .tip n → i = j
  solo : ∀ i cs n, h.ob i = .cells cs .solo n → n = i ∧ ∀ j, (h.ob j).own = some i → j = i
  lin : ∀ i n, (h.ob i).own = some n → n ≤ i
  linc : ∀ i j n, (h.ob i).own = some n → (h.ob j).own = some n → μ i ≠ none → μ j ≠ none
  mp : ∀ i l es, μ i = some l → h.ob i = .map es → ¬ FB l.b ∧ ∃ ents clock, w.heap[l.b]? = some (.map ents clock) ∧ MapR μ es ents
  mpu : ∀ i j li lj es es', μ i = some li → μ j = some lj → h.ob i = .map es → h.ob j = .map es' → li.b = lj.b → i = j

/-- Objects that are not mapped are not touched. -/
def Unt (μ : Nat → Option Loc) (h : AH) (μ' : Nat → Option Loc) (h' : AH) : Prop :=
  h.n ≤ h'.n ∧ ∀ i, i < h.n → μ i = none → μ' i = none ∧ h'.ob i = h.ob i
theorem Unt.refl (μ : Nat → Option Loc) (h : AH) : Unt μ h μ h := ⟨Nat.le_refl _, fun _ _ hm => ⟨hm, rfl⟩⟩
theorem Unt.trans {μ μ1 μ2 : Nat → Option Loc} {h h1 h2 : AH} (a : Unt μ h μ1 h1) (b : Unt μ1 h1 μ2 h2) : Unt μ h μ2 h2 :=
  ⟨Nat.le_trans a.1 b.1, fun i hi hm => by
    obtain ⟨x, y⟩ := a.2 i hi hm
    obtain ⟨x', y'⟩ := b.2 i (Nat.lt_of_lt_of_le hi a.1) x
    exact ⟨x', y'.trans y⟩⟩

/-- What stands behind a step. -/
structure Post (P : Program) (FB : Nat → Prop) (w0 : World) (μ : Nat → Option Loc) (h : AH) (μ' : Nat → Option Loc) (h' : AH) (w' : World) : Prop where
  sim : Sim P FB w0 μ' h' w'
  ext : Ext μ μ'
  unt : Unt μ h μ' h'

theorem Post.trans {P : Program} {FB : Nat → Prop} {w0 : World} {μ μ1 μ2 : Nat → Option Loc} {h h1 h2 : AH} {w1 w2 : World}
    (a : Post P FB w0 μ h μ1 h1 w1) (b : Post P FB w0 μ1 h1 μ2 h2 w2) : Post P FB w0 μ h μ2 h2 w2 := ⟨b.sim, a.ext.trans b.ext, a.unt.trans b.unt⟩
theorem Sim.post {P : Program} {FB : Nat → Prop} {w0 : World} {μ : Nat → Option Loc} {h : AH} {w : World} (s : Sim P FB w0 μ h w) : Post P FB w0 μ h μ h w := ⟨s, Ext.refl _, Unt.refl _ _⟩

end Go.Sim
/- The abstract heap and the world go on together: a draw, a new object, a store, an append. Conditions: those that each theorem names. -/
set_option linter.unusedVariables false
set_option linter.unusedSimpArgs false
namespace Go.Sim
variable {P : Program} {FB : Nat → Prop} {w0 : World} {μ : Nat → Option Loc} {h : AH} {w : World}

def upd (μ : Nat → Option Loc) (i : Nat) (l : Loc) : Nat → Option Loc := fun j => if j = i then some l else μ j
theorem upd_same (i : Nat) (l : Loc) : upd μ i l i = some l := by simp [upd]
theorem upd_ne {i j : Nat} (l : Loc) (e : j ≠ i) : upd μ i l j = μ j := by simp [upd, e]

theorem AOb.own_some {o : AOb} {n : Nat} (e : o.own = some n) : ∃ cs st, o = .cells cs st n ∧ st ≠ .ro := by
  cases o with
  | none => simp [AOb.own] at e
  | map es => simp [AOb.own] at e
  | cells cs st ln => cases st <;> simp [AOb.own] at e <;> subst e <;> exact ⟨_, _, rfl, by simp⟩
theorem AOb.own_cells {cs : List Value} {st : Stat} {n : Nat} (e : st ≠ .ro) : (AOb.cells cs st n).own = some n := by cases st <;> simp_all [AOb.own]

theorem Sim.lt (s : Sim P FB w0 μ h w) {i : Nat} {l : Loc} {cs : List Value} {st : Stat} {ln : Nat} (hm : μ i = some l) (ho : h.ob i = .cells cs st ln) (hs : st ≠ .ro) : l.b < w.heap.size := by
  obtain ⟨_, ⟨arr, e, fz, hb, _⟩, _⟩ := s.blk i l cs st ln hm ho hs
  exact (Array.getElem?_eq_some_iff.1 hb).1
theorem Sim.lt_own (s : Sim P FB w0 μ h w) {i : Nat} {l : Loc} {n : Nat} (hm : μ i = some l) (ho : (h.ob i).own = some n) : l.b < w.heap.size := by
  obtain ⟨cs, st, e, hs⟩ := AOb.own_some ho
  exact s.lt hm e hs
theorem Sim.lt_map (s : Sim P FB w0 μ h w) {i : Nat} {l : Loc} {es : List (Value × Value)} (hm : μ i = some l) (ho : h.ob i = .map es) : l.b < w.heap.size := by
  obtain ⟨_, ents, c, hb, _⟩ := s.mp i l es hm ho
  exact (Array.getElem?_eq_some_iff.1 hb).1
theorem Sim.ltn (s : Sim P FB w0 μ h w) {i : Nat} {n : Nat} (ho : (h.ob i).own = some n) : i < h.n := by
  apply Classical.byContradiction; intro hc
  rw [s.big i (by omega)] at ho; simp [AOb.own] at ho
theorem Sim.none_n (s : Sim P FB w0 μ h w) : μ h.n = none := by
  cases hm : μ h.n with
  | none => rfl
  | some l => exact absurd (s.dom _ _ hm) (by omega)

/-- Where worlds have the same heap. -/
theorem Sim.same (s : Sim P FB w0 μ h w) {w' : World} (hh : w'.heap = w.heap) (h1 : w'.os = w.os) (h2 : w'.tape = w.tape) (h3 : w'.output = w.output) : Sim P FB w0 μ h w' := by
  have hc : ∀ a, w'.cell? a = w.cell? a := fun a => by simp [World.cell?, hh]
  refine { s with os := h1.trans s.os, tape := h2.trans s.tape, out := h3.trans s.out, frame := ?_, cell := ?_, blk := ?_, mp := ?_ }
  · intro b hb; rw [hh]; exact s.frame b hb
  · intro i l cs st ln a b j hj; simpa only [hc] using s.cell i l cs st ln a b j hj
  · intro i l cs st ln a b c; simpa only [Blk, hh] using s.blk i l cs st ln a b c
  · intro i l es a b; simpa only [hh] using s.mp i l es a b

theorem Sim.drew (s : Sim P FB w0 μ h w) : Sim P FB w0 μ h w.drew := s.same rfl rfl rfl rfl
theorem Sim.drawn (s : Sim P FB w0 μ h w) (d : Nat) : Sim P FB w0 μ h { w with drawn := d } := s.same rfl rfl rfl rfl

theorem MapR.ext {μ' : Nat → Option Loc} (hx : Ext μ μ') {es : List (Value × Value)} {ents : Array MapEntry} (m : MapR μ es ents) : MapR μ' es ents :=
  ⟨m.1, fun j a b => ⟨(m.2 j a b).1, (m.2 j a b).2.1, (m.2 j a b).2.2.ext hx⟩⟩

theorem Blk.alloc {l : Loc} (hb : Blk w l) (o : Obj) : Blk (w.alloc o) l := by
  obtain ⟨arr, e, fz, h1, h2⟩ := hb
  exact ⟨arr, e, fz, by rw [RowKit.Below.heap_alloc w o l.b (Array.getElem?_eq_some_iff.1 h1).1]; exact h1, h2⟩

theorem cell_alloc {a : Addr} {v : Value} (hc : w.cell? a = some v) (o : Obj) : (w.alloc o).cell? a = some v := by
  rw [World.cell?_alloc_lt]; exact hc; exact World.block_lt_of_cell? w a hc

/-- A new object, in a block of its own: alone, or behind what it was appended to. -/
theorem Sim.add (s : Sim P FB w0 μ h w) {cs : List Value} {st : Stat} {ln : Nat} {arr : Array Value} {e : TypeId} {fz : Nat × Nat}
    (hl : cs.length ≤ arr.size) (hr : ∀ j (hj : j < cs.length) (hj' : j < arr.size), VR μ cs[j] arr[j]) (hfz : ∀ j, j < arr.size → ¬ (fz.1 ≤ j ∧ j < fz.2))
    (c1 : st ≠ .ro) (c2 : st = .solo → ln = h.n) (c3 : st ≠ .solo → (∀ j c, h.ob j ≠ .cells c .tip ln) ∧ (∀ j c, h.ob j ≠ .cells c .solo ln)) (c3' : ln ≤ h.n)
    (c4 : ∀ j, (h.ob j).own = some ln → μ j ≠ none) (c5 : st = .tip ∨ st = .solo) (c6 : ∀ v ∈ cs, one v = true) :
    Post P FB w0 μ h (upd μ h.n ⟨w.heap.size, 0, arr.size⟩) (h.alloc (.cells cs st ln)) (w.alloc (.cells arr e fz)) := by
  have hx : Ext μ (upd μ h.n ⟨w.heap.size, 0, arr.size⟩) := fun i l hm => by
    rw [upd_ne _ (by have := s.dom i l hm; omega)]; exact hm
  have hob : ∀ i, i ≠ h.n → (h.alloc (.cells cs st ln)).ob i = h.ob i := fun i hi => by simp [AH.alloc, hi]
  have hnew : (h.alloc (.cells cs st ln)).ob h.n = .cells cs st ln := by simp [AH.alloc]
  have hown : (AOb.cells cs st ln).own = some ln := AOb.own_cells c1
  have hnl : ∀ j, (h.ob j).own = some ln → st ≠ .solo := fun j hj e => by
    have := s.lin j ln hj
    have := s.ltn hj
    have := c2 e
    omega
  refine ⟨?_, hx, ⟨by simp [AH.alloc], fun i hi hm => ⟨by rw [upd_ne _ (by omega)]; exact hm, hob i (by omega)⟩⟩⟩
  constructor
  case os => exact s.os
  case tape => exact s.tape
  case out => exact s.out
  case frame =>
    intro b hb
    obtain ⟨h1, h2⟩ := s.frame b hb
    exact ⟨by simp; omega, by rw [RowKit.Below.heap_alloc w _ b h1]; exact h2⟩
  case dom =>
    intro i l hm
    by_cases hi : i = h.n
    · subst hi; simp [AH.alloc]
    · rw [upd_ne _ hi] at hm; have := s.dom i l hm; simp [AH.alloc]; omega
  case big =>
    intro i hi
    simp [AH.alloc] at hi
    rw [hob i (by omega)]; exact s.big i (by omega)
  case glob =>
    intro g hg
    obtain ⟨l, a, b⟩ := s.glob g hg
    exact ⟨l, hx _ _ a, b⟩
  case tab =>
    intro g c n hg ho
    have e1 : g ≠ h.n := fun e1 => by
      obtain ⟨l, a, _⟩ := s.glob g hg
      have := s.dom g l a
      omega
    rw [hob g e1] at ho
    exact s.tab g c n hg ho
  case cell =>
    intro i l c1' st' ln' hm ho j hj
    by_cases hi : i = h.n
    · subst hi
      rw [upd_same] at hm; rw [hnew] at ho
      obtain rfl := Option.some.inj hm
      simp only [AOb.cells.injEq] at ho
      obtain ⟨rfl, rfl, rfl⟩ := ho
      have hj' : j < arr.size := by omega
      refine ⟨arr[j], ?_, (hr j hj hj').ext hx⟩
      rw [World.cell?_alloc_mark]; simp [hj']
    · rw [upd_ne _ hi] at hm; rw [hob i hi] at ho
      obtain ⟨cv, a, b⟩ := s.cell i l c1' st' ln' hm ho j hj
      exact ⟨cv, cell_alloc a _, b.ext hx⟩
  case blk =>
    intro i l c1' st' ln' hm ho hs
    by_cases hi : i = h.n
    · subst hi
      rw [upd_same] at hm; rw [hnew] at ho
      obtain rfl := Option.some.inj hm
      simp only [AOb.cells.injEq] at ho
      obtain ⟨rfl, rfl, rfl⟩ := ho
      refine ⟨fun hf => ?_, ⟨arr, e, fz, heap_alloc_new w _, by simp, hfz⟩, hl⟩
      have := (s.frame _ hf).1; simp at this
    · rw [upd_ne _ hi] at hm; rw [hob i hi] at ho
      obtain ⟨a, b, c⟩ := s.blk i l c1' st' ln' hm ho hs
      exact ⟨a, b.alloc _, c⟩
  case rob =>
    intro i l c n hm ho hc
    have e1 : i ≠ h.n := fun e1 => by
      subst e1; rw [hnew] at ho
      simp only [AOb.cells.injEq] at ho
      exact c1 ho.2.1
    rw [upd_ne _ e1] at hm; rw [hob i e1] at ho
    exact s.rob i l c n hm ho hc
  case onec =>
    intro i c st' n ho
    by_cases e1 : i = h.n
    · subst e1; rw [hnew] at ho
      simp only [AOb.cells.injEq] at ho
      obtain ⟨rfl, _, _⟩ := ho
      exact c6
    · rw [hob i e1] at ho; exact s.onec i c st' n ho
  case sep =>
    intro i j li lj ni nj hi hj oi oj hb
    by_cases e1 : i = h.n <;> by_cases e2 : j = h.n
    · subst e1; subst e2; rw [oi] at oj; exact Option.some.inj oj
    · subst e1; rw [upd_same] at hi; rw [upd_ne _ e2] at hj; rw [hob j e2] at oj
      have := s.lt_own hj oj
      obtain rfl := Option.some.inj hi
      simp at hb; omega
    · subst e2; rw [upd_same] at hj; rw [upd_ne _ e1] at hi; rw [hob i e1] at oi
      have := s.lt_own hi oi
      obtain rfl := Option.some.inj hj
      simp at hb; omega
    · rw [upd_ne _ e1] at hi; rw [upd_ne _ e2] at hj; rw [hob i e1] at oi; rw [hob j e2] at oj
      exact s.sep i j li lj ni nj hi hj oi oj hb
  case tip =>
    intro i j li lj ci cj sj ni nj hi hj oi oj hs hb
    by_cases e1 : i = h.n <;> by_cases e2 : j = h.n
    · subst e1; subst e2
      rw [hi] at hj; rw [oi] at oj
      obtain rfl := Option.some.inj hj
      simp only [AOb.cells.injEq] at oj
      obtain ⟨rfl, _, _⟩ := oj
      omega
    · subst e1; rw [upd_same] at hi; rw [upd_ne _ e2] at hj; rw [hob j e2] at oj
      have := s.lt hj oj hs
      obtain rfl := Option.some.inj hi
      simp at hb; omega
    · subst e2; rw [upd_same] at hj; rw [upd_ne _ e1] at hi; rw [hob i e1] at oi
      have := s.lt hi oi (by simp)
      obtain rfl := Option.some.inj hj
      simp at hb; omega
    · rw [upd_ne _ e1] at hi; rw [upd_ne _ e2] at hj; rw [hob i e1] at oi; rw [hob j e2] at oj
      exact s.tip i j li lj ci cj sj ni nj hi hj oi oj hs hb
  case tipu =>
    intro i j ci cj n oi oj
    by_cases e1 : i = h.n <;> by_cases e2 : j = h.n
    · omega
    · subst e1; rw [hnew] at oi; rw [hob j e2] at oj
      simp only [AOb.cells.injEq] at oi
      obtain ⟨rfl, rfl, rfl⟩ := oi
      exact absurd oj ((c3 (by simp)).1 j cj)
    · subst e2; rw [hnew] at oj; rw [hob i e1] at oi
      simp only [AOb.cells.injEq] at oj
      obtain ⟨rfl, rfl, rfl⟩ := oj
      exact absurd oi ((c3 (by simp)).1 i ci)
    · rw [hob i e1] at oi; rw [hob j e2] at oj
      exact s.tipu i j ci cj n oi oj
  case solo =>
    intro i c n oi
    by_cases e1 : i = h.n
    · subst e1
      rw [hnew] at oi
      simp only [AOb.cells.injEq] at oi
      obtain ⟨rfl, rfl, rfl⟩ := oi
      refine ⟨c2 rfl, fun j hj => ?_⟩
      apply Classical.byContradiction; intro e2
      rw [hob j e2] at hj
      have := s.lin j _ hj
      have := s.ltn hj
      omega
    · rw [hob i e1] at oi
      obtain ⟨rfl, hu⟩ := s.solo i c n oi
      refine ⟨rfl, fun j hj => ?_⟩
      by_cases e2 : j = h.n
      · subst e2
        rw [hnew, hown] at hj
        obtain rfl := Option.some.inj hj
        by_cases e3 : st = .solo
        · have := c2 e3; exact this.symm
        · exact absurd oi ((c3 e3).2 _ c)
      · rw [hob j e2] at hj; exact hu j hj
  case lin =>
    intro i n oi
    by_cases e1 : i = h.n
    · subst e1; rw [hnew, hown] at oi; obtain rfl := Option.some.inj oi; exact c3'
    · rw [hob i e1] at oi; exact s.lin i n oi
  case linc =>
    intro i j n oi oj hm
    by_cases e2 : j = h.n
    · subst e2; rw [upd_same]; simp
    · rw [upd_ne _ e2]
      rw [hob j e2] at oj
      by_cases e1 : i = h.n
      · subst e1; rw [hnew, hown] at oi; obtain rfl := Option.some.inj oi; exact c4 j oj
      · rw [hob i e1] at oi; rw [upd_ne _ e1] at hm; exact s.linc i j n oi oj hm
  case mp =>
    intro i l es hm ho
    have e1 : i ≠ h.n := fun e1 => by subst e1; rw [hnew] at ho; cases ho
    rw [upd_ne _ e1] at hm; rw [hob i e1] at ho
    obtain ⟨a, ents, c, b, d⟩ := s.mp i l es hm ho
    exact ⟨a, ents, c, by rw [RowKit.Below.heap_alloc w _ l.b (Array.getElem?_eq_some_iff.1 b).1]; exact b, d.ext hx⟩
  case mpu =>
    intro i j li lj es es' hi hj oi oj hb
    have e1 : i ≠ h.n := fun e1 => by subst e1; rw [hnew] at oi; cases oi
    have e2 : j ≠ h.n := fun e1 => by subst e1; rw [hnew] at oj; cases oj
    rw [upd_ne _ e1] at hi; rw [upd_ne _ e2] at hj; rw [hob i e1] at oi; rw [hob j e2] at oj
    exact s.mpu i j li lj es es' hi hj oi oj hb

/-- A new object alone in a new block. -/
theorem Sim.new (s : Sim P FB w0 μ h w) {cs : List Value} {arr : Array Value} {e : TypeId} {fz : Nat × Nat}
    (hl : cs.length ≤ arr.size) (hr : ∀ j (hj : j < cs.length) (hj' : j < arr.size), VR μ cs[j] arr[j]) (hfz : ∀ j, j < arr.size → ¬ (fz.1 ≤ j ∧ j < fz.2)) (h1 : ∀ v ∈ cs, one v = true) :
    Post P FB w0 μ h (upd μ h.n ⟨w.heap.size, 0, arr.size⟩) (h.alloc (.cells cs .solo h.n)) (w.alloc (.cells arr e fz)) :=
  s.add hl hr hfz (by simp) (fun _ => rfl) (fun hc => absurd rfl hc) (Nat.le_refl _) (fun j hj => by
    have := s.lin j _ hj
    have := s.ltn hj
    omega) (.inr rfl) h1

/-- A new object that nothing lies for (an empty one). -/
theorem Sim.newNone (s : Sim P FB w0 μ h w) (cs : List Value) (h1 : ∀ v ∈ cs, one v = true) : Post P FB w0 μ h μ (h.alloc (.cells cs .solo h.n)) w := by
  have hob : ∀ i, i ≠ h.n → (h.alloc (.cells cs .solo h.n)).ob i = h.ob i := fun i hi => by simp [AH.alloc, hi]
  have hnew : (h.alloc (.cells cs .solo h.n)).ob h.n = .cells cs .solo h.n := by simp [AH.alloc]
  have hne : ∀ i l, μ i = some l → i ≠ h.n := fun i l hm => by have := s.dom i l hm; omega
  refine ⟨?_, Ext.refl _, ⟨by simp [AH.alloc], fun i hi hm => ⟨hm, hob i (by omega)⟩⟩⟩
  constructor
  case os => exact s.os
  case tape => exact s.tape
  case out => exact s.out
  case frame => exact s.frame
  case dom => intro i l hm; have := s.dom i l hm; simp [AH.alloc]; omega
  case big => intro i hi; simp [AH.alloc] at hi; rw [hob i (by omega)]; exact s.big i (by omega)
  case glob => exact s.glob
  case tab =>
    intro g c n hg ho
    have e1 : g ≠ h.n := fun e1 => by
      obtain ⟨l, a, _⟩ := s.glob g hg
      have := s.dom g l a
      omega
    rw [hob g e1] at ho
    exact s.tab g c n hg ho
  case cell => intro i l c st ln hm ho j hj; rw [hob i (hne i l hm)] at ho; exact s.cell i l c st ln hm ho j hj
  case blk => intro i l c st ln hm ho hs; rw [hob i (hne i l hm)] at ho; exact s.blk i l c st ln hm ho hs
  case rob => intro i l c n hm ho hc; rw [hob i (hne i l hm)] at ho; exact s.rob i l c n hm ho hc
  case onec =>
    intro i c st' n ho
    by_cases e1 : i = h.n
    · subst e1; rw [hnew] at ho
      simp only [AOb.cells.injEq] at ho
      obtain ⟨rfl, _, _⟩ := ho
      exact h1
    · rw [hob i e1] at ho; exact s.onec i c st' n ho
  case sep =>
    intro i j li lj ni nj hi hj oi oj hb
    rw [hob i (hne _ _ hi)] at oi; rw [hob j (hne _ _ hj)] at oj
    exact s.sep i j li lj ni nj hi hj oi oj hb
  case tip =>
    intro i j li lj ci cj sj ni nj hi hj oi oj hs hb
    rw [hob i (hne _ _ hi)] at oi; rw [hob j (hne _ _ hj)] at oj
    exact s.tip i j li lj ci cj sj ni nj hi hj oi oj hs hb
  case tipu =>
    intro i j ci cj n oi oj
    have e1 : i ≠ h.n := fun e1 => by subst e1; rw [hnew] at oi; cases oi
    have e2 : j ≠ h.n := fun e1 => by subst e1; rw [hnew] at oj; cases oj
    rw [hob i e1] at oi; rw [hob j e2] at oj
    exact s.tipu i j ci cj n oi oj
  case solo =>
    intro i c n oi
    by_cases e1 : i = h.n
    · subst e1
      rw [hnew] at oi
      simp only [AOb.cells.injEq] at oi
      refine ⟨oi.2.2.symm, fun j hj => ?_⟩
      apply Classical.byContradiction; intro e2
      rw [hob j e2] at hj
      have := s.lin j _ hj
      have := s.ltn hj
      omega
    · rw [hob i e1] at oi
      obtain ⟨rfl, hu⟩ := s.solo i c n oi
      refine ⟨rfl, fun j hj => ?_⟩
      by_cases e2 : j = h.n
      · subst e2
        rw [hnew] at hj
        simp [AOb.own] at hj; exact hj
      · rw [hob j e2] at hj; exact hu j hj
  case lin =>
    intro i n oi
    by_cases e1 : i = h.n
    · subst e1; rw [hnew] at oi; simp [AOb.own] at oi; omega
    · rw [hob i e1] at oi; exact s.lin i n oi
  case linc =>
    intro i j n oi oj hm
    have e1 : i ≠ h.n := fun e => by subst e; exact hm s.none_n
    rw [hob i e1] at oi
    by_cases e2 : j = h.n
    · subst e2; rw [hnew] at oj
      simp [AOb.own] at oj
      have := s.lin i _ oi; have := s.ltn oi; omega
    · rw [hob j e2] at oj; exact s.linc i j n oi oj hm
  case mp => intro i l es hm ho; rw [hob i (hne i l hm)] at ho; exact s.mp i l es hm ho
  case mpu =>
    intro i j li lj es es' hi hj oi oj hb
    rw [hob i (hne _ _ hi)] at oi; rw [hob j (hne _ _ hj)] at oj
    exact s.mpu i j li lj es es' hi hj oi oj hb

/-- A new map. -/
theorem Sim.newMap (s : Sim P FB w0 μ h w) : Post P FB w0 μ h (upd μ h.n ⟨w.heap.size, 0, 0⟩) (h.alloc (.map [])) (w.alloc (.map #[] 0)) := by
  have hx : Ext μ (upd μ h.n ⟨w.heap.size, 0, 0⟩) := fun i l hm => by
    rw [upd_ne _ (by have := s.dom i l hm; omega)]; exact hm
  have hob : ∀ i, i ≠ h.n → (h.alloc (.map [])).ob i = h.ob i := fun i hi => by simp [AH.alloc, hi]
  have hnew : (h.alloc (.map [])).ob h.n = .map [] := by simp [AH.alloc]
  have hno : ∀ i n, ((h.alloc (.map [])).ob i).own = some n → i ≠ h.n := fun i n ho e => by subst e; rw [hnew] at ho; simp [AOb.own] at ho
  have hnc : ∀ i c st n, (h.alloc (.map [])).ob i = .cells c st n → i ≠ h.n := fun i c st n ho e => by subst e; rw [hnew] at ho; cases ho
  refine ⟨?_, hx, ⟨by simp [AH.alloc], fun i hi hm => ⟨by rw [upd_ne _ (by omega)]; exact hm, hob i (by omega)⟩⟩⟩
  constructor
  case os => exact s.os
  case tape => exact s.tape
  case out => exact s.out
  case frame =>
    intro b hb
    obtain ⟨h1, h2⟩ := s.frame b hb
    exact ⟨by simp; omega, by rw [RowKit.Below.heap_alloc w _ b h1]; exact h2⟩
  case dom =>
    intro i l hm
    by_cases hi : i = h.n
    · subst hi; simp [AH.alloc]
    · rw [upd_ne _ hi] at hm; have := s.dom i l hm; simp [AH.alloc]; omega
  case big => intro i hi; simp [AH.alloc] at hi; rw [hob i (by omega)]; exact s.big i (by omega)
  case glob =>
    intro g hg
    obtain ⟨l, a, b⟩ := s.glob g hg
    exact ⟨l, hx _ _ a, b⟩
  case tab =>
    intro g c n hg ho
    have e1 : g ≠ h.n := fun e1 => by
      obtain ⟨l, a, _⟩ := s.glob g hg
      have := s.dom g l a
      omega
    rw [hob g e1] at ho
    exact s.tab g c n hg ho
  case cell =>
    intro i l c1' st' ln' hm ho j hj
    have hi := hnc _ _ _ _ ho
    rw [upd_ne _ hi] at hm; rw [hob i hi] at ho
    obtain ⟨cv, a, b⟩ := s.cell i l c1' st' ln' hm ho j hj
    exact ⟨cv, cell_alloc a _, b.ext hx⟩
  case blk =>
    intro i l c1' st' ln' hm ho hs
    have hi := hnc _ _ _ _ ho
    rw [upd_ne _ hi] at hm; rw [hob i hi] at ho
    obtain ⟨a, b, c⟩ := s.blk i l c1' st' ln' hm ho hs
    exact ⟨a, b.alloc _, c⟩
  case rob =>
    intro i l c n hm ho hc
    have e1 := hnc _ _ _ _ ho
    rw [upd_ne _ e1] at hm; rw [hob i e1] at ho
    exact s.rob i l c n hm ho hc
  case onec => intro i c st' n ho; have e1 := hnc _ _ _ _ ho; rw [hob i e1] at ho; exact s.onec i c st' n ho
  case sep =>
    intro i j li lj ni nj hi hj oi oj hb
    have e1 := hno _ _ oi
    have e2 := hno _ _ oj
    rw [upd_ne _ e1] at hi; rw [upd_ne _ e2] at hj; rw [hob i e1] at oi; rw [hob j e2] at oj
    exact s.sep i j li lj ni nj hi hj oi oj hb
  case tip =>
    intro i j li lj ci cj sj ni nj hi hj oi oj hs hb
    have e1 := hnc _ _ _ _ oi
    have e2 := hnc _ _ _ _ oj
    rw [upd_ne _ e1] at hi; rw [upd_ne _ e2] at hj; rw [hob i e1] at oi; rw [hob j e2] at oj
    exact s.tip i j li lj ci cj sj ni nj hi hj oi oj hs hb
  case tipu =>
    intro i j ci cj n oi oj
    rw [hob i (hnc _ _ _ _ oi)] at oi; rw [hob j (hnc _ _ _ _ oj)] at oj
    exact s.tipu i j ci cj n oi oj
  case solo =>
    intro i c n oi
    rw [hob i (hnc _ _ _ _ oi)] at oi
    obtain ⟨rfl, hu⟩ := s.solo i c n oi
    exact ⟨rfl, fun j hj => by rw [hob j (hno _ _ hj)] at hj; exact hu j hj⟩
  case lin => intro i n oi; rw [hob i (hno _ _ oi)] at oi; exact s.lin i n oi
  case linc =>
    intro i j n oi oj hm
    have e1 := hno _ _ oi
    have e2 := hno _ _ oj
    rw [upd_ne _ e1] at hm; rw [upd_ne _ e2]; rw [hob i e1] at oi; rw [hob j e2] at oj
    exact s.linc i j n oi oj hm
  case mp =>
    intro i l es hm ho
    by_cases e1 : i = h.n
    · subst e1
      rw [upd_same] at hm; rw [hnew] at ho
      obtain rfl := Option.some.inj hm
      simp only [AOb.map.injEq] at ho
      subst ho
      refine ⟨fun hf => ?_, #[], 0, heap_alloc_new w _, rfl, fun j hj => by simp at hj⟩
      have := (s.frame _ hf).1; simp at this
    · rw [upd_ne _ e1] at hm; rw [hob i e1] at ho
      obtain ⟨a, ents, c, b, d⟩ := s.mp i l es hm ho
      exact ⟨a, ents, c, by rw [RowKit.Below.heap_alloc w _ l.b (Array.getElem?_eq_some_iff.1 b).1]; exact b, d.ext hx⟩
  case mpu =>
    intro i j li lj es es' hi hj oi oj hb
    by_cases e1 : i = h.n <;> by_cases e2 : j = h.n
    · omega
    · subst e1; rw [upd_same] at hi; rw [upd_ne _ e2] at hj; rw [hob j e2] at oj
      have := s.lt_map hj oj
      obtain rfl := Option.some.inj hi
      simp at hb; omega
    · subst e2; rw [upd_same] at hj; rw [upd_ne _ e1] at hi; rw [hob i e1] at oi
      have := s.lt_map hi oi
      obtain rfl := Option.some.inj hj
      simp at hb; omega
    · rw [upd_ne _ e1] at hi; rw [upd_ne _ e2] at hj; rw [hob i e1] at oi; rw [hob j e2] at oj
      exact s.mpu i j li lj es es' hi hj oi oj hb

end Go.Sim
/- The abstract heap and the world go on together: stores and appends in place. Conditions: those that each theorem names. -/
set_option linter.unusedVariables false
set_option linter.unusedSimpArgs false
namespace Go.Sim
variable {P : Program} {FB : Nat → Prop} {w0 : World} {μ : Nat → Option Loc} {h : AH} {w : World}

theorem heap_setCells_ne (b b' : Nat) (e : b' ≠ b) : ∀ (vs : List Value) (o : Nat) (w : World), (w.setCells b o vs).heap[b']? = w.heap[b']?
  | [], _, _ => rfl
  | v :: r, o, w => by
    rw [World.setCells, heap_setCells_ne b b' e r (o + 1)]
    exact RowKit.Below.heap_setCell w ⟨b, o, none⟩ v b' e
theorem heap_setCells_same (b : Nat) : ∀ (vs : List Value) (o : Nat) (w : World) (arr : Array Value) (e : TypeId) (fz : Nat × Nat), w.heap[b]? = some (.cells arr e fz) →
    ∃ arr', (w.setCells b o vs).heap[b]? = some (.cells arr' e fz) ∧ arr'.size = arr.size
  | [], _, _, arr, _, _, hb => ⟨arr, hb, rfl⟩
  | v :: r, o, w, arr, e, fz, hb => by
    rw [World.setCells]
    have : (w.setCell ⟨b, o, none⟩ v).heap[b]? = some (.cells (arr.setIfInBounds o v) e fz) := by
      simp [World.setCell, Array.getElem?_modify, hb]
    obtain ⟨arr', h1, h2⟩ := heap_setCells_same b r (o + 1) _ _ e fz this
    exact ⟨arr', h1, by simpa using h2⟩
theorem size_setCells (b : Nat) : ∀ (vs : List Value) (o : Nat) (w : World), (w.setCells b o vs).heap.size = w.heap.size ∧ (w.setCells b o vs).os = w.os ∧ (w.setCells b o vs).tape = w.tape ∧ (w.setCells b o vs).output = w.output
  | [], _, _ => ⟨rfl, rfl, rfl, rfl⟩
  | v :: r, o, w => by
    rw [World.setCells]
    obtain ⟨a, b1, c, d⟩ := size_setCells b r (o + 1) (w.setCell ⟨b, o, none⟩ v)
    exact ⟨by rw [a]; simp [World.setCell], b1, c, d⟩

theorem Blk.setCells {l l' : Loc} (hb : Blk w l) (o : Nat) (vs : List Value) : Blk (w.setCells l'.b o vs) l := by
  obtain ⟨arr, e, fz, h1, h2, h3⟩ := hb
  by_cases hl : l.b = l'.b
  · rw [hl] at h1
    obtain ⟨arr', a, b⟩ := heap_setCells_same l'.b vs o w arr e fz h1
    exact ⟨arr', e, fz, by rw [hl]; exact a, by omega, fun j hj => h3 j (by omega)⟩
  · exact ⟨arr, e, fz, by rw [heap_setCells_ne _ _ hl]; exact h1, h2, h3⟩

theorem Blk.cell {l : Loc} (hb : Blk w l) {j : Nat} (hj : j < l.room) : ∃ v, w.cell? ⟨l.b, l.o + j, none⟩ = some v := by
  obtain ⟨arr, e, fz, h1, h2, h3⟩ := hb
  have : l.o + j < arr.size := by omega
  exact ⟨arr[l.o + j], by simp [World.cell?, h1, this]⟩
theorem Blk.frozen {l : Loc} (hb : Blk w l) {j : Nat} (hj : j < l.room) : w.frozen? ⟨l.b, l.o + j, none⟩ = false := by
  obtain ⟨arr, e, fz, h1, h2, h3⟩ := hb
  have h4 := h3 (l.o + j) (by omega)
  obtain ⟨lo, hi⟩ := fz
  simp only [World.frozen?, h1]
  simpa using h4

/-- A heap with less said of it. -/
structure Less (h h' : AH) : Prop where
  n : h'.n = h.n
  ob : ∀ j, h'.ob j = .none ∨ h'.ob j = h.ob j ∨ ∃ cs st ln, h.ob j = .cells cs st ln ∧ st ≠ .ro ∧ h'.ob j = .cells cs .old ln

theorem Less.cells {h h' : AH} (z : Less h h') {j : Nat} {cs : List Value} {st : Stat} {ln : Nat} (e : h'.ob j = .cells cs st ln) :
    ∃ st', h.ob j = .cells cs st' ln ∧ (st = st' ∨ (st = .old ∧ st' ≠ .ro)) := by
  rcases z.ob j with a | a | ⟨c, s, n, a, b, d⟩
  · rw [a] at e; cases e
  · exact ⟨st, by rw [← a]; exact e, .inl rfl⟩
  · rw [d] at e
    simp only [AOb.cells.injEq] at e
    obtain ⟨rfl, rfl, rfl⟩ := e
    exact ⟨s, a, .inr ⟨rfl, b⟩⟩
theorem Less.own {h h' : AH} (z : Less h h') {j n : Nat} (e : (h'.ob j).own = some n) : (h.ob j).own = some n := by
  obtain ⟨cs, st, e', hs⟩ := AOb.own_some e
  obtain ⟨st', a, b⟩ := z.cells e'
  rw [a]
  refine AOb.own_cells ?_
  rcases b with rfl | ⟨_, b⟩
  · exact hs
  · exact b
theorem Less.map {h h' : AH} (z : Less h h') {j : Nat} {es : List (Value × Value)} (e : h'.ob j = .map es) : h.ob j = .map es := by
  rcases z.ob j with a | a | ⟨c, s, n, a, b, d⟩
  · rw [a] at e; cases e
  · rw [← a]; exact e
  · rw [d] at e; cases e

theorem Sim.less (s : Sim P FB w0 μ h w) {h' : AH} (z : Less h h') : Sim P FB w0 μ h' w := by
  constructor
  case os => exact s.os
  case tape => exact s.tape
  case out => exact s.out
  case frame => exact s.frame
  case dom => intro i l hm; rw [z.n]; exact s.dom i l hm
  case big =>
    intro i hi
    rw [z.n] at hi
    rcases z.ob i with a | a | ⟨c, st, n, a, b, d⟩
    · exact a
    · rw [a]; exact s.big i hi
    · rw [s.big i hi] at a; cases a
  case glob => exact s.glob
  case tab =>
    intro g c n hg ho
    obtain ⟨st', a, b⟩ := z.cells ho
    rcases b with rfl | ⟨b, _⟩
    · exact s.tab g c n hg a
    · cases b
  case cell =>
    intro i l cs st ln hm ho j hj
    obtain ⟨st', a, _⟩ := z.cells ho
    exact s.cell i l cs st' ln hm a j hj
  case blk =>
    intro i l cs st ln hm ho hs
    obtain ⟨st', a, b⟩ := z.cells ho
    refine s.blk i l cs st' ln hm a ?_
    rcases b with rfl | ⟨_, b⟩
    · exact hs
    · exact b
  case rob =>
    intro i l cs ln hm ho hc
    obtain ⟨st', a, b⟩ := z.cells ho
    rcases b with rfl | ⟨b, _⟩
    · exact s.rob i l cs ln hm a hc
    · cases b
  case onec =>
    intro i cs st ln ho
    obtain ⟨st', a, _⟩ := z.cells ho
    exact s.onec i cs st' ln a
  case sep => intro i j li lj ni nj hi hj oi oj hb; exact s.sep i j li lj ni nj hi hj (z.own oi) (z.own oj) hb
  case tip =>
    intro i j li lj ci cj sj ni nj hi hj oi oj hs hb
    obtain ⟨si', a, b⟩ := z.cells oi
    obtain ⟨sj', a', b'⟩ := z.cells oj
    rcases b with rfl | ⟨b, _⟩
    · refine s.tip i j li lj ci cj sj' ni nj hi hj a a' ?_ hb
      rcases b' with rfl | ⟨_, b'⟩
      · exact hs
      · exact b'
    · cases b
  case tipu =>
    intro i j ci cj n oi oj
    obtain ⟨si', a, b⟩ := z.cells oi
    obtain ⟨sj', a', b'⟩ := z.cells oj
    rcases b with rfl | ⟨b, _⟩
    · rcases b' with rfl | ⟨b', _⟩
      · exact s.tipu i j ci cj n a a'
      · cases b'
    · cases b
  case solo =>
    intro i cs n oi
    obtain ⟨si', a, b⟩ := z.cells oi
    rcases b with rfl | ⟨b, _⟩
    · obtain ⟨e, hu⟩ := s.solo i cs n a
      exact ⟨e, fun j hj => hu j (z.own hj)⟩
    · cases b
  case lin => intro i n oi; exact s.lin i n (z.own oi)
  case linc => intro i j n oi oj hm; exact s.linc i j n (z.own oi) (z.own oj) hm
  case mp => intro i l es hm ho; exact s.mp i l es hm (z.map ho)
  case mpu => intro i j li lj es es' hi hj oi oj hb; exact s.mpu i j li lj es es' hi hj (z.map oi) (z.map oj) hb

theorem Less.demote {i : Nat} {cs : List Value} {st : Stat} {ln : Nat} (ho : h.ob i = .cells cs st ln) (hs : st ≠ .ro) : Less h (h.set i (.cells cs .old ln)) := by
  refine ⟨rfl, fun j => ?_⟩
  by_cases e : j = i
  · subst e; exact .inr (.inr ⟨cs, st, ln, ho, hs, by simp [AH.set]⟩)
  · exact .inr (.inl (by simp [AH.set, e]))
theorem Less.kill (ln : Nat) : Less h (h.kill ln) := by
  refine ⟨rfl, fun j => ?_⟩
  by_cases e : (h.ob j).own = some ln
  · exact .inl (by simp [AH.kill, e])
  · exact .inr (.inl (by simp [AH.kill, e]))

/-- Values put into a list, from a place on. -/
def putL : List Value → Nat → List Value → List Value
  | cs, _, [] => cs
  | cs, o, v :: r => putL (cs.set o v) (o + 1) r
theorem putL_length : ∀ (vs cs : List Value) (o : Nat), (putL cs o vs).length = cs.length
  | [], _, _ => rfl
  | v :: r, cs, o => by rw [putL, putL_length r]; simp
theorem putL_out : ∀ (vs cs : List Value) (o j : Nat), j < o ∨ o + vs.length ≤ j → (putL cs o vs)[j]? = cs[j]?
  | [], _, _, _, _ => rfl
  | v :: r, cs, o, j, hj => by
    rw [putL, putL_out r (cs.set o v) (o + 1) j (by simp at hj; omega)]
    rw [List.getElem?_set_ne (by simp at hj; omega)]
theorem putL_in : ∀ (vs cs : List Value) (o j : Nat) (hj : j < vs.length), o + vs.length ≤ cs.length → (putL cs o vs)[o + j]? = some vs[j]
  | v :: r, cs, o, 0, _, hb => by
    rw [putL, putL_out r _ _ _ (.inl (by omega))]
    simp at hb
    simp [show o < cs.length by omega]
  | v :: r, cs, o, j + 1, hj, hb => by
    rw [putL, show o + (j + 1) = o + 1 + j by omega, putL_in r (cs.set o v) (o + 1) j (by simpa using hj) (by simp at hb ⊢; omega)]
    simp

theorem putL_mem : ∀ (vs cs : List Value) (o : Nat) (v : Value), v ∈ putL cs o vs → v ∈ cs ∨ v ∈ vs
  | [], _, _, _, hv => .inl hv
  | x :: r, cs, o, v, hv => by
    rw [putL] at hv
    rcases putL_mem r (cs.set o x) (o + 1) v hv with a | a
    · rcases List.mem_or_eq_of_mem_set a with b | b
      · exact .inl b
      · exact .inr (by simp [b])
    · exact .inr (by simp [a])
/-- A store into an object that shares with no other. -/
theorem Sim.store (s : Sim P FB w0 μ h w) {i : Nat} {l : Loc} {cs : List Value} {st : Stat} {ln : Nat} (hm : μ i = some l) (ho : h.ob i = .cells cs st ln) (hs : st ≠ .ro)
    (hal : ∀ j, (h.ob j).own = some ln → j = i) (off : Nat) {vs cvs : List Value} (hb : off + vs.length ≤ cs.length) (hv : LR μ vs cvs) (h1 : ∀ v ∈ vs, one v = true) :
    Sim P FB w0 μ (h.set i (.cells (putL cs off vs) st ln)) (w.setCells l.b (l.o + off) cvs) := by
  have hob : ∀ j, j ≠ i → (h.set i (.cells (putL cs off vs) st ln)).ob j = h.ob j := fun j hj => by simp [AH.set, hj]
  have hnew : (h.set i (.cells (putL cs off vs) st ln)).ob i = .cells (putL cs off vs) st ln := by simp [AH.set]
  have howni : (h.ob i).own = some ln := by rw [ho]; exact AOb.own_cells hs
  have hown : ∀ j, ((h.set i (.cells (putL cs off vs) st ln)).ob j).own = (h.ob j).own := fun j => by
    by_cases e : j = i
    · subst e; rw [hnew, howni]; exact AOb.own_cells hs
    · rw [hob j e]
  obtain ⟨hfb, hblk, hroom⟩ := s.blk i l cs st ln hm ho hs
  have hcells : ∀ j c st' ln', (h.set i (.cells (putL cs off vs) st ln)).ob j = .cells c st' ln' → ∃ c', h.ob j = .cells c' st' ln' ∧ c'.length = c.length := fun j c st' ln' e => by
    by_cases e1 : j = i
    · subst e1
      rw [hnew] at e
      simp only [AOb.cells.injEq] at e
      obtain ⟨rfl, rfl, rfl⟩ := e
      exact ⟨cs, ho, (putL_length _ _ _).symm⟩
    · rw [hob j e1] at e; exact ⟨c, e, rfl⟩
  have hother : ∀ j lj, j ≠ i → μ j = some lj → (∃ n, (h.ob j).own = some n) → lj.b ≠ l.b := fun j lj e hj ⟨n, hn⟩ hbb => by
    have := s.sep j i lj l n ln hj hm hn howni hbb
    subst this
    exact e (hal j hn)
  obtain ⟨z1, z2, z3, z4⟩ := size_setCells l.b cvs (l.o + off) w
  have hlen := hv.1
  constructor
  case os => rw [z2]; exact s.os
  case tape => rw [z3]; exact s.tape
  case out => rw [z4]; exact s.out
  case frame =>
    intro b hb'
    obtain ⟨h1, h2⟩ := s.frame b hb'
    exact ⟨by omega, by rw [heap_setCells_ne _ _ (fun e => hfb (by rw [← e]; exact hb'))]; exact h2⟩
  case dom => exact s.dom
  case big =>
    intro j hj
    have : j ≠ i := fun e => by subst e; have := s.big _ hj; rw [ho] at this; cases this
    rw [hob j this]; exact s.big j hj
  case glob => exact s.glob
  case tab =>
    intro g c n hg ho
    obtain ⟨c', a, b⟩ := hcells g c _ n ho
    obtain ⟨arr, e, fz, q1, q2⟩ := s.tab g c' n hg a
    exact ⟨arr, e, fz, q1, by omega⟩
  case cell =>
    intro j lj c st' ln' hj oj q hq
    by_cases e : j = i
    · subst e
      rw [hm] at hj
      obtain rfl := Option.some.inj hj
      rw [hnew] at oj
      simp only [AOb.cells.injEq] at oj
      obtain ⟨rfl, rfl, rfl⟩ := oj
      have hq' : q < cs.length := by rw [putL_length] at hq; exact hq
      by_cases hin : off ≤ q ∧ q < off + vs.length
      · obtain ⟨d, rfl⟩ : ∃ d, q = off + d := ⟨q - off, by omega⟩
        have hd : d < vs.length := by omega
        have hd' : d < cvs.length := by omega
        refine ⟨cvs[d], ?_, ?_⟩
        · have := World.cell?_setCells_in l.b cvs (l.o + off) w (fun t ht => by
            obtain ⟨v, hv'⟩ := hblk.cell (j := off + t) (by omega)
            rw [show l.o + off + t = l.o + (off + t) by omega, hv']; rfl) d hd'
          rw [show l.o + (off + d) = l.o + off + d by omega]; exact this
        · have e1 := putL_in vs cs off d hd hb
          rw [List.getElem?_eq_getElem hq] at e1
          rw [Option.some.inj e1]
          exact hv.2 d hd hd'
      · obtain ⟨cv, a, b⟩ := s.cell j l cs st ln hm ho q hq'
        refine ⟨cv, ?_, ?_⟩
        · rw [World.cell?_setCells_out l.b cvs (l.o + off) w _ (fun _ _ => by simp; omega)]; exact a
        · have e1 := putL_out vs cs off q (by omega)
          rw [List.getElem?_eq_getElem hq, List.getElem?_eq_getElem hq'] at e1
          rw [Option.some.inj e1]; exact b
    · rw [hob j e] at oj
      obtain ⟨cv, a, b⟩ := s.cell j lj c st' ln' hj oj q hq
      refine ⟨cv, ?_, b⟩
      have hne : lj.b ≠ l.b := by
        by_cases hr : st' = .ro
        · subst hr; intro e2; exact hfb (by rw [← e2]; exact s.rob j lj c ln' hj oj (fun e => by rw [e] at hq; cases hq))
        · exact hother j lj e hj ⟨ln', by rw [oj]; exact AOb.own_cells hr⟩
      rw [World.cell?_setCells_out l.b cvs (l.o + off) w _ (fun e2 _ => absurd e2 hne)]; exact a
  case blk =>
    intro j lj c st' ln' hj oj hs'
    obtain ⟨c', a, b⟩ := hcells j c st' ln' oj
    obtain ⟨x, y, z⟩ := s.blk j lj c' st' ln' hj a hs'
    exact ⟨x, y.setCells _ _, by omega⟩
  case rob =>
    intro j lj c ln' hj oj hc
    obtain ⟨c', a, b⟩ := hcells j c _ ln' oj
    exact s.rob j lj c' ln' hj a (fun e => hc (by rw [e] at b; exact List.eq_nil_of_length_eq_zero (by have b2 := b; simp at b2; omega)))
  case onec =>
    intro j c st' n oj v hv'
    by_cases e : j = i
    · subst e; rw [hnew] at oj
      simp only [AOb.cells.injEq] at oj
      obtain ⟨rfl, _, _⟩ := oj
      rcases putL_mem _ _ _ _ hv' with a | a
      · exact s.onec _ _ _ _ ho v a
      · exact h1 v a
    · rw [hob j e] at oj; exact s.onec j c st' n oj v hv'
  case sep => intro a b la lb na nb ha hb' oa ob hbb; rw [hown] at oa ob; exact s.sep a b la lb na nb ha hb' oa ob hbb
  case tip =>
    intro a b la lb ca cb sb na nb ha hb' oa ob hsb hbb
    obtain ⟨ca', a1, a2⟩ := hcells a ca _ _ oa
    obtain ⟨cb', b1, b2⟩ := hcells b cb _ _ ob
    have := s.tip a b la lb ca' cb' sb na nb ha hb' a1 b1 hsb hbb
    omega
  case tipu =>
    intro a b ca cb n oa ob
    obtain ⟨ca', a1, a2⟩ := hcells a ca _ _ oa
    obtain ⟨cb', b1, b2⟩ := hcells b cb _ _ ob
    exact s.tipu a b ca' cb' n a1 b1
  case solo =>
    intro a c n oa
    obtain ⟨ca', a1, a2⟩ := hcells a c _ _ oa
    obtain ⟨e, hu⟩ := s.solo a ca' n a1
    exact ⟨e, fun j hj => hu j (by rw [hown] at hj; exact hj)⟩
  case lin => intro a n oa; rw [hown] at oa; exact s.lin a n oa
  case linc => intro a b n oa ob hma; rw [hown] at oa ob; exact s.linc a b n oa ob hma
  case mp =>
    intro j lj es hj oj
    have e1 : j ≠ i := fun e => by subst e; rw [hnew] at oj; cases oj
    rw [hob j e1] at oj
    obtain ⟨a, ents, c, b, d⟩ := s.mp j lj es hj oj
    refine ⟨a, ents, c, ?_, d⟩
    rw [heap_setCells_ne]
    · exact b
    · intro e2
      obtain ⟨arr, e, fz, hb1, _⟩ := hblk
      rw [← e2, b] at hb1; cases hb1
  case mpu =>
    intro a b la lb es es' ha hb' oa ob hbb
    have e1 : a ≠ i := fun e => by subst e; rw [hnew] at oa; cases oa
    have e2 : b ≠ i := fun e => by subst e; rw [hnew] at ob; cases ob
    rw [hob a e1] at oa; rw [hob b e2] at ob
    exact s.mpu a b la lb es es' ha hb' oa ob hbb

/-- A new object in the block of one that it was appended to, in place: what is written stands behind all others. -/
theorem Sim.addSame (s : Sim P FB w0 μ h w) {l : Loc} {ln off p : Nat} {cs' cvs : List Value}
    (hfb : ¬ FB l.b) (hblk : Blk w l) (hoff : off ≤ l.room) (hp : p + cvs.length = l.o + off + cs'.length) (hroom : cs'.length ≤ l.room - off) (hpo : l.o + off ≤ p)
    (hin : ∀ j lj cj sj nj, μ j = some lj → h.ob j = .cells cj sj nj → sj ≠ .ro → lj.b = l.b → nj = ln ∧ lj.o + cj.length ≤ p)
    (hlow : ∀ j (hj : j < cs'.length), l.o + off + j < p → ∃ cv, w.cell? ⟨l.b, l.o + off + j, none⟩ = some cv ∧ VR μ cs'[j] cv)
    (hhigh : LR μ (cs'.drop (p - (l.o + off))) cvs)
    (c3 : (∀ j c, h.ob j ≠ .cells c .tip ln) ∧ (∀ j c, h.ob j ≠ .cells c .solo ln)) (c3' : ln ≤ h.n) (c4 : ∀ j, (h.ob j).own = some ln → μ j ≠ none) (c6 : ∀ v ∈ cs', one v = true) :
    Post P FB w0 μ h (upd μ h.n ⟨l.b, l.o + off, l.room - off⟩) (h.alloc (.cells cs' .tip ln)) (w.setCells l.b p cvs) := by
  have hx : Ext μ (upd μ h.n ⟨l.b, l.o + off, l.room - off⟩) := fun i l hm => by
    rw [upd_ne _ (by have := s.dom i l hm; omega)]; exact hm
  have hob : ∀ i, i ≠ h.n → (h.alloc (.cells cs' .tip ln)).ob i = h.ob i := fun i hi => by simp [AH.alloc, hi]
  have hnew : (h.alloc (.cells cs' .tip ln)).ob h.n = .cells cs' .tip ln := by simp [AH.alloc]
  have hown : (AOb.cells cs' .tip ln).own = some ln := rfl
  obtain ⟨z1, z2, z3, z4⟩ := size_setCells l.b cvs p w
  refine ⟨?_, hx, ⟨by simp [AH.alloc], fun i hi hm => ⟨by rw [upd_ne _ (by omega)]; exact hm, hob i (by omega)⟩⟩⟩
  have hino : ∀ j lj nj, μ j = some lj → (h.ob j).own = some nj → lj.b = l.b → nj = ln := fun j lj nj hj oj hb => by
    obtain ⟨c, st, e, hs⟩ := AOb.own_some oj
    exact (hin j lj c st nj hj e hs hb).1
  constructor
  case os => rw [z2]; exact s.os
  case tape => rw [z3]; exact s.tape
  case out => rw [z4]; exact s.out
  case frame =>
    intro b hb'
    obtain ⟨h1, h2⟩ := s.frame b hb'
    exact ⟨by omega, by rw [heap_setCells_ne _ _ (fun e => hfb (by rw [← e]; exact hb'))]; exact h2⟩
  case dom =>
    intro i l' hm
    by_cases hi : i = h.n
    · subst hi; simp [AH.alloc]
    · rw [upd_ne _ hi] at hm; have := s.dom i l' hm; simp [AH.alloc]; omega
  case big => intro i hi; simp [AH.alloc] at hi; rw [hob i (by omega)]; exact s.big i (by omega)
  case glob =>
    intro g hg
    obtain ⟨l', a, b⟩ := s.glob g hg
    exact ⟨l', hx _ _ a, b⟩
  case tab =>
    intro g c n hg ho
    have e1 : g ≠ h.n := fun e1 => by
      obtain ⟨l, a, _⟩ := s.glob g hg
      have := s.dom g l a
      omega
    rw [hob g e1] at ho
    exact s.tab g c n hg ho
  case cell =>
    intro i l' c st' ln' hm ho j hj
    by_cases hi : i = h.n
    · subst hi
      rw [upd_same] at hm; rw [hnew] at ho
      obtain rfl := Option.some.inj hm
      simp only [AOb.cells.injEq] at ho
      obtain ⟨rfl, rfl, rfl⟩ := ho
      simp only
      by_cases hlo : l.o + off + j < p
      · obtain ⟨cv, a, b⟩ := hlow j hj hlo
        exact ⟨cv, by rw [World.cell?_setCells_out l.b cvs p w _ (fun _ _ => by simp; omega)]; exact a, b.ext hx⟩
      · obtain ⟨d, hd⟩ : ∃ d, l.o + off + j = p + d := ⟨l.o + off + j - p, by omega⟩
        have hd1 : d < cvs.length := by omega
        refine ⟨cvs[d], ?_, ?_⟩
        · rw [hd]
          refine World.cell?_setCells_in l.b cvs p w (fun t ht => ?_) d hd1
          obtain ⟨v, hv'⟩ := hblk.cell (j := p + t - l.o) (by omega)
          rw [show p + t = l.o + (p + t - l.o) by omega, hv']; rfl
        · have e1 := hhigh.2 d (by simp; omega) hd1
          rw [List.getElem_drop] at e1
          have : p - (l.o + off) + d = j := by omega
          simp only [this] at e1
          exact e1.ext hx
    · rw [upd_ne _ hi] at hm; rw [hob i hi] at ho
      obtain ⟨cv, a, b⟩ := s.cell i l' c st' ln' hm ho j hj
      refine ⟨cv, ?_, b.ext hx⟩
      rw [World.cell?_setCells_out l.b cvs p w _ (fun e2 _ => ?_)]
      · exact a
      · simp only at e2
        by_cases hr : st' = .ro
        · subst hr; exact absurd (by rw [← e2]; exact s.rob i l' c ln' hm ho (fun e => by rw [e] at hj; cases hj)) hfb
        · have := (hin i l' c st' ln' hm ho hr e2).2
          left; simp only; omega
  case blk =>
    intro i l' c st' ln' hm ho hs
    by_cases hi : i = h.n
    · subst hi
      rw [upd_same] at hm; rw [hnew] at ho
      obtain rfl := Option.some.inj hm
      simp only [AOb.cells.injEq] at ho
      obtain ⟨rfl, rfl, rfl⟩ := ho
      obtain ⟨arr, e, fz, h1, h2, h3⟩ := hblk.setCells (l' := l) p cvs
      exact ⟨hfb, ⟨arr, e, fz, h1, by simp only; omega, h3⟩, hroom⟩
    · rw [upd_ne _ hi] at hm; rw [hob i hi] at ho
      obtain ⟨a, b, c⟩ := s.blk i l' c st' ln' hm ho hs
      exact ⟨a, b.setCells _ _, c⟩
  case rob =>
    intro i l' c n hm ho hc
    have e1 : i ≠ h.n := fun e1 => by
      subst e1; rw [hnew] at ho; cases ho
    rw [upd_ne _ e1] at hm; rw [hob i e1] at ho
    exact s.rob i l' c n hm ho hc
  case onec =>
    intro i c st' n ho
    by_cases e1 : i = h.n
    · subst e1; rw [hnew] at ho
      simp only [AOb.cells.injEq] at ho
      obtain ⟨rfl, _, _⟩ := ho
      exact c6
    · rw [hob i e1] at ho; exact s.onec i c st' n ho
  case sep =>
    intro i j li lj ni nj hi hj oi oj hb
    by_cases e1 : i = h.n <;> by_cases e2 : j = h.n
    · subst e1; subst e2; rw [oi] at oj; exact Option.some.inj oj
    · subst e1; rw [upd_same] at hi; rw [upd_ne _ e2] at hj; rw [hob j e2] at oj; rw [hnew, hown] at oi
      obtain rfl := Option.some.inj hi
      obtain rfl := Option.some.inj oi
      exact (hino j lj nj hj oj hb.symm).symm
    · subst e2; rw [upd_same] at hj; rw [upd_ne _ e1] at hi; rw [hob i e1] at oi; rw [hnew, hown] at oj
      obtain rfl := Option.some.inj hj
      obtain rfl := Option.some.inj oj
      exact hino i li ni hi oi hb
    · rw [upd_ne _ e1] at hi; rw [upd_ne _ e2] at hj; rw [hob i e1] at oi; rw [hob j e2] at oj
      exact s.sep i j li lj ni nj hi hj oi oj hb
  case tip =>
    intro i j li lj ci cj sj ni nj hi hj oi oj hs hb
    by_cases e1 : i = h.n <;> by_cases e2 : j = h.n
    · subst e1; subst e2
      rw [hi] at hj; rw [oi] at oj
      obtain rfl := Option.some.inj hj
      simp only [AOb.cells.injEq] at oj
      obtain ⟨rfl, _, _⟩ := oj
      omega
    · subst e1; rw [upd_same] at hi; rw [upd_ne _ e2] at hj; rw [hob j e2] at oj; rw [hnew] at oi
      obtain rfl := Option.some.inj hi
      simp only [AOb.cells.injEq] at oi
      obtain ⟨rfl, _, rfl⟩ := oi
      have := (hin j lj cj sj nj hj oj hs hb.symm).2
      simp only; omega
    · subst e2; rw [upd_same] at hj; rw [upd_ne _ e1] at hi; rw [hob i e1] at oi; rw [hnew] at oj
      obtain rfl := Option.some.inj hj
      have := (hin i li ci _ ni hi oi (by simp) hb).1
      subst this
      exact absurd oi (c3.1 i ci)
    · rw [upd_ne _ e1] at hi; rw [upd_ne _ e2] at hj; rw [hob i e1] at oi; rw [hob j e2] at oj
      exact s.tip i j li lj ci cj sj ni nj hi hj oi oj hs hb
  case tipu =>
    intro i j ci cj n oi oj
    by_cases e1 : i = h.n <;> by_cases e2 : j = h.n
    · omega
    · subst e1; rw [hnew] at oi; rw [hob j e2] at oj
      simp only [AOb.cells.injEq] at oi
      obtain ⟨rfl, _, rfl⟩ := oi
      exact absurd oj (c3.1 j cj)
    · subst e2; rw [hnew] at oj; rw [hob i e1] at oi
      simp only [AOb.cells.injEq] at oj
      obtain ⟨rfl, _, rfl⟩ := oj
      exact absurd oi (c3.1 i ci)
    · rw [hob i e1] at oi; rw [hob j e2] at oj
      exact s.tipu i j ci cj n oi oj
  case solo =>
    intro i c n oi
    by_cases e1 : i = h.n
    · subst e1; rw [hnew] at oi; cases oi
    · rw [hob i e1] at oi
      obtain ⟨rfl, hu⟩ := s.solo i c n oi
      refine ⟨rfl, fun j hj => ?_⟩
      by_cases e2 : j = h.n
      · subst e2
        rw [hnew, hown] at hj
        obtain rfl := Option.some.inj hj
        exact absurd oi (c3.2 _ c)
      · rw [hob j e2] at hj; exact hu j hj
  case lin =>
    intro i n oi
    by_cases e1 : i = h.n
    · subst e1; rw [hnew, hown] at oi; obtain rfl := Option.some.inj oi; exact c3'
    · rw [hob i e1] at oi; exact s.lin i n oi
  case linc =>
    intro i j n oi oj hm
    by_cases e2 : j = h.n
    · subst e2; rw [upd_same]; simp
    · rw [upd_ne _ e2]
      rw [hob j e2] at oj
      by_cases e1 : i = h.n
      · subst e1; rw [hnew, hown] at oi; obtain rfl := Option.some.inj oi; exact c4 j oj
      · rw [hob i e1] at oi; rw [upd_ne _ e1] at hm; exact s.linc i j n oi oj hm
  case mp =>
    intro i l' es hm ho
    have e1 : i ≠ h.n := fun e1 => by subst e1; rw [hnew] at ho; cases ho
    rw [upd_ne _ e1] at hm; rw [hob i e1] at ho
    obtain ⟨a, ents, c, b, d⟩ := s.mp i l' es hm ho
    refine ⟨a, ents, c, ?_, d.ext hx⟩
    rw [heap_setCells_ne]
    · exact b
    · intro e2
      obtain ⟨arr, e, fz, hb1, _⟩ := hblk
      rw [← e2, b] at hb1; cases hb1
  case mpu =>
    intro i j li lj es es' hi hj oi oj hb
    have e1 : i ≠ h.n := fun e1 => by subst e1; rw [hnew] at oi; cases oi
    have e2 : j ≠ h.n := fun e1 => by subst e1; rw [hnew] at oj; cases oj
    rw [upd_ne _ e1] at hi; rw [upd_ne _ e2] at hj; rw [hob i e1] at oi; rw [hob j e2] at oj
    exact s.mpu i j li lj es es' hi hj oi oj hb

end Go.Sim
/- What an operation makes of an abstract heap, and that the model's operation does likewise: values, types, loads, stores, new objects. Conditions: those that each theorem names. -/
set_option linter.unusedVariables false
set_option linter.unusedSimpArgs false
namespace Go.Sim
variable {P : Program} {FB : Nat → Prop} {w0 : World} {μ : Nat → Option Loc} {h : AH} {w : World}

/-! ### types -/
def aggD : TypeDesc → Bool
  | .struct _ | .array _ _ => true
  | _ => false
def zok : Value → Bool
  | .slice Option.none 0 0 => true
  | v => isPlain v && one v
structure TI where
  size : Nat
  bytes : Nat
  zero : List Value
  agg : Bool
def ti (P : Program) (t : TypeId) : Option TI :=
  match P.underlying t, P.info? t with
  | some d, some i =>
    match i.zero with
    | some z => if z.cells.size = i.size ∧ z.cells.all zok = true ∧ (aggD d = true ∨ i.size = 1) ∧ (aggD d = false → one z = true) then some ⟨i.size, i.bytes, z.cells.toList, aggD d⟩ else none
    | none => none
  | _, _ => none
/-- The element type of a slice type, and what is known of it. -/
def si (P : Program) (t : TypeId) : Option (TypeId × TI) :=
  match P.underlying t with
  | some (.slice e) => (ti P e).map fun i => (e, i)
  | _ => none
/-- A field: its place, its size, whether it is a struct. -/
def fi (P : Program) (t : TypeId) (f : Nat) : Option (Nat × Nat × Bool) :=
  match P.underlying t with
  | some (.struct fs) =>
    match fs[f]? with
    | some fd => (ti P fd.type).map fun i => (fd.offset, i.size, i.agg)
    | none => none
  | _ => none
def sti (P : Program) (t : TypeId) : Option TI :=
  match P.underlying t with
  | some (.struct fs) => if fs.all (fun f => (P.info? f.type).isSome) then ti P t else none
  | _ => none

structure TIFacts (P : Program) (t : TypeId) (i : TI) (d : TypeDesc) (j : TypeInfo) (z : Value) : Prop where
  und : P.underlying t = some d
  info : P.info? t = some j
  jz : j.zero = some z
  size : j.size = i.size
  bytes : j.bytes = i.bytes
  zc : z.cells.toList = i.zero
  zn : i.zero.length = i.size
  zk : ∀ v ∈ i.zero, zok v = true
  agg : i.agg = aggD d
  one : aggD d = true ∨ i.size = 1
  zone : aggD d = false → Sim.one z = true

theorem ti_facts {t : TypeId} {i : TI} (e : ti P t = some i) : ∃ d j z, TIFacts P t i d j z := by
  unfold ti at e
  split at e
  · rename_i d j hd hj
    split at e
    · rename_i z hz
      split at e
      · rename_i hc
        obtain ⟨a, b, c, c2⟩ := hc
        obtain rfl := Option.some.inj e
        exact ⟨d, j, z, hd, hj, hz, rfl, rfl, rfl, by simpa using a, by intro v hv; exact Array.all_eq_true_iff_forall_mem.1 b v (by simpa using hv), rfl, c, c2⟩
      · cases e
    · cases e
  · cases e

set_option linter.unusedVariables false
theorem zok_VR {v : Value} (e : zok v = true) (μ : Nat → Option Loc) : VR μ v v := by
  unfold zok at e
  split at e
  · exact .sl0 _ _
  · simp at e; exact .plain _ e.1
theorem zok_one {v : Value} (e : zok v = true) : one v = true := by
  unfold zok at e
  split at e
  · rfl
  · simp at e; exact e.2
theorem LR.refl_zok {l : List Value} (e : ∀ v ∈ l, zok v = true) (μ : Nat → Option Loc) : LR μ l l :=
  ⟨rfl, fun j a _ => zok_VR (e _ (List.getElem_mem a)) μ⟩

section runs
variable {t : TypeId} {i : TI} {d : TypeDesc} {j : TypeInfo} {z : Value} (w : World)
theorem TIFacts.runInfo (f : TIFacts P t i d j z) : (typeInfo t).run P w = .ok j w := by simp [typeInfo, f.info]
theorem TIFacts.runSize (f : TIFacts P t i d j z) : (sizeOf t).run P w = .ok i.size w := by simp [sizeOf, f.runInfo, f.size]
theorem TIFacts.runZero (f : TIFacts P t i d j z) : (zeroValue t).run P w = .ok z w := by simp [zeroValue, f.runInfo, f.jz]
theorem TIFacts.runAgg (f : TIFacts P t i d j z) : (isAgg t).run P w = .ok i.agg w := by
  rw [f.agg]; unfold isAgg
  simp only [Sem.run_bind, run_underlying f.und, Result.andThen_ok]
  cases d <;> rfl
end runs

theorem add_none (b o n : Nat) : (⟨b, o, none⟩ : Addr).add n = ⟨b, o + n, none⟩ := by unfold Addr.add; split <;> simp_all

/-! ### judgements -/
/-- An operation: whatever world the heap lies in, and whatever stands for its operands. -/
def AOp (P : Program) (o : Oper) (ρ : Operand → Value) (h : AH) (v : Value) (h' : AH) : Prop :=
  ∀ FB w0 μ (a : Act) (w : World) (K : Act → World → Prop) (Q : Exit → Act → World → Prop), Sim P FB w0 μ h w → (∀ x ∈ o.op.operands, VR μ (ρ x) (a.eval x)) →
    (∀ μ' cv w', Post P FB w0 μ h μ' h' w' → VR μ' v cv → K (a.put o.dst cv) w') → o.wp P a w K Q

/-- An instruction that gives a value. -/
def AIns (P : Program) (S : (Operand → Value) → Sem Value) (ops : List Operand) (ρ : Operand → Value) (h : AH) (v : Value) (h' : AH) : Prop :=
  ∀ FB w0 μ (σ : Operand → Value) (w : World), Sim P FB w0 μ h w → (∀ x ∈ ops, VR μ (ρ x) (σ x)) →
    ∃ μ' cv w', (S σ).run P w = .ok cv w' ∧ Post P FB w0 μ h μ' h' w' ∧ VR μ' v cv

theorem AIns.op {o : Oper} {S : (Operand → Value) → Sem Value} {ρ : Operand → Value} {v : Value} {h' : AH} (hs : AIns P S o.op.operands.toList ρ h v h')
    (he : ∀ σ, execOp σ o = (do pure (.value (← S σ)))) : AOp P o ρ h v h' := by
  intro FB w0 μ a w K Q s hx hk
  obtain ⟨μ', cv, w', hr, p, hv⟩ := hs FB w0 μ a.eval w s (fun x hx' => hx x (by simpa using hx'))
  unfold Oper.wp
  rw [he]
  simp only [Sem.run_bind, hr, Result.andThen_ok, Sem.run_pure, Oper.upon]
  exact hk μ' cv w' p hv

/-- Where nothing is touched. -/
theorem AIns.quiet {S : (Operand → Value) → Sem Value} {ops : List Operand} {ρ : Operand → Value} {v : Value}
    (hs : ∀ FB w0 μ (σ : Operand → Value) (w : World), Sim P FB w0 μ h w → (∀ x ∈ ops, VR μ (ρ x) (σ x)) → ∃ cv, (S σ).run P w = .ok cv w ∧ VR μ v cv) : AIns P S ops ρ h v h :=
  fun FB w0 μ σ w s hx => let ⟨cv, a, b⟩ := hs FB w0 μ σ w s hx; ⟨μ, cv, w, a, s.post, b⟩

/-! ### reading -/
def rd (h : AH) (i off n : Nat) : Option (List Value) :=
  match h.ob i with
  | .cells cs _ _ => if off + n ≤ cs.length then some ((cs.drop off).take n) else none
  | _ => none
def rd1 (h : AH) (i off : Nat) : Option Value :=
  match h.ob i with
  | .cells cs _ _ => cs[off]?
  | _ => none

theorem run_loadCells_list (P : Program) (w : World) (b o n : Nat) (l : List Value) (hl : l.length = n) (hc : ∀ j (hj : j < l.length), w.cell? ⟨b, o + j, none⟩ = some l[j]) :
    (loadCells ⟨b, o, none⟩ n).run P w = .ok l.toArray w := by
  have := @run_loadCells P w ⟨b, o, none⟩ n (fun j => l.getD j undef) (fun j hj => by
    rw [add_none, hc j (by omega)]; simp [List.getD, hl, hj])
  rw [this]
  congr 1
  apply Array.ext
  · simp [hl]
  · intro k h1 h2
    simp only [List.size_toArray] at h2
    simp [List.getD, h2]

theorem Sim.read (s : Sim P FB w0 μ h w) {i off n : Nat} {l : Loc} {vs : List Value} (hm : μ i = some l) (hr : rd h i off n = some vs) :
    ∃ cvs, LR μ vs cvs ∧ cvs.length = n ∧ ∀ j (hj : j < cvs.length), w.cell? ⟨l.b, l.o + off + j, none⟩ = some cvs[j] := by
  unfold rd at hr
  split at hr
  · rename_i cs st ln ho
    split at hr
    · rename_i hb
      obtain rfl := Option.some.inj hr
      have hall : ∀ j, j < n → ∃ cv, w.cell? ⟨l.b, l.o + off + j, none⟩ = some cv ∧ VR μ (cs.getD (off + j) undef) cv := fun j hj => by
        obtain ⟨cv, a, b⟩ := s.cell i l cs st ln hm ho (off + j) (by omega)
        exact ⟨cv, by rw [show l.o + off + j = l.o + (off + j) by omega]; exact a, by simpa [List.getD, show off + j < cs.length by omega] using b⟩
      have : ∃ cvs : List Value, cvs.length = n ∧ ∀ j (hj : j < cvs.length), w.cell? ⟨l.b, l.o + off + j, none⟩ = some cvs[j] ∧ VR μ (cs.getD (off + j) undef) cvs[j] := by
        clear hb hr
        induction n with
        | zero => exact ⟨[], rfl, fun j hj => by simp at hj⟩
        | succ n ih =>
          obtain ⟨cvs, h1, h2⟩ := ih (fun j hj => hall j (by omega))
          obtain ⟨cv, a, b⟩ := hall n (by omega)
          refine ⟨cvs ++ [cv], by simp [h1], fun j hj => ?_⟩
          by_cases hjn : j < cvs.length
          · rw [List.getElem_append_left hjn]; exact h2 j hjn
          · have : j = n := by simp at hj; omega
            subst this
            have e : (cvs ++ [cv])[j] = cv := by rw [List.getElem_append_right (by omega)]; simp [h1]
            rw [e]; exact ⟨a, b⟩
      obtain ⟨cvs, h1, h2⟩ := this
      refine ⟨cvs, ⟨by simp [h1]; omega, fun j a b => ?_⟩, h1, fun j hj => (h2 j hj).1⟩
      have := (h2 j b).2
      simp only [List.length_take, List.length_drop] at a
      simpa [List.getD, show off + j < cs.length by omega] using this
    · cases hr
  · cases hr

theorem Sim.read1 (s : Sim P FB w0 μ h w) {i off : Nat} {l : Loc} {v : Value} (hm : μ i = some l) (hr : rd1 h i off = some v) :
    ∃ cv, w.cell? ⟨l.b, l.o + off, none⟩ = some cv ∧ VR μ v cv := by
  unfold rd1 at hr
  split at hr
  · rename_i cs st ln ho
    have hb : off < cs.length := (List.getElem?_eq_some_iff.1 hr).1
    obtain ⟨cv, a, b⟩ := s.cell i l cs st ln hm ho off hb
    rw [List.getElem?_eq_getElem hb] at hr
    obtain rfl := Option.some.inj hr
    exact ⟨cv, a, b⟩
  · cases hr

/-- A load. -/
def aload (P : Program) (h : AH) (t : TypeId) (p : Value) (K : Value → Prop) : Prop :=
  match ti P t, p with
  | some i, .pointer (some ⟨id, off, Option.none⟩) =>
    if i.agg then (match rd h id off i.size with | some vs => K (.agg vs.toArray) | none => False)
    else (match rd1 h id off with | some v => K v | none => False)
  | _, _ => False

theorem aload_sound {t : TypeId} {x : Operand} {ρ : Operand → Value} {K : Value → Prop} (hk : aload P h t (ρ x) K) :
    ∃ v, AIns P (fun σ => Instr.loadAt t (σ x)) [x] ρ h v h ∧ K v := by
  unfold aload at hk
  split at hk
  · rename_i i id off ht hp
    obtain ⟨d, j, z, f⟩ := ti_facts ht
    have hpt : ∀ {μ : Nat → Option Loc} {c : Value}, VR μ (ρ x) c → ∃ l, μ id = some l ∧ c = .pointer (some ⟨l.b, l.o + off, none⟩) := by
      intro μ c hc
      rw [hp] at hc
      cases hc with
      | ptr _ _ l hm => exact ⟨l, hm, rfl⟩
      | plain _ hq => simp [isPlain] at hq
    split at hk
    · rename_i hag
      split at hk
      · rename_i vs hvs
        refine ⟨_, AIns.quiet (fun FB w0 μ σ w s hx => ?_), hk⟩
        obtain ⟨l, hm, he⟩ := hpt (hx x (by simp))
        obtain ⟨cvs, h1, h2, h3⟩ := s.read hm hvs
        refine ⟨.agg cvs.toArray, ?_, .agg _ _ (by simpa using h1.1) (fun j a b => by simpa using h1.2 j (by simpa using a) (by simpa using b))⟩
        simp only [he, Instr.loadAt, Instr.sureAddr, loadVar, Sem.run_bind, Sem.run_pure, Result.andThen_ok, f.runAgg, hag, if_true, f.runSize]
        rw [run_loadCells_list P w l.b (l.o + off) i.size cvs h2 h3]
        rfl
      · exact hk.elim
    · rename_i hag
      split at hk
      · rename_i v hv
        refine ⟨v, AIns.quiet (fun FB w0 μ σ w s hx => ?_), hk⟩
        obtain ⟨l, hm, he⟩ := hpt (hx x (by simp))
        obtain ⟨cv, h1, h2⟩ := s.read1 hm hv
        refine ⟨cv, ?_, h2⟩
        have hag' : i.agg = false := by simpa using hag
        simp [he, Instr.loadAt, Instr.sureAddr, loadVar, f.runAgg, hag', h1]
      · exact hk.elim
  · exact hk.elim

/-! ### new objects -/
theorem run_newRow (P : Program) (w : World) (e : TypeId) (c : Array Value) : (newRow e c).run P w = .ok ⟨w.heap.size, 0, none⟩ (w.alloc (.cells c e)) := by
  simp [newRow]

theorem new_post (s : Sim P FB w0 μ h w) {cs : List Value} {arr : Array Value} (e : TypeId) (hl : LR μ cs arr.toList) (h1 : ∀ v ∈ cs, one v = true) :
    Post P FB w0 μ h (upd μ h.n ⟨w.heap.size, 0, arr.size⟩) (h.alloc (.cells cs .solo h.n)) (w.alloc (.cells arr e)) :=
  s.new (by have := hl.1; simp at this; omega) (fun j a b => hl.2 j a (by simpa using b)) (fun j _ hc => by simp at hc) h1

theorem box_sound {t : TypeId} {x : Operand} {ρ : Operand → Value} (h1 : ∀ v ∈ (ρ x).cells.toList, one v = true) :
    AIns P (fun σ => Instr.box t (σ x)) [x] ρ h (.pointer (some ⟨h.n, 0, none⟩)) (h.alloc (.cells (ρ x).cells.toList .solo h.n)) := by
  intro FB w0 μ σ w s hx
  have hv := hx x (by simp)
  refine ⟨_, _, _, ?_, new_post s t hv.cellsLR.list h1, .ptr h.n 0 ⟨w.heap.size, 0, (σ x).cells.size⟩ (upd_same _ _)⟩
  simp [Instr.box, newVar, run_newRow]

theorem alloc_sound {t : TypeId} {ρ : Operand → Value} {i : TI} (ht : ti P t = some i) :
    AIns P (fun _ => Instr.alloc t true (.tuple #[])) [] ρ h (.pointer (some ⟨h.n, 0, none⟩)) (h.alloc (.cells i.zero .solo h.n)) := by
  intro FB w0 μ σ w s hx
  obtain ⟨d, j, z, f⟩ := ti_facts ht
  have hz : LR μ i.zero z.cells.toList := by rw [f.zc]; exact LR.refl_zok f.zk μ
  refine ⟨_, _, _, ?_, new_post s t hz (fun v hv => zok_one (f.zk v hv)), .ptr h.n 0 ⟨w.heap.size, 0, z.cells.size⟩ (upd_same _ _)⟩
  simp [Instr.alloc, f.runZero, newVar, run_newRow]

/-! ### a store -/
def AH.aloneB (h : AH) (i : Nat) : AH := ⟨h.n, fun j => if j = i then h.ob j else
  match h.ob i with
  | .cells _ .solo _ => h.ob j
  | .cells _ _ ln => if (h.ob j).own = some ln then .none else h.ob j
  | _ => h.ob j⟩
/-- The heap behind a store of these cells. -/
def wr (h : AH) (i off : Nat) (vs : List Value) : Option AH :=
  match h.ob i with
  | .cells cs .solo ln => if off + vs.length ≤ cs.length then some (h.set i (.cells (putL cs off vs) .solo ln)) else none
  | .cells cs .tip ln => if off + vs.length ≤ cs.length then some ((h.kill ln).set i (.cells (putL cs off vs) .tip ln)) else none
  | _ => none

def astore (P : Program) (h : AH) (t : TypeId) (p v : Value) (K : AH → Prop) : Prop :=
  match ti P t, p with
  | some i, .pointer (some ⟨id, off, Option.none⟩) =>
    v.cells.size = i.size ∧ v.cells.all one = true ∧ (match wr h id off v.cells.toList with | some h' => K h' | none => False)
  | _, _ => False

theorem one_eq (v : Value) : v.oneCell' = one v := by cases v <;> rfl

theorem Sim.write (s : Sim P FB w0 μ h w) {i off : Nat} {l : Loc} {vs cvs : List Value} {h' : AH} (hm : μ i = some l) (hr : wr h i off vs = some h') (hv : LR μ vs cvs) (h1 : ∀ v ∈ vs, one v = true) :
    Post P FB w0 μ h μ h' (w.setCells l.b (l.o + off) cvs) ∧ (∀ j, j < cvs.length → (w.cell? ⟨l.b, l.o + off + j, none⟩).isSome = true) ∧ ∀ j, j < cvs.length → w.frozen? ⟨l.b, l.o + off + j, none⟩ = false := by
  have hlen := hv.1
  unfold wr at hr
  split at hr
  · rename_i cs ln ho
    split at hr
    · rename_i hb
      obtain rfl := Option.some.inj hr
      obtain ⟨rfl, hu⟩ := s.solo i cs ln ho
      obtain ⟨_, hblk, hroom⟩ := s.blk ln l cs _ ln hm ho (by simp)
      refine ⟨⟨s.store hm ho (by simp) hu off hb hv h1, Ext.refl _, ⟨Nat.le_refl _, fun j hj hjm => ⟨hjm, ?_⟩⟩⟩, fun j hj => ?_, fun j hj => ?_⟩
      · have : j ≠ ln := fun e => by subst e; rw [hm] at hjm; cases hjm
        simp [AH.set, this]
      · obtain ⟨v, e⟩ := hblk.cell (j := off + j) (by omega)
        rw [show l.o + off + j = l.o + (off + j) by omega, e]; rfl
      · rw [show l.o + off + j = l.o + (off + j) by omega]; exact hblk.frozen (by omega)
    · cases hr
  · rename_i cs ln ho
    split at hr
    · rename_i hb
      obtain rfl := Option.some.inj hr
      obtain ⟨hfb, hblk, hroom⟩ := s.blk i l cs _ ln hm ho (by simp)
      have howni : (h.ob i).own = some ln := by rw [ho]; rfl
      -- all others of its line are struck first
      have s1 : Sim P FB w0 μ ((h.kill ln).set i (.cells cs .tip ln)) w := by
        refine s.less ⟨rfl, fun j => ?_⟩
        by_cases e : j = i
        · subst e; right; left; simp [AH.set, ho]
        · by_cases e2 : (h.ob j).own = some ln
          · left; simp [AH.set, AH.kill, e, e2]
          · right; left; simp [AH.set, AH.kill, e, e2]
      have ho1 : ((h.kill ln).set i (.cells cs .tip ln)).ob i = .cells cs .tip ln := by simp [AH.set]
      have hu : ∀ j, (((h.kill ln).set i (.cells cs .tip ln)).ob j).own = some ln → j = i := fun j hj => by
        apply Classical.byContradiction; intro e
        by_cases e2 : (h.ob j).own = some ln
        · have : ((h.kill ln).set i (.cells cs .tip ln)).ob j = .none := by simp [AH.set, AH.kill, e, e2]
          rw [this] at hj; cases hj
        · simp [AH.set, AH.kill, e, e2] at hj
      have s2 := s1.store hm ho1 (by simp) hu off hb hv h1
      have hset : ((h.kill ln).set i (.cells cs .tip ln)).set i (.cells (putL cs off vs) .tip ln) = (h.kill ln).set i (.cells (putL cs off vs) .tip ln) := by
        simp only [AH.set, AH.mk.injEq, true_and]
        funext j; by_cases e : j = i <;> simp [e]
      rw [hset] at s2
      refine ⟨⟨s2, Ext.refl _, ⟨Nat.le_refl _, fun j hj hjm => ⟨hjm, ?_⟩⟩⟩, fun j hj => ?_, fun j hj => ?_⟩
      · have e : j ≠ i := fun e => by subst e; rw [hm] at hjm; cases hjm
        have e2 : (h.ob j).own ≠ some ln := fun e2 => absurd hjm (s.linc i j ln howni e2 (by rw [hm]; simp))
        simp [AH.set, AH.kill, e, e2]
      · obtain ⟨v, e⟩ := hblk.cell (j := off + j) (by omega)
        rw [show l.o + off + j = l.o + (off + j) by omega, e]; rfl
      · rw [show l.o + off + j = l.o + (off + j) by omega]; exact hblk.frozen (by omega)
    · cases hr
  · cases hr

theorem astore_sound {o : Oper} {t : TypeId} {x y : Operand} {ρ : Operand → Value} {K : AH → Prop} (ho : o.op = .store t x y) (hk : astore P h t (ρ x) (ρ y) K) :
    ∃ h', AOp P o ρ h undef h' ∧ K h' := by
  unfold astore at hk
  split at hk
  · rename_i i id off ht hp
    obtain ⟨hsz, hone, hk⟩ := hk
    split at hk
    · rename_i h' hw
      refine ⟨h', ?_, hk⟩
      intro FB w0 μ a w K' Q s hx hk'
      obtain ⟨d, j, z, f⟩ := ti_facts ht
      have vx := hx x (by rw [ho]; simp [Op.operands])
      have vy := hx y (by rw [ho]; simp [Op.operands])
      rw [hp] at vx
      obtain ⟨l, hm, hc⟩ : ∃ l, μ id = some l ∧ a.eval x = .pointer (some ⟨l.b, l.o + off, none⟩) := by
        cases hcc : a.eval x <;> rw [hcc] at vx <;> cases vx
        · rename_i hq; simp [isPlain] at hq
        · rename_i l hm; exact ⟨l, hm, rfl⟩
      have hcl := vy.cellsLR
      obtain ⟨p, q1, q2⟩ := s.write hm hw hcl.list (fun v hv => Array.all_eq_true_iff_forall_mem.1 hone v (by simpa using hv))
      have hsz' : (a.eval y).cells.size = i.size := by rw [← hcl.1]; exact hsz
      have hone' : ∀ v ∈ (a.eval y).cells.toList, v.oneCell' = true := fun v hv => by
        obtain ⟨k, hk1, rfl⟩ := List.getElem_of_mem hv
        have hk2 : k < (a.eval y).cells.size := by simpa using hk1
        have hk3 : k < (ρ y).cells.size := by rw [hcl.1]; exact hk2
        rw [one_eq]
        have := (hcl.2 k hk3 hk2).one
        simp only [Array.getElem_toList]
        rw [this]
        exact Array.all_eq_true_iff_forall_mem.1 hone _ (Array.getElem_mem hk3)
      have hrun := run_storeCells_cells (P := P) l.b (l.o + off) (a.eval y).cells.toList 0 w (fun k hk => by simpa using q1 k hk) (fun k hk => by simpa using q2 k hk) hone'
      have := hk' μ undef _ p (VR.undef _)
      unfold Oper.wp
      simp only [execOp, ho, hc, Instr.storeAt, Instr.sureAddr, storeVar, Sem.run_bind, Sem.run_pure, Result.andThen_ok, f.runSize, hsz', ne_eq, not_true_eq_false, if_false, hrun, Oper.upon]
      simpa using this
    · exact hk.elim
  · exact hk.elim

end Go.Sim
/- Operations that touch no memory, literals, makes and cuts. Conditions: those that each theorem names. -/
set_option linter.unusedVariables false
set_option linter.unusedSimpArgs false
namespace Go.Sim
variable {P : Program} {FB : Nat → Prop} {w0 : World} {μ : Nat → Option Loc} {h : AH} {w : World}

theorem VR.ptrOf {i off : Nat} {c : Value} (hv : VR μ (.pointer (some ⟨i, off, none⟩)) c) : ∃ l, μ i = some l ∧ c = .pointer (some ⟨l.b, l.o + off, none⟩) := by
  cases hv with
  | ptr _ _ l hm => exact ⟨l, hm, rfl⟩
  | plain _ hq => simp [isPlain] at hq
theorem VR.aggOf {a : Array Value} {c : Value} (hv : VR μ (.agg a) c) : ∃ a', c = .agg a' ∧ AR μ a a' := by
  cases hv with
  | agg _ a' hs e => exact ⟨a', rfl, hs, e⟩
  | plain _ hq => simp [isPlain] at hq
theorem VR.tupleOf {a : Array Value} {c : Value} (hv : VR μ (.tuple a) c) : ∃ a', c = .tuple a' ∧ AR μ a a' := by
  cases hv with
  | tuple _ a' hs e => exact ⟨a', rfl, hs, e⟩
  | plain _ hq =>
    have : a = #[] := by simpa [isPlain] using hq
    subst this
    exact ⟨#[], rfl, rfl, fun j p => by simp at p⟩

/-! ### fields -/
theorem fi_facts {t : TypeId} {f fo sz : Nat} {ag : Bool} (e : fi P t f = some (fo, sz, ag)) :
    ∃ fs fd i, P.underlying t = some (.struct fs) ∧ fs[f]? = some fd ∧ fd.offset = fo ∧ ti P fd.type = some i ∧ i.size = sz ∧ i.agg = ag := by
  unfold fi at e
  split at e
  · rename_i fs hu
    split at e
    · rename_i fd hf
      cases ht : ti P fd.type with
      | none => rw [ht] at e; cases e
      | some i =>
        rw [ht] at e
        simp at e
        exact ⟨fs, fd, i, hu, hf, e.1, ht, e.2.1, e.2.2⟩
    · cases e
  · cases e

def afieldAddr (P : Program) (t : TypeId) (p : Value) (f : Nat) (K : Value → Prop) : Prop :=
  match fi P t f, p with
  | some (fo, sz, _), .pointer (some ⟨id, off, Option.none⟩) => sz ≠ 0 ∧ K (.pointer (some ⟨id, off + fo, none⟩))
  | _, _ => False
theorem afieldAddr_sound {t : TypeId} {x : Operand} {f : Nat} {ρ : Operand → Value} {K : Value → Prop} (hk : afieldAddr P t (ρ x) f K) :
    ∃ v, AIns P (fun σ => Instr.fieldAt t (σ x) f) [x] ρ h v h ∧ K v := by
  unfold afieldAddr at hk
  split at hk
  · rename_i fo sz ag id off he hp
    obtain ⟨hz, hk⟩ := hk
    refine ⟨_, AIns.quiet (fun FB w0 μ σ w s hx => ?_), hk⟩
    obtain ⟨fs, fd, i, hu, hf, rfl, ht, rfl, _⟩ := fi_facts he
    obtain ⟨d, j, z, g⟩ := ti_facts ht
    have hv := hx x (by simp)
    rw [hp] at hv
    obtain ⟨l, hm, hc⟩ := hv.ptrOf
    refine ⟨.pointer (some ⟨l.b, l.o + off + fd.offset, none⟩), ?_, ?_⟩
    · simp [Instr.fieldAt, run_underlying hu, hf, hc, Instr.sureAddr, fieldPlace, g.runSize, hz, add_none]
    · rw [Nat.add_assoc]; exact .ptr _ _ l hm
  · exact hk.elim

def afield (P : Program) (t : TypeId) (v : Value) (f : Nat) (K : Value → Prop) : Prop :=
  match fi P t f, v with
  | some (fo, sz, ag), .agg cs =>
    if ag then K (.agg (cs.extract fo (fo + sz))) else (match cs[fo]? with | some c => K c | none => False)
  | _, _ => False
theorem AR.extract {a b : Array Value} (e : AR μ a b) (i j : Nat) : AR μ (a.extract i j) (b.extract i j) := by
  refine ⟨by simp [e.1], fun k p q => ?_⟩
  simp only [Array.size_extract] at p q
  rw [Array.getElem_extract, Array.getElem_extract]
  exact e.2 _ _ _
theorem afield_sound {t : TypeId} {x : Operand} {f : Nat} {ρ : Operand → Value} {K : Value → Prop} (hk : afield P t (ρ x) f K) :
    ∃ v, AIns P (fun σ => Instr.field t (σ x) f) [x] ρ h v h ∧ K v := by
  unfold afield at hk
  split at hk
  · rename_i fo sz ag cs he hp
    obtain ⟨fs, fd, i, hu, hf, rfl, ht, rfl, rfl⟩ := fi_facts he
    obtain ⟨d, j, z, g⟩ := ti_facts ht
    split at hk
    · rename_i hag
      refine ⟨_, AIns.quiet (fun FB w0 μ σ w s hx => ?_), hk⟩
      have hv := hx x (by simp)
      rw [hp] at hv
      obtain ⟨a', hc, ha⟩ := hv.aggOf
      refine ⟨.agg (a'.extract fd.offset (fd.offset + i.size)), ?_, ?_⟩
      · simp [Instr.field, run_underlying hu, hf, hc, asAgg, part, g.runAgg, hag, g.runSize]
      · have := ha.extract fd.offset (fd.offset + i.size); exact .agg _ _ this.1 this.2
    · rename_i hag
      split at hk
      · rename_i c hcc
        refine ⟨_, AIns.quiet (fun FB w0 μ σ w s hx => ?_), hk⟩
        have hv := hx x (by simp)
        rw [hp] at hv
        obtain ⟨a', hc, ha⟩ := hv.aggOf
        obtain ⟨hb, rfl⟩ := Array.getElem?_eq_some_iff.1 hcc
        have hb' : fd.offset < a'.size := by rw [← ha.1]; exact hb
        refine ⟨a'[fd.offset], ?_, ha.2 _ hb hb'⟩
        have hag' : i.agg = false := by simpa using hag
        simp [Instr.field, run_underlying hu, hf, hc, asAgg, part, g.runAgg, hag', hb']
      · exact hk.elim
  · exact hk.elim

/-! ### an element's address; a byte of a string -/
theorem si_facts {t e : TypeId} {i : TI} (he : si P t = some (e, i)) : P.underlying t = some (.slice e) ∧ ti P e = some i := by
  unfold si at he
  split at he
  · rename_i e' hu
    cases ht : ti P e' with
    | none => rw [ht] at he; cases he
    | some j =>
      rw [ht] at he
      simp at he
      obtain ⟨rfl, rfl⟩ := he
      exact ⟨hu, ht⟩
  · cases he

def aindexAddr (P : Program) (t : TypeId) (x ix : Value) (K : Value → Prop) : Prop :=
  match si P t, x, ix with
  | some (_, i), .slice (some ⟨id, off, Option.none⟩) n _, .int _ j => 0 ≤ j ∧ j < (n : Int) ∧ K (.pointer (some ⟨id, off + j.toNat * i.size, none⟩))
  | _, _, _ => False
theorem aindexAddr_sound {t : TypeId} {x y : Operand} {ρ : Operand → Value} {K : Value → Prop} (hk : aindexAddr P t (ρ x) (ρ y) K) :
    ∃ v, AIns P (fun σ => Instr.indexAt t (σ x) (σ y)) [x, y] ρ h v h ∧ K v := by
  unfold aindexAddr at hk
  split at hk
  · rename_i e i id off n k ik j he hp hq
    obtain ⟨h0, h1, hk⟩ := hk
    refine ⟨_, AIns.quiet (fun FB w0 μ σ w s hx => ?_), hk⟩
    obtain ⟨hu, ht⟩ := si_facts he
    obtain ⟨d, j', z, g⟩ := ti_facts ht
    have hv := hx x (by simp)
    have hi := hx y (by simp)
    rw [hp] at hv; rw [hq] at hi
    have hi := hi.int
    generalize hcx : σ x = cx at hv
    cases hv with
    | plain _ hq => simp [isPlain] at hq
    | slz => simp at h1; omega
    | sl _ _ _ _ cap l hm hn hr =>
      refine ⟨.pointer (some ⟨l.b, l.o + off + j.toNat * i.size, none⟩), ?_, ?_⟩
      · simp [Instr.indexAt, hi, asIntOf, run_underlying hu, hcx, h0, h1, g.runSize, add_none]
      · rw [Nat.add_assoc]; exact .ptr _ _ l hm
  · exact hk.elim

def byteAt (s : ByteArray) (i : Nat) : UInt8 := s.data.getD i 0
def aindex (P : Program) (t : TypeId) (x ix : Value) (K : Value → Prop) : Prop :=
  match x, ix with
  | .string s, .int _ j => P.underlying t = some .string ∧ 0 ≤ j ∧ j < (s.size : Int) ∧ K (.int .u8 (byteAt s j.toNat).toNat)
  | _, _ => False
theorem aindex_sound {t : TypeId} {x y : Operand} {ρ : Operand → Value} {K : Value → Prop} (hk : aindex P t (ρ x) (ρ y) K) :
    ∃ v, AIns P (fun σ => Instr.index t (σ x) (σ y)) [x, y] ρ h v h ∧ K v := by
  unfold aindex at hk
  split at hk
  · rename_i s ik j hp hq
    obtain ⟨hu, h0, h1, hk⟩ := hk
    refine ⟨_, AIns.quiet (fun FB w0 μ σ w s' hx => ?_), hk⟩
    have hv := hx x (by simp)
    have hi := hx y (by simp)
    rw [hp] at hv; rw [hq] at hi
    have hv := hv.string
    have hi := hi.int
    refine ⟨_, ?_, .plain _ rfl⟩
    have hlt : j.toNat < s.size := by omega
    have hb : s[j.toNat]? = some (byteAt s j.toNat) := by
      have e1 : s[j.toNat]? = some (s[j.toNat]'hlt) := by simp [getElem?_pos, hlt]
      rw [e1]
      have hlt2 : j.toNat < s.data.size := hlt
      simp only [byteAt, Array.getD, hlt2, dif_pos]
      rfl
    simp [Instr.index, hi, hv, asIntOf, run_underlying hu, h0, hb]
  · exact hk.elim

/-! ### cuts -/
def bnd (o : Option Value) (d : Nat) : Option Int :=
  match o with
  | none => some d
  | some (.int _ n) => some n
  | _ => none
/-- A cut of a string or a slice (of a slice: within its length). -/
def acut (P : Program) (t : TypeId) (x : Value) (lo hi mx : Option Value) (K : Value → Prop) : Prop :=
  match x with
  | .string s => P.underlying t = some .string ∧ mx.isNone = true ∧
    (match bnd lo 0, bnd hi s.size with
     | some l, some u => 0 ≤ l ∧ l ≤ u ∧ u ≤ (s.size : Int) ∧ K (.string (s.extract l.toNat u.toNat))
     | _, _ => False)
  | .slice (some ⟨id, off, Option.none⟩) n k =>
    (match si P t with
     | some (_, i) => k = i.size ∧ (mx.isSome = true → hi.isSome = true) ∧
       (match bnd lo 0, bnd hi n, bnd mx n with
        | some l, some u, some m => 0 ≤ l ∧ l ≤ u ∧ u ≤ (n : Int) ∧ (mx.isSome = true → u ≤ m ∧ m ≤ (n : Int)) ∧ K (.slice (some ⟨id, off + l.toNat * i.size, none⟩) (u.toNat - l.toNat) k)
        | _, _, _ => False)
     | none => False)
  | .slice Option.none 0 k =>
    (match si P t with
     | some _ => mx.isNone = true ∧ (match bnd lo 0, bnd hi 0 with
       | some l, some u => l = 0 ∧ u = 0 ∧ K (.slice none 0 k)
       | _, _ => False)
     | none => False)
  | _ => False

theorem run_sliceBound {v : Value} {k : IntKind} {i : Int} {y : Nat} (c : BoundsCode) (hv : v = .int k i) (h0 : 0 ≤ i) (h1 : i ≤ y) : (Instr.sliceBound v y c).run P w = .ok i.toNat w := by
  subst hv; simp [Instr.sliceBound, asIntOf, h0, h1]

/-- An operand that may be there. -/
theorem bnd_of {o : Option Operand} {ρ σ : Operand → Value} {d : Nat} {i : Int} (he : bnd (o.map ρ) d = some i) (hv : ∀ x, o = some x → VR μ (ρ x) (σ x)) :
    (o = none ∧ i = d) ∨ ∃ x k, o = some x ∧ σ x = .int k i := by
  cases o with
  | none => simp [bnd] at he; exact .inl ⟨rfl, he.symm⟩
  | some x =>
    have := hv x rfl
    simp only [Option.map_some] at he
    unfold bnd at he
    split at he
    · rename_i hh; cases hh
    · rename_i k n hh
      simp at hh he
      rw [hh] at this
      subst he
      exact .inr ⟨x, k, rfl, this.int⟩
    · cases he

theorem run_sliceBounds {lo hi mx : Option Operand} {σ : Operand → Value} {isS : Bool} {len cap l u m : Nat} (hmx : mx.isSome = true → hi.isSome = true)
    (hl : (lo = none ∧ l = 0) ∨ ∃ x k, lo = some x ∧ σ x = .int k (l : Int)) (hu : (hi = none ∧ u = len) ∨ ∃ x k, hi = some x ∧ σ x = .int k (u : Int))
    (hm : (mx = none ∧ m = cap) ∨ ∃ x k, mx = some x ∧ σ x = .int k (m : Int)) (h1 : l ≤ u) (h2 : u ≤ m) (h3 : m ≤ cap) :
    (Instr.sliceBounds isS len cap (lo.map σ) (hi.map σ) (mx.map σ)).run P w = .ok (l, u, m) w := by
  have b : ∀ {v : Value} {k : IntKind} {i y : Nat} (c : BoundsCode), v = .int k (i : Int) → i ≤ y → (Instr.sliceBound v y c).run P w = .ok i w := fun c hv hy => by
    have := @run_sliceBound P w _ _ _ _ c hv (by omega) (Int.ofNat_le.2 hy)
    simpa using this
  rcases hm with ⟨rfl, rfl⟩ | ⟨xm, km, rfl, em⟩
  · rcases hu with ⟨rfl, rfl⟩ | ⟨xu, ku, rfl, eu⟩
    · rcases hl with ⟨rfl, rfl⟩ | ⟨xl, kl, rfl, el⟩
      · simp [Instr.sliceBounds]
      · simp [Instr.sliceBounds, b _ el h1]
    · rcases hl with ⟨rfl, rfl⟩ | ⟨xl, kl, rfl, el⟩
      · simp [Instr.sliceBounds, b _ eu h2]
      · simp [Instr.sliceBounds, b _ eu h2, b _ el h1]
  · rcases hu with ⟨rfl, rfl⟩ | ⟨xu, ku, rfl, eu⟩
    · simp at hmx
    · rcases hl with ⟨rfl, rfl⟩ | ⟨xl, kl, rfl, el⟩
      · simp [Instr.sliceBounds, b _ em h3, b _ eu h2]
      · simp [Instr.sliceBounds, b _ em h3, b _ eu h2, b _ el h1]

theorem nat_bnd {o : Option Operand} {σ : Operand → Value} {d : Nat} {i : Int} (h0 : 0 ≤ i) (hv : (o = none ∧ i = (d : Int)) ∨ ∃ x k, o = some x ∧ σ x = .int k i) :
    (o = none ∧ i.toNat = d) ∨ ∃ x k, o = some x ∧ σ x = .int k (i.toNat : Int) := by
  rcases hv with ⟨a, b⟩ | ⟨x, k, a, b⟩
  · exact .inl ⟨a, by omega⟩
  · exact .inr ⟨x, k, a, by rw [b]; congr 1; omega⟩

theorem acut_sound {t : TypeId} {x : Operand} {lo hi mx : Option Operand} {ρ : Operand → Value} {K : Value → Prop} (hnp : ∀ n e, P.underlying t ≠ some (.array n e))
    (hk : acut P t (ρ x) (lo.map ρ) (hi.map ρ) (mx.map ρ) K) :
    ∃ v, AIns P (fun σ => Instr.sliceAt t (σ x) (lo.map σ) (hi.map σ) (mx.map σ)) (x :: (lo.toList ++ hi.toList ++ mx.toList)) ρ h v h ∧ K v := by
  unfold acut at hk
  split at hk
  · rename_i s hp
    obtain ⟨hu, hmx, hk⟩ := hk
    split at hk
    · rename_i l u hl hh
      obtain ⟨h0, h1, h2, hk⟩ := hk
      refine ⟨_, AIns.quiet (fun FB w0 μ σ w s' hx => ?_), hk⟩
      have hv := hx x (by simp)
      rw [hp] at hv
      have hv := hv.string
      have hmx' : mx = none := by cases mx <;> simp at hmx ⊢
      subst hmx'
      have hl := nat_bnd h0 (bnd_of hl (fun y hy => hx y (by simp [hy])) (σ := σ))
      have hh := nat_bnd (by omega) (bnd_of hh (fun y hy => hx y (by simp [hy])) (σ := σ))
      have hb := @run_sliceBounds P w lo hi none σ false s.size s.size l.toNat u.toNat s.size (by simp) hl hh (.inl ⟨rfl, rfl⟩) (by omega) (by omega) (Nat.le_refl _)
      simp only [Option.map_none] at hb
      exact ⟨_, by simp [Instr.sliceAt, run_underlying hu, Instr.slice, hv, hb], .plain _ rfl⟩
    · exact hk.elim
  · rename_i id off n k hp
    split at hk
    · rename_i e i hs
      obtain ⟨rfl, hmh, hk⟩ := hk
      obtain ⟨hu, ht⟩ := si_facts hs
      obtain ⟨d, j', z, g⟩ := ti_facts ht
      split at hk
      · rename_i l u m hl hh hm'
        obtain ⟨h0, h1, h2, h3, hk⟩ := hk
        refine ⟨_, AIns.quiet (fun FB w0 μ σ w s' hx => ?_), hk⟩
        have hv := hx x (by simp)
        rw [hp] at hv
        have hl := nat_bnd h0 (bnd_of hl (fun y hy => hx y (by simp [hy])) (σ := σ))
        have hh := nat_bnd (by omega) (bnd_of hh (fun y hy => hx y (by simp [hy])) (σ := σ))
        have hmh' : mx.isSome = true → hi.isSome = true := by simpa using hmh
        generalize hcx : σ x = cx at hv
        -- the cut's end of room
        have main : ∀ (A : Option Addr) (cap : Nat), n ≤ cap → ∃ m', m' ≤ cap ∧ u.toNat ≤ m' ∧ (Instr.sliceBounds true n cap (lo.map σ) (hi.map σ) (mx.map σ)).run P w = .ok (l.toNat, u.toNat, m') w := by
          intro A cap hcap
          cases mx with
          | none =>
            exact ⟨cap, Nat.le_refl _, by omega, @run_sliceBounds P w lo hi none σ true n cap l.toNat u.toNat cap (by simp) hl hh (.inl ⟨rfl, rfl⟩) (by omega) (by omega) (Nat.le_refl _)⟩
          | some y =>
            obtain ⟨h31, h32⟩ := h3 (by simp)
            have hm2 := bnd_of hm' (fun y' hy => hx y' (by simp [hy])) (σ := σ)
            rcases hm2 with ⟨hh2, _⟩ | ⟨y', ky, hy', ey⟩
            · cases hh2
            · obtain rfl := Option.some.inj hy'
              exact ⟨m.toNat, by omega, by omega, @run_sliceBounds P w lo hi (some y) σ true n cap l.toNat u.toNat m.toNat hmh' hl hh (.inr ⟨y, ky, rfl, by rw [ey]; congr 1; omega⟩) (by omega) (by omega) (by omega)⟩
        cases hv with
        | plain _ hq => simp [isPlain] at hq
        | slz _ _ _ lc hm ho A' =>
          obtain ⟨m', q1, q2, q3⟩ := main A' 0 (Nat.le_refl _)
          have hz : l.toNat = 0 ∧ u.toNat = 0 ∧ m' = 0 := by omega
          refine ⟨.slice A' 0 0, ?_, ?_⟩
          · simp [Instr.sliceAt, run_underlying hu, Instr.slice, hcx, q3, hz, g.runSize]
          · rw [hz.1, hz.2.1]; simp; exact .slz _ _ _ lc hm ho A'
        | sl _ _ _ _ cap lc hm hn hr =>
          obtain ⟨m', q1, q2, q3⟩ := main (some ⟨lc.b, lc.o + off, none⟩) cap hn
          have hmul : l.toNat * i.size + (m' - l.toNat) * i.size ≤ cap * i.size := by rw [← Nat.add_mul]; exact Nat.mul_le_mul_right _ (by omega)
          by_cases hml : m' = l.toNat
          · refine ⟨.slice (some ⟨lc.b, lc.o + off, none⟩) 0 0, ?_, ?_⟩
            · have : u.toNat = l.toNat := by omega
              simp [Instr.sliceAt, run_underlying hu, Instr.slice, hcx, q3, hml, g.runSize, this]
            · have : u.toNat - l.toNat = 0 := by omega
              rw [this]
              exact .slz _ _ _ lc hm (by omega) _
          · refine ⟨.slice (some ⟨lc.b, lc.o + off + l.toNat * i.size, none⟩) (u.toNat - l.toNat) (m' - l.toNat), ?_, ?_⟩
            · simp [Instr.sliceAt, run_underlying hu, Instr.slice, hcx, q3, hml, g.runSize, add_none]
            · rw [Nat.add_assoc]; exact .sl _ _ _ _ _ lc hm (by omega) (by omega)
      · exact hk.elim
    · exact hk.elim
  · rename_i k hp
    split at hk
    · rename_i ei hs
      obtain ⟨e, i⟩ := ei
      obtain ⟨hmx, hk⟩ := hk
      obtain ⟨hu, ht⟩ := si_facts hs
      obtain ⟨d, j', z, g⟩ := ti_facts ht
      have hmx' : mx = none := by cases mx <;> simp at hmx ⊢
      subst hmx'
      split at hk
      · rename_i l u hl hh
        obtain ⟨rfl, rfl, hk⟩ := hk
        refine ⟨_, AIns.quiet (fun FB w0 μ σ w s' hx => ?_), hk⟩
        have hv := hx x (by simp)
        rw [hp] at hv
        have hl := nat_bnd (by omega) (bnd_of hl (fun y hy => hx y (by simp [hy])) (σ := σ))
        have hh := nat_bnd (by omega) (bnd_of hh (fun y hy => hx y (by simp [hy])) (σ := σ))
        generalize hcx : σ x = cx at hv
        cases hv with
        | plain _ hq => simp [isPlain] at hq
        | sl0 A' _ =>
          have hb := @run_sliceBounds P w lo hi none σ true 0 0 0 0 0 (by simp) hl hh (.inl ⟨rfl, rfl⟩) (by omega) (by omega) (Nat.le_refl _)
          simp only [Option.map_none] at hb
          refine ⟨.slice A' 0 0, ?_, .sl0 _ _⟩
          simp [Instr.sliceAt, run_underlying hu, Instr.slice, hcx, hb, g.runSize]
      · exact hk.elim
    · exact hk.elim
  · exact hk.elim

/-! ### numbers, bools, strings -/
def abin (op : BinOp) (x y : Value) (K : Value → Prop) : Prop :=
  match op, x, y with
  | .shl, .int k a, .int _ b => 0 ≤ b ∧ K (.int k (k.wrap (a * 2 ^ (min b.toNat k.bits))))
  | .shr, .int k a, .int _ b => 0 ≤ b ∧ K (.int k (a.fdiv (2 ^ (min b.toNat k.bits))))
  | .add, .int k a, .int k' b => k = k' ∧ K (.int k (k.wrap (a + b)))
  | .sub, .int k a, .int k' b => k = k' ∧ K (.int k (k.wrap (a - b)))
  | .mul, .int k a, .int k' b => k = k' ∧ K (.int k (k.wrap (a * b)))
  | .quo, .int k a, .int k' b => k = k' ∧ b ≠ 0 ∧ K (.int k (k.wrap (a.tdiv b)))
  | .rem, .int k a, .int k' b => k = k' ∧ b ≠ 0 ∧ K (.int k (a.tmod b))
  | .and, .int k a, .int k' b => k = k' ∧ K (.int k (k.wrap (BitVec.ofInt k.bits a &&& BitVec.ofInt k.bits b).toNat))
  | .or, .int k a, .int k' b => k = k' ∧ K (.int k (k.wrap (BitVec.ofInt k.bits a ||| BitVec.ofInt k.bits b).toNat))
  | .xor, .int k a, .int k' b => k = k' ∧ K (.int k (k.wrap (BitVec.ofInt k.bits a ^^^ BitVec.ofInt k.bits b).toNat))
  | .eql, .int k a, .int k' b => k = k' ∧ K (.bool (decide (a = b)))
  | .neq, .int k a, .int k' b => k = k' ∧ K (.bool (!decide (a = b)))
  | .lss, .int k a, .int k' b => k = k' ∧ K (.bool (decide (a < b)))
  | .leq, .int k a, .int k' b => k = k' ∧ K (.bool (decide (a ≤ b)))
  | .gtr, .int k a, .int k' b => k = k' ∧ K (.bool (decide (b < a)))
  | .geq, .int k a, .int k' b => k = k' ∧ K (.bool (decide (b ≤ a)))
  | .add, .string a, .string b => a.size + b.size < 4611686018427387904 ∧ K (.string (a ++ b))
  | .eql, .string a, .string b => K (.bool (decide (a = b)))
  | .neq, .string a, .string b => K (.bool (!decide (a = b)))
  | .lss, .string a, .string b => K (.bool (Op.bytesLess a.toList b.toList))
  | .leq, .string a, .string b => K (.bool (Op.bytesLess a.toList b.toList || decide (a = b)))
  | .gtr, .string a, .string b => K (.bool (!(Op.bytesLess a.toList b.toList || decide (a = b))))
  | .geq, .string a, .string b => K (.bool (!Op.bytesLess a.toList b.toList))
  | _, _, _ => False

theorem toList_inj {a b : ByteArray} : (a.toList == b.toList) = decide (a = b) := by
  rw [Bool.eq_iff_iff]
  simp only [beq_iff_eq, decide_eq_true_eq]
  constructor
  · intro e
    have h1 : ∀ s : ByteArray, s.toList = s.data.toList := fun s => by
      exact ByteArray.toList_eq s
    rw [h1, h1] at e
    cases a; cases b
    congr 1
    exact Array.toList_inj.1 e
  · rintro rfl; rfl

end Go.Sim
/- Operations on numbers and strings, literals, makes. Conditions: those that each theorem names. -/
set_option linter.unusedVariables false
set_option linter.unusedSimpArgs false
namespace Go.Sim
variable {P : Program} {FB : Nat → Prop} {w0 : World} {μ : Nat → Option Loc} {h : AH} {w : World}

theorem abin_sound {op : BinOp} {t : TypeId} {x y : Operand} {ρ : Operand → Value} {K : Value → Prop} (hk : abin op (ρ x) (ρ y) K) :
    ∃ v, AIns P (fun σ => (do eqGuard op t x y (σ x) (σ y); binOp op t (σ x) (σ y) : Sem Value)) [x, y] ρ h v h ∧ K v := by
  unfold abin at hk
  have hint : ∀ (k k' : IntKind) (a b : Int) (w : World), (eqGuard op t x y (.int k a) (.int k' b)).run P w = .ok () w := fun k k' a b w => by cases op <;> rfl
  have hstr : ∀ (a b : ByteArray) (w : World), (eqGuard op t x y (.string a) (.string b)).run P w = .ok () w := fun a b w => by cases op <;> rfl
  have go : ∀ (v : Value) (K : Value → Prop), isPlain v = true → (∀ w, (do eqGuard op t x y (ρ x) (ρ y); binOp op t (ρ x) (ρ y) : Sem Value).run P w = .ok v w) → isPlain (ρ x) = true → isPlain (ρ y) = true → K v →
      ∃ v, AIns P (fun σ => (do eqGuard op t x y (σ x) (σ y); binOp op t (σ x) (σ y) : Sem Value)) [x, y] ρ h v h ∧ K v := fun v K hp hr hx hy hk =>
    ⟨v, AIns.quiet (fun FB w0 μ σ w s hxs => by
      have a := hxs x (by simp)
      have b := hxs y (by simp)
      have pl : ∀ {u c : Value}, isPlain u = true → VR μ u c → c = u := fun {u c} hu hv => by
        cases hv <;> first | rfl | (simp [isPlain] at hu; done) | skip
        all_goals (rename_i e1 e2; simp [isPlain] at hu; subst hu; congr 1; exact (Array.eq_empty_of_size_eq_zero (by simpa using e1.symm)))
      rw [pl hx a, pl hy b]
      exact ⟨v, hr w, .plain v hp⟩), hk⟩
  split at hk
  all_goals first
    | exact hk.elim
    | (rename_i k a k' b e1 e2; rw [e1, e2] at go
       first
        | (obtain ⟨h0, hk⟩ := hk; refine go _ _ rfl (fun w => ?_) rfl rfl hk; simp [hint, binOp, Op.shift, show ¬ b < 0 by omega])
        | (obtain ⟨rfl, h0, hk⟩ := hk; refine go _ _ rfl (fun w => ?_) rfl rfl hk; simp [hint, binOp, Op.intDiv, h0])
        | (obtain ⟨rfl, hk⟩ := hk; refine go _ _ rfl (fun w => ?_) rfl rfl hk; simp [hint, binOp, Op.intArith, Op.intBits, Op.intCmp, bne] <;> done)
        | (obtain ⟨rfl, hk⟩ := hk; refine go _ _ rfl (fun w => ?_) rfl rfl hk; simp [hint, binOp, Op.intArith, Op.intBits, Op.intCmp, bne]; rfl))
    | (rename_i a b e1 e2; rw [e1, e2] at go
       first
        | (obtain ⟨h0, hk⟩ := hk; refine go _ _ rfl (fun w => ?_) rfl rfl hk; simp only [Sem.run_bind, hstr, Result.andThen_ok, binOp, Op.stringOp]; rw [if_neg (by simp [IntKind.max, IntKind.bits, IntKind.signed]; omega)]; rfl)
        | (refine go _ _ rfl (fun w => ?_) rfl rfl hk; simp only [Sem.run_bind, hstr, Result.andThen_ok, binOp, Op.stringOp, toList_inj]; rfl))

/-- Equality of structs whose fields are numbers, texts and bools. -/
def flatEqs (P : Program) : List Field → List Value → List Value → Option Bool
  | [], _, _ => some true
  | f :: fs, xs, ys =>
    if f.name = "_" then none else
      match P.underlying f.type, xs[f.offset]?, ys[f.offset]? with
      | some .string, some (.string a), some (.string b) => (flatEqs P fs xs ys).map (decide (a = b) && ·)
      | some (.int _), some (.int k a), some (.int k' b) => if k = k' then (flatEqs P fs xs ys).map (decide (a = b) && ·) else none
      | some .bool, some (.bool a), some (.bool b) => (flatEqs P fs xs ys).map ((a == b) && ·)
      | _, _, _ => none
theorem LR.at {a b : List Value} (h : LR μ a b) {i : Nat} {v : Value} (e : a[i]? = some v) : ∃ c, b[i]? = some c ∧ VR μ v c := by
  have hi : i < a.length := by
    rcases Nat.lt_or_ge i a.length with h | h
    · exact h
    · rw [List.getElem?_eq_none h] at e; cases e
  have hb : i < b.length := by rw [← h.1]; exact hi
  rw [List.getElem?_eq_getElem hi] at e
  exact ⟨b[i], List.getElem?_eq_getElem hb, Option.some.inj e ▸ h.2 i hi hb⟩
theorem flatEqs_run {d : Nat} {xs' ys' : Array Value} {xs ys : List Value} (hx : LR μ xs xs'.toList) (hy : LR μ ys ys'.toList) (w : World) : ∀ {fs : List Field} {b : Bool}, flatEqs P fs xs ys = some b →
    (Op.eqFields (d + 1) xs' ys' fs).run P w = .ok b w
  | [], b, e => by
    simp only [flatEqs, Option.some.injEq] at e
    subst e
    simp [Op.eqFields]
  | f :: fs, b, e => by
    unfold flatEqs at e
    split at e
    · cases e
    · rename_i hn
      split at e
      · rename_i a c hu ex ey
        obtain ⟨r, e1, rfl⟩ := Option.map_eq_some_iff.1 e
        obtain ⟨cx, e2, v2⟩ := hx.at ex
        obtain ⟨cy, e3, v3⟩ := hy.at ey
        rw [v2.string] at e2
        rw [v3.string] at e3
        have ih := flatEqs_run (d := d) hx hy w (fs := fs) e1
        have p1 := run_part_plain w (P := P) (e := f.type) (by simp [Program.plainKey, hu]) (xs := xs') (off := f.offset) (v := .string a) (by simpa using e2)
        have p2 := run_part_plain w (P := P) (e := f.type) (by simp [Program.plainKey, hu]) (xs := ys') (off := f.offset) (v := .string c) (by simpa using e3)
        simp only [Op.eqFields, hn, ne_eq, not_false_eq_true, if_true, Sem.run_bind, p1, p2, run_equalIn_string w d f.type a c hu, Result.andThen_ok]
        by_cases hac : a = c
        · subst hac; simp [ih]
        · have : (a.toList == c.toList) = false := by
            rw [beq_eq_false_iff_ne]
            intro h
            rw [ByteArray.toList_eq, ByteArray.toList_eq] at h
            exact hac (ByteArray.ext (Array.toList_inj.1 h))
          simp [this, hac]
      · rename_i q k a k' c hu ex ey
        split at e
        · rename_i hk
          subst hk
          obtain ⟨r, e1, rfl⟩ := Option.map_eq_some_iff.1 e
          obtain ⟨cx, e2, v2⟩ := hx.at ex
          obtain ⟨cy, e3, v3⟩ := hy.at ey
          rw [v2.int] at e2
          rw [v3.int] at e3
          have ih := flatEqs_run (d := d) hx hy w (fs := fs) e1
          have p1 := run_part_plain w (P := P) (e := f.type) (by simp [Program.plainKey, hu]) (xs := xs') (off := f.offset) (v := .int k a) (by simpa using e2)
          have p2 := run_part_plain w (P := P) (e := f.type) (by simp [Program.plainKey, hu]) (xs := ys') (off := f.offset) (v := .int k c) (by simpa using e3)
          simp only [Op.eqFields, hn, ne_eq, not_false_eq_true, if_true, Sem.run_bind, p1, p2, run_equalIn_int w d f.type k q a c hu, Result.andThen_ok]
          by_cases hac : a = c
          · subst hac; simp [ih]
          · simp [hac]
        · cases e
      · rename_i a c hu ex ey
        obtain ⟨r, e1, rfl⟩ := Option.map_eq_some_iff.1 e
        obtain ⟨cx, e2, v2⟩ := hx.at ex
        obtain ⟨cy, e3, v3⟩ := hy.at ey
        rw [v2.bool] at e2
        rw [v3.bool] at e3
        have ih := flatEqs_run (d := d) hx hy w (fs := fs) e1
        have p1 := run_part_plain w (P := P) (e := f.type) (by simp [Program.plainKey, hu]) (xs := xs') (off := f.offset) (v := .bool a) (by simpa using e2)
        have p2 := run_part_plain w (P := P) (e := f.type) (by simp [Program.plainKey, hu]) (xs := ys') (off := f.offset) (v := .bool c) (by simpa using e3)
        simp only [Op.eqFields, hn, ne_eq, not_false_eq_true, if_true, Sem.run_bind, p1, p2, run_equalIn_bool' w d f.type a c hu, Result.andThen_ok]
        cases a <;> cases c <;> simp [ih]
      · cases e
theorem structEq_run {t : TypeId} {fs : Array Field} {xs ys : List Value} {xs' ys' : Array Value} {b : Bool} (hu : P.underlying t = some (.struct fs)) (e : (if P.stoodInHeld t = false ∧ P.eqGuardType P.depth t = false then flatEqs P fs.toList xs ys else none) = some b) (hx : LR μ xs xs'.toList) (hy : LR μ ys ys'.toList) (w : World) :
    (Op.equalIn (9999 + 1) t (.agg xs') (.agg ys')).run P w = .ok b w ∧ ∀ op xo yo, (eqGuard op t xo yo (.agg xs') (.agg ys')).run P w = .ok () w := by
  split at e
  · rename_i hc
    have hf : P.fieldsOf t = fs := by unfold Program.fieldsOf; rw [hu]
    refine ⟨?_, fun op xo yo => run_eqGuard_agg w op t xo yo xs' ys' hc.2⟩
    have := run_equalIn_agg w 9999 t xs' ys' (by rw [hf]; exact hu) hc.1
    rw [hf] at this
    rw [this]
    exact flatEqs_run (d := 9998) hx hy w e
  · cases e
/-- Equality by the type: bools, pointers against nil, flat structs. -/
def aeqB (P : Program) (t : TypeId) (x y : Value) : Option Bool :=
  match P.underlying t, x, y with
  | some .bool, .bool a, .bool b => some (a == b)
  | some (.pointer _), .pointer none, .pointer b => some b.isNone
  | some (.pointer _), .pointer (some _), .pointer none => some false
  | some (.struct fs), .agg xs, .agg ys => if P.stoodInHeld t = false ∧ P.eqGuardType P.depth t = false then flatEqs P fs.toList xs.toList ys.toList else none
  | _, _, _ => none
theorem VR.aggTo {xs : Array Value} {c : Value} (h : VR μ (.agg xs) c) : ∃ xs', c = .agg xs' ∧ LR μ xs.toList xs'.toList := by
  cases h with
  | plain _ hp => simp [isPlain] at hp
  | agg _ a' hs e => exact ⟨a', rfl, AR.list ⟨hs, e⟩⟩
def aeq (P : Program) (op : BinOp) (t : TypeId) (x y : Value) (K : Value → Prop) : Prop :=
  match op, aeqB P t x y with
  | .eql, some b => K (.bool b)
  | .neq, some b => K (.bool (!b))
  | _, _ => False
def abinT (P : Program) (op : BinOp) (t : TypeId) (x y : Value) (K : Value → Prop) : Prop :=
  match x with
  | .bool _ | .pointer _ | .agg _ => aeq P op t x y K
  | _ => abin op x y K
theorem VR.ptrish {a : Option Addr} {c : Value} (hv : VR μ (.pointer a) c) : ∃ a', c = .pointer a' ∧ a'.isNone = a.isNone := by
  cases hv with
  | plain => exact ⟨a, rfl, rfl⟩
  | ptr => exact ⟨_, rfl, rfl⟩
theorem aeqB_run {t : TypeId} {x y cx cy : Value} {b : Bool} (e : aeqB P t x y = some b) (hx : VR μ x cx) (hy : VR μ y cy) (w : World) : (Op.equal t cx cy).run P w = .ok b w := by
  have hd : ∀ t x y, Op.equal t x y = Op.equalIn (9999 + 1) t x y := fun _ _ _ => rfl
  unfold aeqB at e
  rw [hd]
  split at e
  · rename_i hu
    unfold Op.equalIn
    rw [hx.bool, hy.bool]
    obtain rfl := Option.some.inj e
    simp [Sem.run_bind, run_underlying hu]
  · rename_i hu
    unfold Op.equalIn
    obtain ⟨a', rfl, h1⟩ := hx.ptrish
    obtain ⟨b', rfl, h2⟩ := hy.ptrish
    obtain rfl := Option.some.inj e
    have : a' = none := by simpa using h1
    subst this
    simp [Sem.run_bind, run_underlying hu, h2]
  · rename_i hu
    unfold Op.equalIn
    obtain ⟨a', rfl, h1⟩ := hx.ptrish
    obtain ⟨b', rfl, h2⟩ := hy.ptrish
    obtain rfl := Option.some.inj e
    have : b' = none := by simpa using h2
    subst this
    cases a' with
    | none => simp at h1
    | some a' => simp [Sem.run_bind, run_underlying hu]
  · rename_i fs xs ys hu
    obtain ⟨xs', rfl, h1⟩ := hx.aggTo
    obtain ⟨ys', rfl, h2⟩ := hy.aggTo
    exact (structEq_run hu e h1 h2 w).1
  · cases e
theorem aeqB_guard {op : BinOp} {t : TypeId} {x y : Value} {cx cy : Value} {b : Bool} {xo yo : Operand} (e : aeqB P t x y = some b) (hx : VR μ x cx) (hy : VR μ y cy) (w : World) : (eqGuard op t xo yo cx cy).run P w = .ok () w := by
  unfold aeqB at e
  split at e
  · rw [hx.bool, hy.bool]; cases op <;> rfl
  · obtain ⟨a', rfl, h1⟩ := hx.ptrish
    obtain ⟨b', rfl, h2⟩ := hy.ptrish
    cases op <;> rfl
  · obtain ⟨a', rfl, h1⟩ := hx.ptrish
    obtain ⟨b', rfl, h2⟩ := hy.ptrish
    cases op <;> rfl
  · rename_i fs xs ys hu
    obtain ⟨xs', rfl, h1⟩ := hx.aggTo
    obtain ⟨ys', rfl, h2⟩ := hy.aggTo
    exact (structEq_run hu e h1 h2 w).2 op xo yo
  · cases e
theorem aeqB_bin {op : BinOp} {t : TypeId} {x y : Value} {cx cy : Value} {b : Bool} (e : aeqB P t x y = some b) (hx : VR μ x cx) (hy : VR μ y cy) :
    binOp .eql t cx cy = (do pure (.bool (← Op.equal t cx cy))) ∧ binOp .neq t cx cy = (do pure (.bool (!(← Op.equal t cx cy)))) := by
  unfold aeqB at e
  split at e
  · rw [hx.bool, hy.bool]; exact ⟨rfl, rfl⟩
  · obtain ⟨a', rfl, h1⟩ := hx.ptrish
    obtain ⟨b', rfl, h2⟩ := hy.ptrish
    exact ⟨rfl, rfl⟩
  · obtain ⟨a', rfl, h1⟩ := hx.ptrish
    obtain ⟨b', rfl, h2⟩ := hy.ptrish
    exact ⟨rfl, rfl⟩
  · obtain ⟨xs', rfl, h1⟩ := hx.aggTo
    obtain ⟨ys', rfl, h2⟩ := hy.aggTo
    exact ⟨rfl, rfl⟩
  · cases e
theorem aeq_sound {op : BinOp} {t : TypeId} {x y : Operand} {ρ : Operand → Value} {K : Value → Prop} (hk : aeq P op t (ρ x) (ρ y) K) :
    ∃ v, AIns P (fun σ => (do eqGuard op t x y (σ x) (σ y); binOp op t (σ x) (σ y) : Sem Value)) [x, y] ρ h v h ∧ K v := by
  unfold aeq at hk
  split at hk
  · rename_i b e
    refine ⟨_, AIns.quiet (fun FB w0 μ σ w s hxs => ?_), hk⟩
    have hx := hxs x (by simp)
    have hy := hxs y (by simp)
    refine ⟨.bool b, ?_, .plain _ rfl⟩
    simp only [Sem.run_bind, aeqB_guard e hx hy, Result.andThen_ok, (aeqB_bin (op := .eql) e hx hy).1, aeqB_run e hx hy, Sem.run_pure]
  · rename_i b e
    refine ⟨_, AIns.quiet (fun FB w0 μ σ w s hxs => ?_), hk⟩
    have hx := hxs x (by simp)
    have hy := hxs y (by simp)
    refine ⟨.bool (!b), ?_, .plain _ rfl⟩
    simp only [Sem.run_bind, aeqB_guard e hx hy, Result.andThen_ok, (aeqB_bin (op := .neq) e hx hy).2, aeqB_run e hx hy, Sem.run_pure]
  · exact hk.elim
theorem abinT_sound {op : BinOp} {t : TypeId} {x y : Operand} {ρ : Operand → Value} {K : Value → Prop} (hk : abinT P op t (ρ x) (ρ y) K) :
    ∃ v, AIns P (fun σ => (do eqGuard op t x y (σ x) (σ y); binOp op t (σ x) (σ y) : Sem Value)) [x, y] ρ h v h ∧ K v := by
  unfold abinT at hk
  split at hk
  · exact aeq_sound hk
  · exact aeq_sound hk
  · exact aeq_sound hk
  · exact abin_sound hk

def aun (op : UnOp) (x : Value) (K : Value → Prop) : Prop :=
  match op, x with
  | .not, .bool b => K (.bool (!b))
  | .neg, .int k n => K (.int k (k.wrap (0 - n)))
  | _, _ => False
theorem VR.plainEq {u c : Value} (hu : isPlain u = true) (hv : VR μ u c) : c = u := by
  cases hv <;> first | rfl | (simp [isPlain] at hu; done) | skip
  all_goals (rename_i e1 e2; simp [isPlain] at hu; subst hu; congr 1; exact (Array.eq_empty_of_size_eq_zero (by simpa using e1.symm)))
theorem aun_sound {op : UnOp} {x : Operand} {ρ : Operand → Value} {K : Value → Prop} (hk : aun op (ρ x) K) :
    ∃ v, AIns P (fun σ => Op.unary op (σ x)) [x] ρ h v h ∧ K v := by
  unfold aun at hk
  split at hk
  · rename_i b e
    refine ⟨_, AIns.quiet (fun FB w0 μ σ w s hx => ?_), hk⟩
    have := hx x (by simp); rw [e] at this
    exact ⟨_, by rw [this.bool]; rfl, .plain _ rfl⟩
  · rename_i k n e
    refine ⟨_, AIns.quiet (fun FB w0 μ σ w s hx => ?_), hk⟩
    have := hx x (by simp); rw [e] at this
    exact ⟨_, by rw [this.int]; rfl, .plain _ rfl⟩
  · exact hk.elim

/-! ### turning one type into another -/
def bytesV (s : ByteArray) : List Value := s.data.toList.map fun b => .int .u8 b.toNat
/-- Bytes of cells. -/
def toBytes : List Value → Option (List UInt8)
  | [] => some []
  | .int .u8 n :: r => (toBytes r).map (UInt8.ofNat n.toNat :: ·)
  | _ => none

def aconv (P : Program) (h : AH) (src dst : TypeId) (x : Value) (K : Value → AH → Prop) : Prop :=
  match P.underlying src, P.underlying dst, x with
  | some _, some (.int k), .int _ n => K (.int k (k.wrap n)) h
  | some .string, some .string, .string s => K (.string s) h
  | some _, some (.slice e), .string s => P.underlying e = some (.int .u8) ∧ K (.slice (some ⟨h.n, 0, none⟩) s.size 1) (h.alloc (.cells (bytesV s) .solo h.n))
  | some (.slice e), some .string, .slice Option.none 0 _ => P.underlying e = some (.int .u8) ∧ K (.string ByteArray.empty) h
  | some (.slice e), some .string, .slice (some ⟨id, off, Option.none⟩) n _ => P.underlying e = some (.int .u8) ∧
      (match (rd h id off n).bind toBytes with | some l => K (.string ⟨l.toArray⟩) h | none => False)
  | _, _, _ => False

theorem toBytes_LR : ∀ {vs cvs : List Value} {l : List UInt8}, toBytes vs = some l → LR μ vs cvs → cvs = vs
  | [], cvs, l, _, e => by have := e.1; simp at this; exact List.eq_nil_of_length_eq_zero this.symm
  | v :: r, [], l, _, e => by have := e.1; simp at this
  | v :: r, c :: cr, l, ht, e => by
    have hh := e.head
    cases v <;> first | (simp [toBytes] at ht; done) | skip
    rename_i k n
    cases k <;> first | (simp [toBytes] at ht; done) | skip
    simp only [toBytes, Option.map_eq_some_iff] at ht
    obtain ⟨l', hl', _⟩ := ht
    rw [hh.int, toBytes_LR hl' e.tail]

theorem toBytes_nums : ∀ {vs : List Value} {l : List UInt8}, toBytes vs = some l → ∃ ns : List Int, vs = ns.map (Value.int .u8) ∧ l = ns.map fun n => UInt8.ofNat n.toNat
  | [], l, e => ⟨[], rfl, by simpa [toBytes] using e.symm⟩
  | v :: r, l, e => by
    cases v <;> first | (simp [toBytes] at e; done) | skip
    rename_i k n
    cases k <;> first | (simp [toBytes] at e; done) | skip
    simp only [toBytes, Option.map_eq_some_iff] at e
    obtain ⟨l', hl', rfl⟩ := e
    obtain ⟨ns, rfl, rfl⟩ := toBytes_nums hl'
    exact ⟨n :: ns, rfl, rfl⟩
theorem foldl_push : ∀ (ns : List Int) (s : ByteArray), ns.foldl (fun r n => r.push (UInt8.ofNat n.toNat)) s = ⟨s.data ++ (ns.map fun n => UInt8.ofNat n.toNat).toArray⟩
  | [], s => by simp
  | n :: ns, s => by
    rw [List.foldl_cons, foldl_push ns]
    congr 1
    simp [ByteArray.push]

theorem grown_heap (w : World) (e : TypeId) (s : ByteArray) :
    (Lib.bytesWorld w e s).heap = (w.drew.alloc (.cells (Lib.bytesCells w e s) e ((Lib.bytesCells w e s).size, (Lib.bytesCells w e s).size + 1))).heap := by
  apply Array.ext_getElem?
  intro j
  by_cases h1 : j < w.heap.size
  · rw [Lib.bytesWorld_at_old w e s j h1, RowKit.Below.heap_alloc w.drew _ j h1]; rfl
  · by_cases h2 : j = w.heap.size
    · subst h2
      rw [Lib.bytesWorld_at_new]
      exact (heap_alloc_new w.drew _).symm
    · rw [Array.getElem?_eq_none (by rw [Lib.bytesWorld_size]; omega), Array.getElem?_eq_none (by simp; omega)]

theorem bytesV_length (s : ByteArray) : (bytesV s).length = s.size := by simp [bytesV]
theorem bytesV_plain (s : ByteArray) : ∀ v ∈ bytesV s, zok v = true := by
  intro v hv
  simp only [bytesV, List.mem_map] at hv
  obtain ⟨b, _, rfl⟩ := hv
  rfl

theorem aconv_sound {src dst : TypeId} {x : Operand} {ρ : Operand → Value} {K : Value → AH → Prop} (hk : aconv P h src dst (ρ x) K) :
    ∃ v h', AIns P (fun σ => convert src dst (σ x)) [x] ρ h v h' ∧ K v h' := by
  unfold aconv at hk
  split at hk
  · rename_i ds k ik n hs hd hp
    refine ⟨_, h, AIns.quiet (fun FB w0 μ σ w s hx => ?_), hk⟩
    have := hx x (by simp); rw [hp] at this
    rw [this.int]
    refine ⟨_, ?_, .plain _ rfl⟩
    simp [convert, run_underlying hs, run_underlying hd, Conv.intToInt]
  · rename_i s hs hd hp
    refine ⟨_, h, AIns.quiet (fun FB w0 μ σ w s' hx => ?_), hk⟩
    have := hx x (by simp); rw [hp] at this
    rw [this.string]
    exact ⟨_, by simp [convert, run_underlying hs, run_underlying hd], .plain _ rfl⟩
  · rename_i ds e s hs hd hp
    obtain ⟨he, hk⟩ := hk
    refine ⟨_, _, ?_, hk⟩
    intro FB w0 μ σ w s' hx
    have hv := hx x (by simp); rw [hp] at hv
    have hcap := Lib.run_convert_string_bytes w src dst e s hs hd he
    have hsz : (Lib.bytesCells w e s).size = s.size + (grownCap w s.size 0 e - s.size) := by simp [Lib.bytesCells]
    have hge : s.size ≤ grownCap w s.size 0 e := by simp [grownCap, Question.cut]
    have hpost := (s'.drew).new (cs := bytesV s) (arr := Lib.bytesCells w e s) (e := e) (fz := ((Lib.bytesCells w e s).size, (Lib.bytesCells w e s).size + 1))
      (by rw [bytesV_length, hsz]; omega) (fun j a b => by
        have a' : j < s.data.size := by rw [bytesV_length] at a; exact a
        have : (Lib.bytesCells w e s)[j] = (bytesV s)[j] := by
          simp only [Lib.bytesCells, bytesV, List.getElem_map]
          rw [Array.getElem_append_left (by simpa using a')]
          simp
        rw [this]
        exact zok_VR (bytesV_plain s _ (List.getElem_mem a)) μ) (fun j a b => by omega) (fun v hv => zok_one (bytesV_plain s v hv))
    refine ⟨_, _, _, by simp only [hv.string]; exact hcap, ⟨hpost.sim.same (grown_heap w e s) rfl rfl rfl, hpost.ext, hpost.unt⟩, ?_⟩
    have := VR.sl (μ := upd μ h.n ⟨w.heap.size, 0, (Lib.bytesCells w e s).size⟩) h.n 0 s.size 1 (grownCap w s.size 0 e) _ (upd_same _ _) hge (by simp only [hsz]; omega)
    exact this
  · rename_i e c hs hd hp
    obtain ⟨he, hk⟩ := hk
    refine ⟨_, h, AIns.quiet (fun FB w0 μ σ w s' hx => ?_), hk⟩
    have hv := hx x (by simp); rw [hp] at hv
    generalize hcx : σ x = cx at hv
    cases hv with
    | plain _ hq => simp [isPlain] at hq
    | sl0 A' _ =>
      refine ⟨_, ?_, .plain _ rfl⟩
      rw [run_convert_bytes_string w src dst e A' 0 0 hs he hd]
      cases A' with
      | none => simp [Conv.bytesToString]
      | some a => simp [Conv.bytesToString, loadCells, loadCellsFrom]
  · rename_i e id off n c hs hd hp
    obtain ⟨he, hk⟩ := hk
    split at hk
    · rename_i l hl
      obtain ⟨vs, hvs, hb⟩ := Option.bind_eq_some_iff.1 hl
      refine ⟨_, h, AIns.quiet (fun FB w0 μ σ w s' hx => ?_), hk⟩
      have hv := hx x (by simp); rw [hp] at hv
      generalize hcx : σ x = cx at hv
      obtain ⟨ns, rfl, rfl⟩ := toBytes_nums hb
      cases hv with
      | plain _ hq => simp [isPlain] at hq
      | slz _ _ _ lc hm ho A' =>
        obtain ⟨cvs, e1, e2, e3⟩ := s'.read hm hvs
        have hns : ns = [] := by
          have := e1.1; simp at this
          exact List.eq_nil_of_length_eq_zero (by omega)
        subst hns
        refine ⟨_, ?_, .plain _ rfl⟩
        rw [run_convert_bytes_string w src dst e A' 0 0 hs he hd]
        cases A' with
        | none => simp [Conv.bytesToString]; rfl
        | some a => simp [Conv.bytesToString, loadCells, loadCellsFrom]; rfl
      | sl _ _ _ _ cap lc hm hn hr =>
        obtain ⟨cvs, e1, e2, e3⟩ := s'.read hm hvs
        have hc := toBytes_LR hb e1
        subst hc
        have hload := run_loadCells_list P w lc.b (lc.o + off) n (ns.map (Value.int .u8)) e2 e3
        refine ⟨_, ?_, .plain _ rfl⟩
        rw [run_convert_bytes_string w src dst e _ _ _ hs he hd, run_bytesToString w _ n cap ns hload, foldl_push]
        simp
    · exact hk.elim
  · exact hk.elim

/-! ### lengths, the least, the greatest, parts of a tuple -/
def alen (P : Program) (h : AH) (t : TypeId) (x : Value) (K : Value → Prop) : Prop :=
  match P.underlying t, x with
  | some .string, .string s => K (.int .i64 s.size)
  | some (.slice _), .slice _ n _ => K (.int .i64 n)
  | some (.map _ _), .map (some r) => (match h.ob r with | .map es => K (.int .i64 es.length) | _ => False)
  | _, _ => False
theorem VR.sliceOf {A : Option Addr} {n k : Nat} {c : Value} (hv : VR μ (.slice A n k) c) : ∃ A' cap, c = .slice A' n cap := by
  cases hv with
  | plain _ hq => simp [isPlain] at hq
  | sl => exact ⟨_, _, rfl⟩
  | slz => exact ⟨_, _, rfl⟩
  | sl0 => exact ⟨_, _, rfl⟩
theorem alen_sound {t ty : TypeId} {x : Operand} {ρ : Operand → Value} {K : Value → Prop} (hk : alen P h t (ρ x) K) :
    ∃ v, AIns P (fun σ => Builtin.len_ #[t] ty #[σ x]) [x] ρ h v h ∧ K v := by
  unfold alen at hk
  split at hk
  · rename_i s hu hp
    refine ⟨_, AIns.quiet (fun FB w0 μ σ w s' hx => ?_), hk⟩
    have hv := hx x (by simp); rw [hp] at hv
    exact ⟨_, by rw [hv.string]; exact run_len_string w t ty s hu, .plain _ rfl⟩
  · rename_i e A n k hu hp
    refine ⟨_, AIns.quiet (fun FB w0 μ σ w s' hx => ?_), hk⟩
    have hv := hx x (by simp); rw [hp] at hv
    obtain ⟨A', cap, hc⟩ := hv.sliceOf
    refine ⟨_, ?_, .plain _ rfl⟩
    rw [hc]; simp [Builtin.len_, run_underlying hu, goInt]
  · rename_i a b r hu hp
    split at hk
    · rename_i es ho
      refine ⟨_, AIns.quiet (fun FB w0 μ σ w s' hx => ?_), hk⟩
      have hv := hx x (by simp); rw [hp] at hv
      generalize hcx : σ x = cx at hv
      cases hv with
      | plain _ hq => simp [isPlain] at hq
      | map _ l hm =>
        obtain ⟨_, ents, clock, hb, hr⟩ := s'.mp r l es hm ho
        refine ⟨_, ?_, .plain _ rfl⟩
        simp [Builtin.len_, run_underlying hu, getObj, Sem.run, hb, goInt, hr.1]
    · exact hk.elim
  · exact hk.elim

def aminmax (mx : Bool) : List Value → Option Value
  | [.int k a, .int k' b] => if k = k' then some (.int k (if mx then max a b else min a b)) else none
  | [.int k a, .int k' b, .int k'' c] => if k = k' ∧ k = k'' then some (.int k (if mx then max (max a b) c else min (min a b) c)) else none
  | _ => none
theorem min2_int (P : Program) (w : World) (k : IntKind) (a b : Int) : (Builtin.min2 (.int k a) (.int k b)).run P w = .ok (.int k (min a b)) w := by
  simp only [Builtin.min2, Sem.run_pure]; congr 2; split <;> omega
theorem max2_int (P : Program) (w : World) (k : IntKind) (a b : Int) : (Builtin.max2 (.int k a) (.int k b)).run P w = .ok (.int k (max a b)) w := by
  simp only [Builtin.max2, Sem.run_pure]; congr 2; split <;> omega

theorem aminmax_run (P : Program) (w : World) (mx : Bool) (ts : Array TypeId) (ty : TypeId) {l : List Value} {v : Value} (e : aminmax mx l = some v) :
    isPlain v = true ∧ (∀ x ∈ l, isPlain x = true) ∧ (if mx then Builtin.max_ ts ty l.toArray else Builtin.min_ ts ty l.toArray).run P w = .ok v w := by
  unfold aminmax at e
  split at e
  · rename_i k a k' b
    split at e
    · rename_i hk; subst hk
      obtain rfl := Option.some.inj e
      refine ⟨rfl, by simp [isPlain], ?_⟩
      cases mx <;> simp [Builtin.max_, Builtin.min_, min2_int, max2_int]
    · cases e
  · rename_i k a k' b k'' c
    split at e
    · rename_i hk; obtain ⟨rfl, rfl⟩ := hk
      obtain rfl := Option.some.inj e
      refine ⟨rfl, by simp [isPlain], ?_⟩
      cases mx <;> simp [Builtin.max_, Builtin.min_, min2_int, max2_int]
    · cases e
  · cases e

def aextract (x : Value) (i : Nat) (K : Value → Prop) : Prop :=
  match x with
  | .tuple vs => (match vs[i]? with | some v => K v | none => False)
  | _ => False
theorem aextract_sound {x : Operand} {i : Nat} {ρ : Operand → Value} {K : Value → Prop} (hk : aextract (ρ x) i K) :
    ∃ v, AIns P (fun σ => Instr.extract (σ x) i) [x] ρ h v h ∧ K v := by
  unfold aextract at hk
  split at hk
  · rename_i vs hp
    split at hk
    · rename_i v hv
      refine ⟨v, AIns.quiet (fun FB w0 μ σ w s hx => ?_), hk⟩
      have hvr := hx x (by simp); rw [hp] at hvr
      obtain ⟨a', hc, ha⟩ := hvr.tupleOf
      obtain ⟨hb, rfl⟩ := Array.getElem?_eq_some_iff.1 hv
      have hb' : i < a'.size := by rw [← ha.1]; exact hb
      exact ⟨a'[i], by rw [hc]; simp [Instr.extract, hb'], ha.2 _ hb hb'⟩
    · exact hk.elim
  · exact hk.elim

end Go.Sim
/- Literals, makes, appends and maps. Conditions: those that each theorem names. -/
set_option linter.unusedVariables false
set_option linter.unusedSimpArgs false
namespace Go.Sim
variable {P : Program} {FB : Nat → Prop} {w0 : World} {μ : Nat → Option Loc} {h : AH} {w : World}

/-! ### filling a literal -/
theorem putL_foldl (off : Nat) : ∀ (l : List Value) (k : Nat) (cs : Array Value), ((l.zipIdx k).foldl (fun cs (p : Value × Nat) => cs.setIfInBounds (off + p.2) p.1) cs).toList = putL cs.toList (off + k) l
  | [], _, _ => rfl
  | v :: r, k, cs => by
    rw [List.zipIdx_cons, List.foldl_cons, putL_foldl off r (k + 1), putL]
    simp [Nat.add_assoc]
theorem fill_step (off : Nat) (v : Array Value) (cs : Array Value) : v.zipIdx.foldl (fun cs (p : Value × Nat) => cs.setIfInBounds (off + p.2) p.1) cs = (putL cs.toList off v.toList).toArray := by
  apply Array.toList_inj.1
  rw [← Array.foldl_toList, Array.toList_zipIdx, putL_foldl]
  simp

theorem LR.putL {a b : List Value} (e : LR μ a b) : ∀ {vs cvs : List Value} (o : Nat), LR μ vs cvs → LR μ (Sim.putL a o vs) (Sim.putL b o cvs) := by
  intro vs
  induction vs generalizing a b with
  | nil =>
    intro cvs o hv
    have : cvs = [] := List.eq_nil_of_length_eq_zero (by have := hv.1; simpa using this.symm)
    subst this; exact e
  | cons v r ih =>
    intro cvs o hv
    cases cvs with
    | nil => have := hv.1; simp at this
    | cons c cr => exact ih (e.set o hv.head) (o + 1) hv.tail

/-- The parts of a literal, each at its place; 'pl' gives a part's place and size. -/
def afill (pl : Nat → Option (Nat × Nat)) : List (Nat × Value) → List Value → (List Value → Prop) → Prop
  | [], cs, K => K cs
  | (i, v) :: r, cs, K =>
    match pl i with
    | some (off, size) => v.cells.size = size ∧ v.cells.all one = true ∧ off + size ≤ cs.length ∧ afill pl r (putL cs off v.cells.toList) K
    | none => False

theorem afill_sound {pl pl' : Nat → Option (Nat × Nat)} (hpl : ∀ i p, pl i = some p → pl' i = some p) : ∀ {parts : List (Nat × Value)} {cs : List Value} {K : List Value → Prop}, afill pl parts cs K →
    ∃ r, K r ∧ r.length = cs.length ∧ ((∀ v ∈ cs, one v = true) → ∀ v ∈ r, one v = true) ∧ ∀ (μ : Nat → Option Loc) (parts' : List (Nat × Value)) (cs' : Array Value), parts'.map (·.1) = parts.map (·.1) →
      (∀ j (a : j < parts.length) (b : j < parts'.length), VR μ parts[j].2 parts'[j].2) → LR μ cs cs'.toList → ∃ r', Instr.fill pl' cs' parts' = some r' ∧ LR μ r r'.toList
  | [], cs, K, hk => ⟨cs, hk, rfl, fun h => h, fun μ parts' cs' hp _ hc => by
      have : parts' = [] := by simpa using hp
      subst this
      exact ⟨cs', rfl, hc⟩⟩
  | (i, v) :: r, cs, K, hk => by
    unfold afill at hk
    split at hk
    · rename_i off size hi
      obtain ⟨h1, h1', h2, hk⟩ := hk
      obtain ⟨res, hK, hlen, hone, hres⟩ := afill_sound hpl hk
      refine ⟨res, hK, by rw [hlen, putL_length], fun hcs => hone (fun v' hv' => by
        rcases putL_mem _ _ _ _ hv' with a | a
        · exact hcs v' a
        · exact Array.all_eq_true_iff_forall_mem.1 h1' v' (by simpa using a)), fun μ parts' cs' hp hv hc => ?_⟩
      cases parts' with
      | nil => simp at hp
      | cons p' r' =>
        obtain ⟨i', v'⟩ := p'
        simp only [List.map_cons, List.cons.injEq] at hp
        obtain ⟨rfl, hp⟩ := hp
        have hv0 : VR μ v v' := hv 0 (by simp) (by simp)
        have hcl := hv0.cellsLR
        have hcs : cs.length = cs'.size := by simpa using hc.1
        obtain ⟨r2, e1, e2⟩ := hres μ r' (Sim.putL cs'.toList off v'.cells.toList).toArray hp (fun j a b => hv (j + 1) (by simpa using a) (by simpa using b)) (by simpa using hc.putL off hcl.list)
        refine ⟨r2, ?_, e2⟩
        have hsz : v'.cells.size = size := by rw [← hcl.1]; exact h1
        unfold Instr.fill
        simp only [hpl _ _ hi, hsz]
        rw [if_neg (by simp; omega), fill_step]
        exact e1
    · exact hk.elim

def zerosL (n : Nat) (z : List Value) : List Value := (List.range n).map fun i => z.getD (i % z.length) undef
theorem zerosL_length (n : Nat) (z : List Value) : (zerosL n z).length = n := by simp [zerosL]
theorem zerosL_one {z : List Value} (hz : ∀ v ∈ z, zok v = true) (n : Nat) (hn : n = 0 ∨ 0 < z.length) : ∀ v ∈ zerosL n z, one v = true := by
  intro v hv
  simp only [zerosL, List.mem_map, List.mem_range] at hv
  obtain ⟨i, hi, rfl⟩ := hv
  have hlt : i % z.length < z.length := Nat.mod_lt _ (by omega)
  simp only [List.getD, List.getElem?_eq_getElem hlt, Option.getD_some]
  exact zok_one (hz _ (List.getElem_mem hlt))
theorem zeros_LR {z : List Value} (hz : ∀ v ∈ z, zok v = true) (n : Nat) (arr : Array Value) (ha : arr.toList = z) (hn : n = 0 ∨ 0 < z.length) (m : Nat) (hm : n ≤ m) (hm2 : m = 0 ∨ 0 < z.length) :
    ∀ j (a : j < (zerosL n z).length) (b : j < ((Array.range m).map (arr[· % arr.size]!)).size), VR μ (zerosL n z)[j] ((Array.range m).map (arr[· % arr.size]!))[j] := by
  intro j a b
  have hj : j < n := by simpa [zerosL] using a
  have hp : 0 < z.length := by omega
  have hlt : j % z.length < z.length := Nat.mod_lt _ hp
  have e1 : (zerosL n z)[j] = z[j % z.length] := by simp [zerosL, List.getD, hlt]
  have hsz : arr.size = z.length := by rw [← ha]; simp
  have e2 : ((Array.range m).map (arr[· % arr.size]!))[j] = z[j % z.length] := by
    subst ha
    have hlt' : j % arr.size < arr.size := by simpa using hlt
    simp [getElem!_pos, hlt']
  rw [e1, e2]
  exact zok_VR (hz _ (List.getElem_mem hlt)) μ

/-- A literal of a struct. -/
def abuild (P : Program) (t : TypeId) (parts : List (Nat × Value)) (K : Value → Prop) : Prop :=
  match sti P t with
  | some i => afill (fun f => (fi P t f).map fun p => (p.1, p.2.1)) parts i.zero fun cs => K (.agg cs.toArray)
  | none => False

def pv (ρ : Operand → Value) (p : Nat × Operand) : Nat × Value := (p.1, ρ p.2)
theorem parts_of {ps : Array (Nat × Operand)} {ρ σ : Operand → Value} (hv : ∀ x ∈ (ps.toList.map (·.2)), VR μ (ρ x) (σ x)) :
    ((ps.map (pv σ)).toList.map (·.1) = (ps.toList.map (pv ρ)).map (·.1)) ∧
    ∀ j (a : j < (ps.toList.map (pv ρ)).length) (b : j < (ps.map (pv σ)).toList.length), VR μ ((ps.toList.map (pv ρ))[j]).2 ((ps.map (pv σ)).toList[j]).2 := by
  constructor
  · simp [Function.comp_def, pv]
  · intro j a b
    have hj : j < ps.toList.length := by simpa using a
    simp only [List.getElem_map, Array.toList_map]
    exact hv _ (List.mem_map.2 ⟨_, List.getElem_mem hj, rfl⟩)

theorem sti_facts {t : TypeId} {i : TI} (e : sti P t = some i) : ∃ fs, P.underlying t = some (.struct fs) ∧ (∀ f ∈ fs, (P.info? f.type).isSome = true) ∧ ti P t = some i := by
  unfold sti at e
  split at e
  · rename_i fs hu
    split at e
    · rename_i hc
      exact ⟨fs, hu, fun f hf => Array.all_eq_true_iff_forall_mem.1 hc f hf, e⟩
    · cases e
  · cases e

theorem run_mapM_list {α β : Type} (P : Program) (w : World) (f : α → Sem β) (g : α → β) : ∀ (l : List α), (∀ x ∈ l, (f x).run P w = .ok (g x) w) → (l.mapM f).run P w = .ok (l.map g) w
  | [], _ => by simp
  | x :: r, hf => by
    have ih := run_mapM_list P w f g r (fun y hy => hf y (by simp [hy]))
    simp only [List.mapM_cons, Sem.run_bind, hf x (by simp), Result.andThen_ok, ih, Sem.run_pure, List.map_cons]
theorem run_mapM_array {α β : Type} (P : Program) (w : World) (f : α → Sem β) (g : α → β) (xs : Array α) (hf : ∀ x ∈ xs, (f x).run P w = .ok (g x) w) : (xs.mapM f).run P w = .ok (xs.map g) w := by
  rw [Array.mapM_eq_mapM_toList]
  simp only [Sem.run_map]
  rw [run_mapM_list P w f g xs.toList (fun x hx => hf x (by simpa using hx))]
  simp only [Result.andThen_ok]
  congr 1
  apply Array.toList_inj.1; simp

theorem fi_place {t : TypeId} {f fo sz : Nat} {ag : Bool} {fs : Array Field} (hu : P.underlying t = some (.struct fs)) (e : fi P t f = some (fo, sz, ag)) :
    (fs.map fun f => (f.offset, ((P.info? f.type).map (·.size)).getD 0))[f]? = some (fo, sz) := by
  obtain ⟨fs', fd, i, hu', hf, rfl, ht, rfl, _⟩ := fi_facts e
  rw [hu] at hu'
  obtain rfl := TypeDesc.struct.inj (Option.some.inj hu')
  obtain ⟨d, j, z, g⟩ := ti_facts ht
  simp [hf, g.info, g.size]

theorem abuild_sound {t : TypeId} {ps : Array (Nat × Operand)} {ρ : Operand → Value} {K : Value → Prop} (hk : abuild P t (ps.toList.map (pv ρ)) K) :
    ∃ v, AIns P (fun σ => Instr.build t (ps.map (pv σ))) (ps.toList.map (·.2)) ρ h v h ∧ K v := by
  unfold abuild at hk
  split at hk
  · rename_i i hs
    obtain ⟨fs, hu, hall, ht⟩ := sti_facts hs
    obtain ⟨d, j, z, g⟩ := ti_facts ht
    obtain ⟨r, hK, hlen, hone, hres⟩ := afill_sound (pl' := fun f => (fs.map fun f => (f.offset, ((P.info? f.type).map (·.size)).getD 0))[f]?) (fun f p hp => by
      obtain ⟨⟨fo, sz, ag⟩, e, rfl⟩ := Option.map_eq_some_iff.1 hp
      exact fi_place hu e) hk
    refine ⟨_, AIns.quiet (fun FB w0 μ σ w s hx => ?_), hK⟩
    obtain ⟨q1, q2⟩ := parts_of (μ := μ) (ρ := ρ) (σ := σ) (ps := ps) hx
    obtain ⟨r', e1, e2⟩ := hres μ (ps.map (pv σ)).toList z.cells q1 q2 (by rw [g.zc]; exact LR.refl_zok g.zk μ)
    refine ⟨.agg r', ?_, ?_⟩
    · have hpl : (fs.mapM (fun f => (do pure (f.offset, ← sizeOf f.type) : Sem (Nat × Nat)))).run P w = .ok (fs.map fun f => (f.offset, ((P.info? f.type).map (·.size)).getD 0)) w :=
        run_mapM_array P w _ _ fs (fun f hf => by
          obtain ⟨inf, hi⟩ := Option.isSome_iff_exists.1 (hall f hf)
          simp [sizeOf, typeInfo, hi])
      simp only [Instr.build, Sem.run_bind, g.runZero, Result.andThen_ok, run_underlying hu, hpl, e1, Sem.run_pure]
    · have := LR.array (μ := μ) (a := r.toArray) (b := r') (by simpa using e2)
      exact .agg _ _ this.1 this.2
  · exact hk.elim

/-- A literal of a slice. -/
def abuildSlice (P : Program) (h : AH) (t : TypeId) (len : Nat) (parts : List (Nat × Value)) (K : Value → AH → Prop) : Prop :=
  match si P t with
  | some (_, i) => 0 < i.size ∧ len * i.size ≤ 2 ^ 24 ∧
      afill (fun f => some (f * i.size, i.size)) parts (zerosL (len * i.size) i.zero) fun cs => K (.slice (some ⟨h.n, 0, none⟩) len i.size) (h.alloc (.cells cs .solo h.n))
  | none => False

theorem abuildSlice_sound {t : TypeId} {len : Nat} {ps : Array (Nat × Operand)} {ρ : Operand → Value} {K : Value → AH → Prop} (hk : abuildSlice P h t len (ps.toList.map (pv ρ)) K) :
    ∃ v h', AIns P (fun σ => Instr.buildSlice t len (ps.map (pv σ))) (ps.toList.map (·.2)) ρ h v h' ∧ K v h' := by
  unfold abuildSlice at hk
  split at hk
  · rename_i e i hs
    obtain ⟨hpos, hbig, hk⟩ := hk
    obtain ⟨hu, ht⟩ := si_facts hs
    obtain ⟨d, j, z, g⟩ := ti_facts ht
    obtain ⟨r, hK, hlen, hone, hres⟩ := afill_sound (pl' := fun f => some (f * i.size, i.size)) (fun f p hp => hp) hk
    refine ⟨_, _, ?_, hK⟩
    intro FB w0 μ σ w s hx
    obtain ⟨q1, q2⟩ := parts_of (μ := μ) (ρ := ρ) (σ := σ) (ps := ps) hx
    have hzl : i.zero.length = i.size := g.zn
    have key : ∀ zz : Array Value, (len * i.size = 0 ∨ zz.toList = i.zero) → LR μ (zerosL (len * i.size) i.zero) ((Array.range (len * i.size)).map (zz[· % zz.size]!)).toList := by
      intro zz hz
      refine ⟨by simp [zerosL], fun j a b => ?_⟩
      rcases hz with h0 | hz
      · simp [zerosL, h0] at a
      · exact zeros_LR g.zk (len * i.size) zz hz (by omega) (len * i.size) (Nat.le_refl _) (by omega) j a (by simpa using b)
    have hrun : ∀ zz : Array Value, (len * i.size = 0 ∨ zz.toList = i.zero) → ∃ r', Instr.fill (fun f => some (f * i.size, i.size)) ((Array.range (len * i.size)).map (zz[· % zz.size]!)) (ps.map (pv σ)).toList = some r' ∧ LR μ r r'.toList :=
      fun zz hz => hres μ _ _ q1 q2 (key zz hz)
    by_cases h0 : len * i.size = 0
    · obtain ⟨r', e1, e2⟩ := hrun #[] (.inl h0)
      refine ⟨_, .slice (some ⟨w.heap.size, 0, none⟩) len len, _, ?_, new_post s e e2 (hone (zerosL_one g.zk _ (by omega))), ?_⟩
      · simp only [Instr.buildSlice, Sem.run_bind, run_underlying hu, Result.andThen_ok, g.runSize]
        rw [if_neg (by omega)]
        simp only [h0, if_true] at e1 ⊢
        simp only [Sem.run_bind, Sem.run_pure, Result.andThen_ok]
        simp only [Array.size_empty] at e1
        simp only [Array.size_empty, e1]
        simp [run_newRow]
      · have : len = 0 := by
          rcases Nat.mul_eq_zero.1 h0 with a | a
          · exact a
          · omega
        subst this
        have hr : r'.size = 0 := by have := e2.1; simp at this; rw [← this, hlen]; simp [zerosL]
        exact .sl h.n 0 0 i.size 0 _ (upd_same _ _) (Nat.le_refl _) (by simp)
    · obtain ⟨r', e1, e2⟩ := hrun z.cells (.inr g.zc)
      refine ⟨_, .slice (some ⟨w.heap.size, 0, none⟩) len len, _, ?_, new_post s e e2 (hone (zerosL_one g.zk _ (by omega))), ?_⟩
      · simp only [Instr.buildSlice, Sem.run_bind, run_underlying hu, Result.andThen_ok, g.runSize]
        rw [if_neg (by omega), if_neg h0]
        simp only [Sem.run_bind, Sem.run_pure, Result.andThen_ok, g.runZero, e1, run_newRow]
      · have hr : r'.size = len * i.size := by have := e2.1; simp at this; rw [← this, hlen]; simp [zerosL]
        have := VR.sl (μ := upd μ h.n ⟨w.heap.size, 0, r'.size⟩) h.n 0 len i.size len _ (upd_same _ _) (Nat.le_refl _) (by simp only [hr]; omega)
        exact this
  · exact hk.elim

/-- make of a slice. -/
def amake (P : Program) (h : AH) (t : TypeId) (len cap : Value) (K : Value → AH → Prop) : Prop :=
  match si P t, len, cap with
  | some (_, i), .int .i64 n, .int .i64 c =>
    0 < i.size ∧ 0 ≤ n ∧ n ≤ c ∧ c < 274877906944 ∧ i.bytes ≤ 256 ∧ K (.slice (some ⟨h.n, 0, none⟩) n.toNat i.size) (h.alloc (.cells (zerosL (n.toNat * i.size) i.zero) .solo h.n))
  | _, _, _ => False

theorem wrap_id {n : Int} (h0 : 0 ≤ n) (h1 : n < 9223372036854775808) : IntKind.i64.wrap n = n := by
  simp [IntKind.wrap, IntKind.bits, IntKind.signed]; omega

theorem amake_sound {t : TypeId} {x y : Operand} {ρ : Operand → Value} {K : Value → AH → Prop} (hk : amake P h t (ρ x) (ρ y) K) :
    ∃ v h', AIns P (fun σ => Instr.makeSlice t (σ x) (σ y)) [x, y] ρ h v h' ∧ K v h' := by
  unfold amake at hk
  split at hk
  · rename_i e i n c hs hp hq
    obtain ⟨hpos, h0, h1, h2, h3, hk⟩ := hk
    obtain ⟨hu, ht⟩ := si_facts hs
    obtain ⟨d, j, z, g⟩ := ti_facts ht
    refine ⟨_, _, ?_, hk⟩
    intro FB w0 μ σ w s hx
    have hvx := hx x (by simp); rw [hp] at hvx
    have hvy := hx y (by simp); rw [hq] at hvy
    have hbig : (j.bytes : Int) * c ≤ 2 ^ 48 := by
      have : j.bytes ≤ 256 := by rw [g.bytes]; exact h3
      have h4 : (j.bytes : Int) ≤ 256 := by omega
      calc (j.bytes : Int) * c ≤ 256 * c := Int.mul_le_mul_of_nonneg_right h4 (by omega)
        _ ≤ 2 ^ 48 := by omega
    have key : ∀ zz : Array Value, (c.toNat * i.size = 0 ∨ zz.toList = i.zero) →
        Post P FB w0 μ h (upd μ h.n ⟨w.heap.size, 0, ((Array.range (c.toNat * i.size)).map (zz[· % zz.size]!)).size⟩) (h.alloc (.cells (zerosL (n.toNat * i.size) i.zero) .solo h.n)) (w.alloc (.cells ((Array.range (c.toNat * i.size)).map (zz[· % zz.size]!)) e)) := by
      intro zz hz
      have hle : n.toNat * i.size ≤ c.toNat * i.size := Nat.mul_le_mul_right _ (by omega)
      refine s.new (by simp [zerosL]; exact hle) (fun j a b => ?_) (fun j _ hc => by simp at hc) (zerosL_one g.zk _ (by have := g.zn; omega))
      rcases hz with hz | hz
      · simp [zerosL] at a; omega
      · exact zeros_LR g.zk (n.toNat * i.size) zz hz (by have := g.zn; omega) (c.toNat * i.size) hle (by have := g.zn; omega) j a b
    have hv : ∀ zz : Array Value, VR (upd μ h.n ⟨w.heap.size, 0, ((Array.range (c.toNat * i.size)).map (zz[· % zz.size]!)).size⟩) (.slice (some ⟨h.n, 0, none⟩) n.toNat i.size) (.slice (some ⟨w.heap.size, 0, none⟩) n.toNat c.toNat) := by
      intro zz
      have := VR.sl (μ := upd μ h.n ⟨w.heap.size, 0, ((Array.range (c.toNat * i.size)).map (zz[· % zz.size]!)).size⟩) h.n 0 n.toNat i.size c.toNat _ (upd_same _ _) (by omega) (by simp)
      exact this
    have hn : IntKind.i64.wrap n = n := wrap_id h0 (by omega)
    have hc : IntKind.i64.wrap c = c := wrap_id (by omega) (by omega)
    by_cases hz : c.toNat * i.size = 0
    · refine ⟨_, .slice (some ⟨w.heap.size, 0, none⟩) n.toNat c.toNat, _, ?_, key #[] (.inl hz), hv #[]⟩
      simp only [Instr.makeSlice, Sem.run_bind, run_underlying hu, Result.andThen_ok, hvx.int, hvy.int, asInt, asIntOf, Sem.run_pure, g.runInfo, hn, hc]
      rw [if_neg (by simp; omega)]
      simp only [Sem.run_bind, run_askRoom, Result.andThen_ok, g.runSize, hz, if_true, Sem.run_pure, run_newRow, h0]
    · refine ⟨_, .slice (some ⟨w.heap.size, 0, none⟩) n.toNat c.toNat, _, ?_, key z.cells (.inr g.zc), hv z.cells⟩
      simp only [Instr.makeSlice, Sem.run_bind, run_underlying hu, Result.andThen_ok, hvx.int, hvy.int, asInt, asIntOf, Sem.run_pure, g.runInfo, hn, hc]
      rw [if_neg (by simp; omega)]
      simp only [Sem.run_bind, run_askRoom, Result.andThen_ok, g.runSize, hz, if_false, Sem.run_pure, g.runZero, run_newRow]
  · exact hk.elim

end Go.Sim
/- Appends. Conditions: those that each theorem names. -/
set_option linter.unusedVariables false
set_option linter.unusedSimpArgs false
namespace Go.Sim
variable {P : Program} {FB : Nat → Prop} {w0 : World} {μ : Nat → Option Loc} {h : AH} {w : World}

/-- What is appended: how many elements, and their cells. -/
def asrc (h : AH) (size : Nat) (x : Value) : Option (Nat × List Value) :=
  match x with
  | .slice Option.none 0 _ => some (0, [])
  | .slice (some ⟨id, off, Option.none⟩) n _ => (rd h id off (n * size)).map fun l => (n, l)
  | .string s => if size = 1 then some (s.size, bytesV s) else none
  | _ => none

/-- The heap behind an append to the end of an object. -/
def apd (h : AH) (id off n k : Nat) (new : List Value) : Option AH :=
  match h.ob id with
  | .cells cs .ro _ => none
  | .cells cs .old _ => none
  | .cells cs _ ln => if off + n * k = cs.length then some ((h.set id (.cells cs .old ln)).alloc (.cells (cs.drop off ++ new) .tip ln))
      else if off + n * k < cs.length then some ((h.kill ln).alloc (.cells ((cs.drop off).take (n * k) ++ new) .tip ln)) else none
  | _ => none

def aapp (P : Program) (h : AH) (t u : TypeId) (s x : Value) (K : Value → AH → Prop) : Prop :=
  match si P t with
  | some (_, i) =>
    0 < i.size ∧ i.bytes ≤ 256 ∧ (∀ k, P.underlying u ≠ some (.int k)) ∧ (P.underlying u).isSome = true ∧
    (match asrc h i.size x with
     | some (m, new) =>
       (match s with
        | .slice Option.none 0 c => m < 274877906944 ∧ ((0 < m ∧ K (.slice (some ⟨h.n, 0, none⟩) m i.size) (h.alloc (.cells new .solo h.n))) ∨ (m = 0 ∧ K (.slice Option.none 0 c) h))
        | .slice (some ⟨id, off, Option.none⟩) n k => k = i.size ∧ n + m < 274877906944 ∧
          (match apd h id off n k new with
           | some h' => K (.slice (some ⟨h.n, 0, none⟩) (n + m) k) h'
           | none => False)
        | _ => False)
     | none => False)
  | none => False

/-- Zeros are appended to nothing. -/
def azeros (P : Program) (h : AH) (t u : TypeId) (s : Value) (n : Int) (K : Value → AH → Prop) : Prop :=
  match si P t, P.underlying u, s with
  | some (_, i), some (.int _), .slice Option.none 0 _ => 0 < i.size ∧ i.bytes ≤ 256 ∧ 0 < n ∧ n < 274877906944 ∧ K (.slice (some ⟨h.n, 0, none⟩) n.toNat i.size) (h.alloc (.cells (zerosL (n.toNat * i.size) i.zero) .solo h.n))
  | _, _, _ => False
def aappend (P : Program) (h : AH) (t u : TypeId) (s x : Value) (K : Value → AH → Prop) : Prop :=
  match x with
  | .int .i64 n => azeros P h t u s n K
  | _ => aapp P h t u s x K
theorem aapp_to {t u : TypeId} {s x : Value} {K : Value → AH → Prop} (hk : aapp P h t u s x K) : aappend P h t u s x K := by
  unfold aappend
  split
  · unfold aapp at hk
    split at hk
    · obtain ⟨_, _, _, _, hk⟩ := hk
      simp only [asrc] at hk
    · exact hk.elim
  · exact hk

theorem asrc_run (s : Sim P FB w0 μ h w) {size m : Nat} {x c : Value} {new : List Value} (e : asrc h size x = some (m, new)) (hv : VR μ x c) :
    ∃ cnew, (Builtin.lenOf c).run P w = .ok m w ∧ (Builtin.firstCells size m c).run P w = .ok cnew w ∧ LR μ new cnew.toList ∧ new.length = m * size := by
  unfold asrc at e
  split at e
  · simp at e
    obtain ⟨rfl, rfl⟩ := e
    cases hv with
    | plain _ hq => simp [isPlain] at hq
    | sl0 A' _ =>
      refine ⟨#[], rfl, ?_, LR.nil μ, by simp⟩
      cases A' <;> simp [Builtin.firstCells, loadCells, loadCellsFrom]
  · rename_i id off n k
    obtain ⟨l, hl, he⟩ := Option.map_eq_some_iff.1 e
    simp at he
    obtain ⟨rfl, rfl⟩ := he
    have hll : l.length = n * size := by
      unfold rd at hl
      split at hl
      · split at hl
        · obtain rfl := Option.some.inj hl
          simp; omega
        · cases hl
      · cases hl
    cases hv with
    | plain _ hq => simp [isPlain] at hq
    | slz _ _ _ lc hm ho A' =>
      have : l = [] := List.eq_nil_of_length_eq_zero (by simpa using hll)
      subst this
      refine ⟨#[], rfl, ?_, LR.nil μ, by simp⟩
      cases A' <;> simp [Builtin.firstCells, loadCells, loadCellsFrom]
    | sl _ _ _ _ cap lc hm hn hr =>
      obtain ⟨cvs, e1, e2, e3⟩ := s.read hm hl
      exact ⟨cvs.toArray, rfl, run_loadCells_list P w lc.b (lc.o + off) _ cvs e2 e3, by simpa using e1, hll⟩
  · rename_i str
    split at e
    · rename_i hs; subst hs
      simp at e
      obtain ⟨rfl, rfl⟩ := e
      rw [hv.string]
      refine ⟨(bytesV str).toArray, rfl, ?_, by simpa using LR.refl_zok (bytesV_plain str) μ, by simp [bytesV_length]⟩
      simp only [Builtin.firstCells, Sem.run_pure]
      congr 1
      apply Array.toList_inj.1
      have : str.extract 0 str.size = str := by exact ByteArray.extract_zero_size
      rw [this]
      simp [bytesV]
    · cases e
  · cases e

theorem asrc_one (s : Sim P FB w0 μ h w) {size m : Nat} {x : Value} {new : List Value} (e : asrc h size x = some (m, new)) : ∀ v ∈ new, one v = true := by
  unfold asrc at e
  split at e
  · simp at e; obtain ⟨rfl, rfl⟩ := e; simp
  · obtain ⟨l, hl, he⟩ := Option.map_eq_some_iff.1 e
    simp at he
    obtain ⟨rfl, rfl⟩ := he
    unfold rd at hl
    split at hl
    · rename_i cs st ln ho
      split at hl
      · obtain rfl := Option.some.inj hl
        exact fun v hv => s.onec _ _ _ _ ho v (List.mem_of_mem_drop (List.mem_of_mem_take hv))
      · cases hl
    · cases hl
  · split at e
    · simp at e; obtain ⟨rfl, rfl⟩ := e
      exact fun v hv => zok_one (bytesV_plain _ v hv)
    · cases e
  · cases e

/-- How much room the model asks for is within bounds. -/
theorem nextcap_le (need old : Nat) (hlt : old < need) : Builtin.nextslicecap need old ≤ 2 * need + 768 := by
  have grow : ∀ (r c : Nat), c < need → Builtin.growBy need r c ≤ 2 * need + 768 := by
    intro r
    induction r with
    | zero => intro c hc; simp [Builtin.growBy]; omega
    | succ r ih =>
      intro c hc
      unfold Builtin.growBy
      rw [if_neg (by omega)]
      by_cases hn : c + (c + 768) / 4 < need
      · exact ih _ hn
      · cases r with
        | zero => simp [Builtin.growBy]; omega
        | succ r => unfold Builtin.growBy; rw [if_pos (by omega)]; omega
  unfold Builtin.nextslicecap
  split
  · omega
  · split
    · omega
    · exact grow 4 old hlt

theorem LR.ofArrays {a b : List Value} {c : Array Value} (e : LR μ a c.toList) : a.length = c.size := by simpa using e.1

/-! the model's append, in place and into a new row -/
theorem run_append_in {t u ty e : TypeId} {du : TypeDesc} {i : TI} {d : TypeDesc} {j : TypeInfo} {z : Value} (hu : P.underlying t = some (.slice e)) (g : TIFacts P e i d j z)
    (hxu : P.underlying u = some du) (hni : ∀ k, du ≠ .int k) {cx : Value} {m : Nat} {cnew : Array Value} (hl : (Builtin.lenOf cx).run P w = .ok m w) (hf : (Builtin.firstCells i.size m cx).run P w = .ok cnew w)
    {base : Option Addr} {n cap : Nat} (hc : n + m ≤ cap) {w' : World}
    (hst : ∀ a, base = some a → (storeCells (a.add (n * i.size)) cnew.toList).run P w = .ok () w') (hno : base = none → w' = w) :
    (Builtin.append_ #[t, u] ty #[.slice base n cap, cx]).run P w = .ok (.slice base (n + m) cap) w' := by
  have hzer : (match du with | .int _ => true | _ => false) = false := by
    cases du <;> first | rfl | (rename_i k; exact absurd rfl (hni k))
  cases base with
  | none =>
    obtain rfl := hno rfl
    simp [Builtin.append_, run_underlying hu, run_underlying hxu, g.runSize, hl, hf, hc, hzer]
  | some a =>
    have := hst a rfl
    simp [Builtin.append_, run_underlying hu, run_underlying hxu, g.runSize, hl, hf, hc, hzer, this]

theorem zeroCells_size (z : Array Value) (n : Nat) : (Builtin.zeroCells z n).size = n * z.size := by simp [Builtin.zeroCells]

theorem run_append_new {t u ty e : TypeId} {du : TypeDesc} {i : TI} {d : TypeDesc} {j : TypeInfo} {z : Value} (hu : P.underlying t = some (.slice e)) (g : TIFacts P e i d j z)
    (hxu : P.underlying u = some du) (hni : ∀ k, du ≠ .int k) (hby : i.bytes ≤ 256) {cx : Value} {m : Nat} {cnew cold : Array Value} (hl : (Builtin.lenOf cx).run P w = .ok m w)
    (hf : (Builtin.firstCells i.size m cx).run P w.drew = .ok cnew w.drew) {base : Option Addr} {n cap : Nat} (hc : cap < n + m) (hbig : n + m < 274877906944)
    (ho : (Builtin.firstCells i.size n (.slice base n cap)).run P w.drew = .ok cold w.drew) :
    ∃ newCap, n + m ≤ newCap ∧ (Builtin.append_ #[t, u] ty #[.slice base n cap, cx]).run P w =
      .ok (.slice (some ⟨w.heap.size, 0, none⟩) (n + m) newCap) (w.drew.alloc (.cells (cold ++ cnew ++ Builtin.zeroCells z.cells (newCap - (n + m))) e)) := by
  have hzer : (match du with | .int _ => true | _ => false) = false := by
    cases du <;> first | rfl | (rename_i k; exact absurd rfl (hni k))
  have h1 : Builtin.nextslicecap (n + m) cap * j.bytes ≤ 2 ^ 48 := by
    have a := nextcap_le (n + m) cap hc
    have b : j.bytes ≤ 256 := by rw [g.bytes]; exact hby
    calc Builtin.nextslicecap (n + m) cap * j.bytes ≤ (2 * (n + m) + 768) * 256 := Nat.mul_le_mul a b
      _ ≤ 2 ^ 48 := by omega
  refine ⟨grownCap w (n + m) cap e, grownCap_ge w (n + m) cap e, ?_⟩
  have hq : (Question.appendCap (n + m) cap e).forced = false := rfl
  have hgc : (Question.appendCap (n + m) cap e).cut (w.tape w.drawn (.appendCap (n + m) cap e)) = grownCap w (n + m) cap e := rfl
  have hmx : ¬ ((IntKind.i64.max : Int) < ((n + m : Nat) : Int)) := by simp [IntKind.max, IntKind.bits, IntKind.signed]; omega
  simp only [Builtin.append_, List.getElem?_toArray, List.getElem?_cons_zero, List.getElem?_cons_succ, Sem.run_bind, run_underlying hu, Result.andThen_ok, g.runSize, run_underlying hxu, Sem.run_pure]
  simp only [hzer, Bool.false_eq_true, if_false, hl, Result.andThen_ok, Sem.run_bind]
  rw [if_neg (by omega)]
  simp only [Sem.run_bind, g.runInfo, Result.andThen_ok, Sem.run_pure, false_or]
  rw [if_neg (by intro hh; exact hmx hh.1)]
  simp only [Sem.run_bind, g.runInfo, Result.andThen_ok, Sem.run_pure]
  rw [if_neg (by omega)]
  simp only [Sem.run_bind, g.runInfo, Result.andThen_ok, Sem.run_pure, run_choose, hq, Bool.false_eq_true, if_false, hgc, run_askRoom, World.drew_eq, ho, hf, Bool.not_false, if_true, g.runZero, run_newRow]
  rfl

theorem LR.length {a b : List Value} (e : LR μ a b) : a.length = b.length := e.1

theorem rd_length {i off n : Nat} {vs : List Value} (e : rd h i off n = some vs) : vs.length = n := by
  unfold rd at e
  split at e
  · split at e
    · obtain rfl := Option.some.inj e
      simp; omega
    · cases e
  · cases e

/-- An append to an object: the heap behind it lies in the world behind the model's append. -/
theorem apd_post (s : Sim P FB w0 μ h w) {id off n k m : Nat} {new : List Value} {h' : AH} (e : apd h id off n k new = some h') (hnew : new.length = m * k) (hone : ∀ v ∈ new, one v = true)
    {l : Loc} (hm : μ id = some l) {cnew : Array Value} (hv : LR μ new cnew.toList) :
    -- in place
    (∀ cap, off + cap * k ≤ l.room → n + m ≤ cap →
      Post P FB w0 μ h (upd μ h.n ⟨l.b, l.o + off, l.room - off⟩) h' (w.setCells l.b (l.o + off + n * k) cnew.toList) ∧
      (∀ j, j < cnew.toList.length → (w.cell? ⟨l.b, l.o + off + n * k + j, none⟩).isSome = true) ∧ (∀ j, j < cnew.toList.length → w.frozen? ⟨l.b, l.o + off + n * k + j, none⟩ = false)) ∧
    -- into a new row
    (∀ (cold : Array Value) (arr : Array Value) (ty : TypeId), cold.size = n * k → (∀ j (a : j < cold.size), w.cell? ⟨l.b, l.o + off + j, none⟩ = some cold[j]) → (∃ rest, arr = cold ++ cnew ++ rest) →
      Post P FB w0 μ h (upd μ h.n ⟨w.heap.size, 0, arr.size⟩) h' (w.alloc (.cells arr ty))) ∧
    -- nothing to write, and no room
    (n + m = 0 → off ≤ l.room → Post P FB w0 μ h (upd μ h.n ⟨l.b, l.o + off, l.room - off⟩) h' w) ∧ off + n * k ≤ l.room := by
  unfold apd at e
  split at e
  · cases e
  · cases e
  · rename_i cs st ln hro hold ho
    have hst : st ≠ .ro := fun hh => hro hh
    have hst2 : st ≠ .old := fun hh => hold hh
    obtain ⟨hfb, hblk, hroom⟩ := s.blk id l cs st ln hm ho hst
    have howni : (h.ob id).own = some ln := by rw [ho]; exact AOb.own_cells hst
    have hlin := s.lin id ln howni
    have hltn := s.ltn howni
    -- what is the same in both ways
    have common : ∀ (h1 : AH), Less h h1 → off + n * k ≤ cs.length → (∀ j lj cj sj nj, μ j = some lj → h1.ob j = .cells cj sj nj → sj ≠ .ro → lj.b = l.b → nj = ln ∧ lj.o + cj.length ≤ l.o + off + n * k) →
        ((∀ j c, h1.ob j ≠ .cells c .tip ln) ∧ (∀ j c, h1.ob j ≠ .cells c .solo ln)) → (∀ i, i < h.n → μ i = none → h1.ob i = h.ob i) → ∀ cs', cs' = (cs.drop off).take (n * k) ++ new →
        (∀ cap, off + cap * k ≤ l.room → n + m ≤ cap →
          Post P FB w0 μ h (upd μ h.n ⟨l.b, l.o + off, l.room - off⟩) (h1.alloc (.cells cs' .tip ln)) (w.setCells l.b (l.o + off + n * k) cnew.toList) ∧
          (∀ j, j < cnew.toList.length → (w.cell? ⟨l.b, l.o + off + n * k + j, none⟩).isSome = true) ∧ (∀ j, j < cnew.toList.length → w.frozen? ⟨l.b, l.o + off + n * k + j, none⟩ = false)) ∧
        (∀ (cold : Array Value) (arr : Array Value) (ty : TypeId), cold.size = n * k → (∀ j (a : j < cold.size), w.cell? ⟨l.b, l.o + off + j, none⟩ = some cold[j]) → (∃ rest, arr = cold ++ cnew ++ rest) →
          Post P FB w0 μ h (upd μ h.n ⟨w.heap.size, 0, arr.size⟩) (h1.alloc (.cells cs' .tip ln)) (w.alloc (.cells arr ty))) ∧
        (n + m = 0 → off ≤ l.room → Post P FB w0 μ h (upd μ h.n ⟨l.b, l.o + off, l.room - off⟩) (h1.alloc (.cells cs' .tip ln)) w) := by
      intro h1 hless hend hin hno hunt cs' hcs'
      have s1 := s.less hless
      have hn1 : h1.n = h.n := hless.n
      have c4 : ∀ j, (h1.ob j).own = some ln → μ j ≠ none := fun j hj => s.linc id j ln howni (hless.own hj) (by rw [hm]; simp)
      have c3' : ln ≤ h1.n := by omega
      have hlen' : cs'.length = n * k + m * k := by rw [hcs']; simp [hnew]; omega
      have c6 : ∀ v ∈ cs', one v = true := fun v hv' => by
        subst hcs'
        rcases List.mem_append.1 hv' with a | a
        · exact s.onec _ _ _ _ ho v (List.mem_of_mem_drop (List.mem_of_mem_take a))
        · exact hone v a
      have hcn : cnew.toList.length = m * k := by rw [← hv.1]; exact hnew
      have lift : ∀ {μ' : Nat → Option Loc} {w' : World}, Post P FB w0 μ h1 μ' (h1.alloc (.cells cs' .tip ln)) w' → Post P FB w0 μ h μ' (h1.alloc (.cells cs' .tip ln)) w' := fun p =>
        ⟨p.sim, p.ext, ⟨by rw [← hn1]; exact p.unt.1, fun i hi hmi => by
          obtain ⟨a, b⟩ := p.unt.2 i (by omega) hmi
          exact ⟨a, by rw [b]; exact hunt i hi hmi⟩⟩⟩
      have hmul : ∀ cap, n + m ≤ cap → n * k + m * k ≤ cap * k := fun cap hc => by rw [← Nat.add_mul]; exact Nat.mul_le_mul_right _ hc
      have samep : ∀ p : Nat, p = l.o + off + n * k → off + n * k + m * k ≤ l.room → Post P FB w0 μ h1 (upd μ h1.n ⟨l.b, l.o + off, l.room - off⟩) (h1.alloc (.cells cs' .tip ln)) (w.setCells l.b p cnew.toList) := by
        intro p hp hrm
        subst hp
        refine s1.addSame hfb hblk (by omega) (by omega) (by omega) (by omega) (fun j lj cj sj nj a b c d => hin j lj cj sj nj a b c d) ?_ ?_ hno c3' c4 c6
        · intro j hj hlo
          obtain ⟨cv, a, b⟩ := s.cell id l cs st ln hm ho (off + j) (by omega)
          refine ⟨cv, by rw [show l.o + off + j = l.o + (off + j) by omega]; exact a, ?_⟩
          have : cs'[j] = cs[off + j]'(by omega) := by
            subst hcs'
            rw [List.getElem_append_left (by simp; omega)]
            simp
          rw [this]; exact b
        · have : cs'.drop (l.o + off + n * k - (l.o + off)) = new := by
            subst hcs'
            rw [show l.o + off + n * k - (l.o + off) = n * k by omega, List.drop_append_of_le_length (by simp; omega)]
            simp
          rw [this]; exact hv
      refine ⟨fun cap hr hc => ?_, fun cold arr ty hsz hcell hrest => ?_, fun hz hr => ?_⟩
      · have hmm := hmul cap hc
        have hp := samep _ rfl (by omega)
        rw [hn1] at hp
        refine ⟨lift hp, fun j hj => ?_, fun j hj => ?_⟩
        · obtain ⟨v, e⟩ := hblk.cell (j := off + n * k + j) (by omega)
          rw [show l.o + off + n * k + j = l.o + (off + n * k + j) by omega, e]; rfl
        · rw [show l.o + off + n * k + j = l.o + (off + n * k + j) by omega]; exact hblk.frozen (by omega)
      · obtain ⟨rest, rfl⟩ := hrest
        have hcs2 : cnew.size = m * k := by simpa using hcn
        have hp := s1.add (cs := cs') (st := .tip) (ln := ln) (arr := cold ++ cnew ++ rest) (e := ty) (fz := (0, 0)) (by simp; omega) (fun j a b => by
          by_cases hj : j < n * k
          · have e1 : (cold ++ cnew ++ rest)[j] = cold[j]'(by omega) := by
              rw [Array.getElem_append_left (by simp; omega), Array.getElem_append_left (by omega)]
            have e2 : cs'[j] = cs[off + j]'(by omega) := by
              subst hcs'
              rw [List.getElem_append_left (by simp; omega)]
              simp
            rw [e1, e2]
            obtain ⟨cv, x, y⟩ := s.cell id l cs st ln hm ho (off + j) (by omega)
            have := hcell j (by omega)
            rw [show l.o + off + j = l.o + (off + j) by omega, x] at this
            obtain rfl := Option.some.inj this
            exact y
          · have e1 : (cold ++ cnew ++ rest)[j] = cnew[j - n * k]'(by omega) := by
              rw [Array.getElem_append_left (by simp; omega), Array.getElem_append_right (by omega)]
              simp [hsz]
            have e2 : cs'[j] = new[j - n * k]'(by omega) := by
              subst hcs'
              rw [List.getElem_append_right (by simp; omega)]
              simp [show min (n * k) (cs.length - off) = n * k by omega]
            rw [e1, e2]
            exact hv.2 (j - n * k) (by omega) (by simp; omega)) (fun j _ hc => by simp at hc) (by simp) (by simp) (fun _ => hno) c3' c4 (.inl rfl) c6
        rw [hn1] at hp
        exact lift hp
      · have h0 : n * k = 0 := by have : n = 0 := by omega
                                  subst this; simp
        have h1' : m * k = 0 := by have : m = 0 := by omega
                                   subst this; simp
        have hp := samep _ rfl (by omega)
        rw [hn1] at hp
        have : cnew.toList = [] := List.eq_nil_of_length_eq_zero (by omega)
        rw [this] at hp
        exact lift hp
    split at e
    · rename_i hend
      obtain rfl := Option.some.inj e
      have hob : ∀ j, j ≠ id → (h.set id (.cells cs .old ln)).ob j = h.ob j := fun j hj => by simp [AH.set, hj]
      have hobi : (h.set id (.cells cs .old ln)).ob id = .cells cs .old ln := by simp [AH.set]
      -- who shares the block ends no later
      have hends : ∀ j lj cj sj nj, μ j = some lj → h.ob j = .cells cj sj nj → sj ≠ .ro → lj.b = l.b → nj = ln ∧ lj.o + cj.length ≤ l.o + cs.length := by
        intro j lj cj sj nj hj oj hsj hb
        have hnl := s.sep j id lj l nj ln hj hm (by rw [oj]; exact AOb.own_cells hsj) howni hb
        subst hnl
        refine ⟨rfl, ?_⟩
        cases st with
        | ro => exact absurd rfl hst
        | old => exact absurd rfl hst2
        | tip => exact s.tip id j l lj cs cj sj nj nj hm hj ho oj hsj hb.symm
        | solo =>
          obtain ⟨e1, hu⟩ := s.solo id cs nj ho
          have := hu j (by rw [oj, ← e1]; exact AOb.own_cells hsj)
          subst this
          rw [hm] at hj; rw [ho] at oj
          obtain rfl := Option.some.inj hj
          simp only [AOb.cells.injEq] at oj
          obtain ⟨rfl, _, _⟩ := oj
          omega
      have hnotip : (∀ j c, (h.set id (.cells cs .old ln)).ob j ≠ .cells c .tip ln) ∧ (∀ j c, (h.set id (.cells cs .old ln)).ob j ≠ .cells c .solo ln) := by
        constructor
        · intro j c hj
          by_cases hji : j = id
          · subst hji; rw [hobi] at hj; cases hj
          · rw [hob j hji] at hj
            cases st with
            | ro => exact absurd rfl hst
            | old => exact absurd rfl hst2
            | tip => exact hji (s.tipu j id c cs ln hj ho)
            | solo =>
              obtain ⟨e1, hu⟩ := s.solo id cs ln ho
              exact hji (hu j (by rw [hj, ← e1]; rfl))
        · intro j c hj
          by_cases hji : j = id
          · subst hji; rw [hobi] at hj; cases hj
          · rw [hob j hji] at hj
            obtain ⟨e1, hu⟩ := s.solo j c ln hj
            exact hji (hu id (by rw [howni, e1])).symm
      have hc := common _ (Less.demote ho hst) (by omega) (fun j lj cj sj nj a b c d => by
        by_cases hji : j = id
        · subst hji
          rw [hobi] at b
          rw [hm] at a
          obtain rfl := Option.some.inj a
          simp only [AOb.cells.injEq] at b
          obtain ⟨rfl, _, rfl⟩ := b
          exact ⟨rfl, by omega⟩
        · rw [hob j hji] at b
          obtain ⟨x, y⟩ := hends j lj cj sj nj a b c d
          exact ⟨x, by omega⟩) hnotip (fun i hi hmi => hob i (fun hh => by subst hh; rw [hm] at hmi; cases hmi)) (cs.drop off ++ new) (by rw [List.take_of_length_le (by simp; omega)])
      exact ⟨hc.1, hc.2.1, hc.2.2, by omega⟩
    · split at e
      · rename_i hlt
        obtain rfl := Option.some.inj e
        have hkill : ∀ j, ((h.kill ln).ob j).own ≠ some ln := fun j hj => by
          by_cases e2 : (h.ob j).own = some ln
          · have : (h.kill ln).ob j = .none := by simp [AH.kill, e2]
            rw [this] at hj; cases hj
          · simp [AH.kill, e2] at hj
        have hc := common _ (Less.kill ln) (by omega) (fun j lj cj sj nj a b c d => by
          exfalso
          have ow : ((h.kill ln).ob j).own = some nj := by rw [b]; exact AOb.own_cells c
          have := s.sep j id lj l nj ln a hm ((Less.kill ln).own ow) howni d
          subst this
          exact hkill j ow) ⟨fun j c hj => hkill j (by rw [hj]; rfl), fun j c hj => hkill j (by rw [hj]; rfl)⟩ (fun i hi hmi => by
            have : (h.ob i).own ≠ some ln := fun e2 => absurd hmi (s.linc id i ln howni e2 (by rw [hm]; simp))
            simp [AH.kill, this]) _ rfl
        exact ⟨hc.1, hc.2.1, hc.2.2, by omega⟩
      · cases e
  · cases e

end Go.Sim
/- Appends, maps and calls as operations. Conditions: those that each theorem names. -/
set_option linter.unusedVariables false
set_option linter.unusedSimpArgs false
namespace Go.Sim
variable {P : Program} {FB : Nat → Prop} {w0 : World} {μ : Nat → Option Loc} {h : AH} {w : World}

theorem apd_rd {id off n k : Nat} {new : List Value} {h' : AH} (e : apd h id off n k new = some h') : ∃ vs, rd h id off (n * k) = some vs := by
  unfold apd at e
  split at e
  · cases e
  · cases e
  · rename_i cs st ln hro hold ho
    have : off + n * k ≤ cs.length := by
      split at e
      · omega
      · split at e
        · omega
        · cases e
    exact ⟨_, by unfold rd; rw [ho]; exact if_pos this⟩
  · cases e

theorem aapp_sound {t u ty : TypeId} {x y : Operand} {ρ : Operand → Value} {K : Value → AH → Prop} (hk : aapp P h t u (ρ x) (ρ y) K) :
    ∃ v h', AIns P (fun σ => Builtin.append_ #[t, u] ty #[σ x, σ y]) [x, y] ρ h v h' ∧ K v h' := by
  unfold aapp at hk
  split at hk
  · rename_i e i hs
    obtain ⟨hpos, hby, hnk, hsu, hk⟩ := hk
    obtain ⟨hu, ht⟩ := si_facts hs
    obtain ⟨d, j, z, g⟩ := ti_facts ht
    obtain ⟨du, hxu⟩ := Option.isSome_iff_exists.1 hsu
    have hni : ∀ k, du ≠ .int k := fun k hh => hnk k (by rw [hxu, hh])
    split at hk
    · rename_i m new hsrc
      split at hk
      · -- onto nil
        rename_i k0 hp
        obtain ⟨hb, ⟨hm0, hk⟩ | ⟨hm0, hk⟩⟩ := hk
        rotate_left
        · subst hm0
          refine ⟨_, _, ?_, hk⟩
          intro FB w0 μ σ w s hx
          have hvx := hx x (by simp); rw [hp] at hvx
          have hvy := hx y (by simp)
          obtain ⟨cnew, r1, r2, r3, r4⟩ := asrc_run s hsrc hvy
          obtain ⟨A', hcx⟩ : ∃ A', σ x = .slice A' 0 0 := by
            generalize hcc : σ x = cc at hvx
            cases hvx with
            | plain _ hq => simp [isPlain] at hq
            | sl0 A' _ => exact ⟨A', rfl⟩
          have hc0 : cnew.toList = [] := by
            have a := r3.1
            have b : new = [] := List.eq_nil_of_length_eq_zero (by omega)
            subst b
            exact List.eq_nil_of_length_eq_zero (by simpa using a.symm)
          refine ⟨_, .slice A' 0 0, w, ?_, s.post, .sl0 A' _⟩
          simp only [hcx]; exact run_append_in (ty := ty) hu g hxu hni r1 r2 (base := A') (n := 0) (cap := 0) (by omega) (fun a ha => by rw [hc0]; rfl) (fun _ => rfl)
        refine ⟨_, _, ?_, hk⟩
        intro FB w0 μ σ w s hx
        have hvx := hx x (by simp); rw [hp] at hvx
        have hvy := hx y (by simp)
        obtain ⟨cnew, r1, r2, r3, r4⟩ := asrc_run s hsrc hvy
        obtain ⟨cnew', r1', r2', r3', _⟩ := asrc_run s.drew hsrc hvy
        have hcx : ∃ A', σ x = .slice A' 0 0 := by
          generalize hcc : σ x = cc at hvx
          cases hvx with
          | plain _ hq => simp [isPlain] at hq
          | sl0 A' _ => exact ⟨A', rfl⟩
        obtain ⟨A', hcx⟩ := hcx
        have ho : (Builtin.firstCells i.size 0 (.slice A' 0 0)).run P w.drew = .ok #[] w.drew := by
          cases A' <;> simp [Builtin.firstCells, loadCells, loadCellsFrom]
        obtain ⟨newCap, hc1, hrun⟩ := run_append_new (w := w) (ty := ty) hu g hxu hni hby r1 r2' (base := A') (n := 0) (cap := 0) (by omega) (by omega) ho
        have hlen : new.length = cnew'.size := by have := r3'.1; simpa using this
        have hsz : (#[] ++ cnew' ++ Builtin.zeroCells z.cells (newCap - (0 + m))).size = newCap * i.size := by
          have : z.cells.size = i.size := by rw [← Array.length_toList, g.zc]; exact g.zn
          simp [zeroCells_size, this, ← hlen, r4]
          rw [← Nat.add_mul]; congr 1; omega
        refine ⟨_, _, _, by simp only [hcx]; exact hrun, s.drew.new (cs := new) (arr := #[] ++ cnew' ++ Builtin.zeroCells z.cells (newCap - (0 + m))) (e := e) (fz := (0, 0)) (by simp; omega) (fun q a b => ?_) (fun q _ hc => by simp at hc) (asrc_one s hsrc), ?_⟩
        · have : (#[] ++ cnew' ++ Builtin.zeroCells z.cells (newCap - (0 + m)))[q] = cnew'[q]'(by omega) := by
            rw [Array.getElem_append_left (by simp; omega)]; simp
          rw [this]; exact r3'.2 q a (by simp; omega)
        · have := VR.sl (μ := upd μ h.n ⟨w.heap.size, 0, (#[] ++ cnew' ++ Builtin.zeroCells z.cells (newCap - (0 + m))).size⟩) h.n 0 m i.size newCap _ (upd_same _ _) (by omega) (by simp only [hsz]; omega)
          simpa using this
      · rename_i id off n k hp
        obtain ⟨rfl, hb, hk⟩ := hk
        split at hk
        · rename_i h' hap
          refine ⟨_, _, ?_, hk⟩
          intro FB w0 μ σ w s hx
          have hvx := hx x (by simp); rw [hp] at hvx
          have hvy := hx y (by simp)
          obtain ⟨cnew, r1, r2, r3, r4⟩ := asrc_run s hsrc hvy
          obtain ⟨cnew', r1', r2', r3', _⟩ := asrc_run s.drew hsrc hvy
          have hzs : z.cells.size = i.size := by rw [← Array.length_toList, g.zc]; exact g.zn
          generalize hcc : σ x = cc at hvx
          -- into a new row
          have grow : ∀ (l : Loc) (A : Option Addr) (cap : Nat) (cold : Array Value), μ id = some l → cap < n + m → (Builtin.firstCells i.size n (.slice A n cap)).run P w.drew = .ok cold w.drew → cold.size = n * i.size →
              (∀ q (a : q < cold.size), w.cell? ⟨l.b, l.o + off + q, none⟩ = some cold[q]) →
              ∃ μ' cv w', (Builtin.append_ #[t, u] ty #[.slice A n cap, σ y]).run P w = .ok cv w' ∧ Post P FB w0 μ h μ' h' w' ∧ VR μ' (.slice (some ⟨h.n, 0, none⟩) (n + m) i.size) cv := by
            intro l A cap cold hm hlt ho hcs hcell
            obtain ⟨newCap, hc1, hrun⟩ := run_append_new (w := w) (ty := ty) hu g hxu hni hby r1 r2' (base := A) (n := n) (cap := cap) hlt hb ho
            obtain ⟨_, h2, _, _⟩ := apd_post s.drew hap r4 (asrc_one s hsrc) hm r3'
            have hp2 := h2 cold (cold ++ cnew' ++ Builtin.zeroCells z.cells (newCap - (n + m))) e hcs hcell ⟨_, rfl⟩
            have hlen : new.length = cnew'.size := by have := r3'.1; simpa using this
            have hsz : (cold ++ cnew' ++ Builtin.zeroCells z.cells (newCap - (n + m))).size = newCap * i.size := by
              simp only [Array.size_append, zeroCells_size, hzs, hcs, ← hlen, r4]
              rw [← Nat.add_mul, ← Nat.add_mul]; congr 1; omega
            refine ⟨_, _, _, hrun, hp2, ?_⟩
            have := VR.sl (μ := upd μ h.n ⟨w.drew.heap.size, 0, (cold ++ cnew' ++ Builtin.zeroCells z.cells (newCap - (n + m))).size⟩) h.n 0 (n + m) i.size newCap _ (upd_same _ _) hc1 (by simp only [hsz]; omega)
            exact this
          cases hvx with
          | plain _ hq => simp [isPlain] at hq
          | slz _ _ _ l hm ho A' =>
            by_cases hm0 : m = 0
            · subst hm0
              obtain ⟨_, _, h3, _⟩ := apd_post s hap r4 (asrc_one s hsrc) hm r3
              have hp3 := h3 (by omega) ho
              have hc0 : cnew.toList = [] := by
                have a := r3.1
                have b : new = [] := List.eq_nil_of_length_eq_zero (by omega)
                subst b
                exact List.eq_nil_of_length_eq_zero (by simpa using a.symm)
              refine ⟨_, .slice A' 0 0, w, ?_, hp3, ?_⟩
              · simp only [hcc]; exact run_append_in (ty := ty) hu g hxu hni r1 r2 (base := A') (n := 0) (cap := 0) (by omega) (fun a ha => by rw [hc0]; rfl) (fun _ => rfl)
              · exact .slz _ _ _ _ (upd_same _ _) (Nat.zero_le _) A'
            · simp only [hcc]; refine grow l A' 0 #[] hm (by omega) ?_ (by simp) (fun q a => by simp at a)
              cases A' <;> simp [Builtin.firstCells, loadCells, loadCellsFrom]
          | sl _ _ _ _ cap l hm hn hr =>
            by_cases hfit : n + m ≤ cap
            · obtain ⟨h1, _, _, _⟩ := apd_post s hap r4 (asrc_one s hsrc) hm r3
              obtain ⟨hp1, q1, q2⟩ := h1 cap hr hfit
              have hstore : (storeCells ((⟨l.b, l.o + off, none⟩ : Addr).add (n * i.size)) cnew.toList).run P w = .ok () (w.setCells l.b (l.o + off + n * i.size) cnew.toList) := by
                rw [add_none]
                have := run_storeCells_cells (P := P) l.b (l.o + off + n * i.size) cnew.toList 0 w (fun a ha => by simpa using q1 a ha) (fun a ha => by simpa using q2 a ha) (by
                  intro v hv
                  obtain ⟨q, hq, rfl⟩ := List.getElem_of_mem hv
                  have hq' : q < new.length := by rw [r3.1]; exact hq
                  rw [one_eq, (r3.2 q hq' hq).one]
                  exact asrc_one s hsrc _ (List.getElem_mem hq'))
                simpa using this
              refine ⟨_, .slice (some ⟨l.b, l.o + off, none⟩) (n + m) cap, _, ?_, hp1, ?_⟩
              · simp only [hcc]; exact run_append_in (ty := ty) hu g hxu hni r1 r2 (base := some ⟨l.b, l.o + off, none⟩) hfit (fun a ha => by obtain rfl := Option.some.inj ha; exact hstore) (fun hh => by cases hh)
              · have := VR.sl (μ := upd μ h.n ⟨l.b, l.o + off, l.room - off⟩) h.n 0 (n + m) i.size cap _ (upd_same _ _) hfit (by simp only; omega)
                exact this
            · obtain ⟨_, _, _, hroom⟩ := apd_post s hap r4 (asrc_one s hsrc) hm r3
              have hrd : ∃ cold : List Value, cold.length = n * i.size ∧ ∀ q (a : q < cold.length), w.cell? ⟨l.b, l.o + off + q, none⟩ = some cold[q] := by
                obtain ⟨vs, hvs⟩ := apd_rd hap
                obtain ⟨cvs, _, e2, e3⟩ := s.read hm hvs
                exact ⟨cvs, e2, e3⟩
              obtain ⟨cold, c1, c2⟩ := hrd
              simp only [hcc]; refine grow l _ cap cold.toArray hm (by omega) ?_ (by simpa using c1) (fun q a => by simpa using c2 q (by simpa using a))
              exact run_loadCells_list P w.drew l.b (l.o + off) _ cold c1 c2
        · exact hk.elim
      · exact hk.elim
    · exact hk.elim
  · exact hk.elim

theorem run_append_zeros {t u ty e : TypeId} {q : IntKind} {i : TI} {d : TypeDesc} {j : TypeInfo} {z : Value} (hu : P.underlying t = some (.slice e)) (g : TIFacts P e i d j z)
    (hxu : P.underlying u = some (.int q)) (hby : i.bytes ≤ 256) (hpos : 0 < i.size) {n : Int} (h0 : 0 < n) (hbig : n < 274877906944) (A : Option Addr) :
    ∃ newCap, n.toNat ≤ newCap ∧ (Builtin.append_ #[t, u] ty #[.slice A 0 0, .int .i64 n]).run P w =
      .ok (.slice (some ⟨w.heap.size, 0, none⟩) n.toNat newCap) (w.drew.alloc (.cells (#[] ++ Builtin.zeroCells z.cells n.toNat ++ Builtin.zeroCells z.cells (newCap - n.toNat)) e)) := by
  have ho : (Builtin.firstCells i.size 0 (.slice A 0 0)).run P w.drew = .ok #[] w.drew := by
    cases A <;> simp [Builtin.firstCells, loadCells, loadCellsFrom]
  have h1 : Builtin.nextslicecap (0 + n.toNat) 0 * j.bytes ≤ 2 ^ 48 := by
    have a := nextcap_le (0 + n.toNat) 0 (by omega)
    have b : j.bytes ≤ 256 := by rw [g.bytes]; exact hby
    calc Builtin.nextslicecap (0 + n.toNat) 0 * j.bytes ≤ (2 * (0 + n.toNat) + 768) * 256 := Nat.mul_le_mul a b
      _ ≤ 2 ^ 48 := by omega
  have hq : (Question.appendCap (0 + n.toNat) 0 e).forced = false := rfl
  have hgc : (Question.appendCap (0 + n.toNat) 0 e).cut (w.tape w.drawn (.appendCap (0 + n.toNat) 0 e)) = grownCap w (0 + n.toNat) 0 e := rfl
  have hmx : ¬ ((IntKind.i64.max : Int) < ((0 + n.toNat : Nat) : Int)) := by simp [IntKind.max, IntKind.bits, IntKind.signed]; omega
  have hw : IntKind.i64.wrap n = n := wrap_id (by omega) (by omega)
  have hb2 : ¬ ((n * (j.bytes : Int)) > 2 ^ 48) := by
    have b : (j.bytes : Int) ≤ 256 := by have := g.bytes; omega
    have : n * (j.bytes : Int) ≤ n * 256 := Int.mul_le_mul_of_nonneg_left b (by omega)
    omega
  have hne : ¬ (n.toNat * i.size = 0) := by
    intro e
    rcases Nat.mul_eq_zero.1 e with e | e <;> omega
  refine ⟨grownCap w (0 + n.toNat) 0 e, by have := grownCap_ge w (0 + n.toNat) 0 e; omega, ?_⟩
  simp only [Builtin.append_, List.getElem?_toArray, List.getElem?_cons_zero, List.getElem?_cons_succ, Sem.run_bind, run_underlying hu, Result.andThen_ok, g.runSize, run_underlying hxu, Sem.run_pure]
  simp only [if_true, asInt, asIntOf, Sem.run_bind, Sem.run_pure, Result.andThen_ok, hw, g.runInfo]
  rw [if_neg (by omega)]
  simp only [Sem.run_bind, Sem.run_pure, Result.andThen_ok, g.runInfo]
  rw [if_neg hb2]
  simp only [Sem.run_bind, Sem.run_pure, Result.andThen_ok, g.runInfo]
  rw [if_neg (by omega)]
  simp only [Sem.run_bind, g.runInfo, Result.andThen_ok, Sem.run_pure]
  rw [if_neg (by intro hh; exact hmx hh.1)]
  simp only [Sem.run_bind, g.runInfo, Result.andThen_ok, Sem.run_pure]
  rw [if_neg (by omega)]
  simp only [Sem.run_bind, g.runInfo, Result.andThen_ok, Sem.run_pure, run_choose, hq, Bool.false_eq_true, if_false, hgc, run_askRoom, World.drew_eq, ho, Bool.not_true, hne, g.runZero, run_newRow]
  simp only [Nat.zero_add]
  rfl
theorem azeros_sound {t u ty : TypeId} {x y : Operand} {ρ : Operand → Value} {n : Int} {K : Value → AH → Prop} (hy : ρ y = .int .i64 n) (hk : azeros P h t u (ρ x) n K) :
    ∃ v h', AIns P (fun σ => Builtin.append_ #[t, u] ty #[σ x, σ y]) [x, y] ρ h v h' ∧ K v h' := by
  unfold azeros at hk
  split at hk
  · rename_i e i q c hs hxu hp
    obtain ⟨hpos, hby, h0, hbig, hk⟩ := hk
    obtain ⟨hu, ht⟩ := si_facts hs
    obtain ⟨d, j, z, g⟩ := ti_facts ht
    refine ⟨_, _, ?_, hk⟩
    intro FB w0 μ σ w s hx
    have hvx := hx x (by simp); rw [hp] at hvx
    have hvy := hx y (by simp); rw [hy] at hvy
    obtain ⟨A', hcx⟩ : ∃ A', σ x = .slice A' 0 0 := by
      generalize hcc : σ x = cc at hvx
      cases hvx with
      | plain _ hq => simp [isPlain] at hq
      | sl0 A' _ => exact ⟨A', rfl⟩
    obtain ⟨newCap, hc1, hrun⟩ := run_append_zeros (w := w) (ty := ty) hu g hxu hby hpos h0 hbig A'
    have hzs : z.cells.size = i.size := by rw [← Array.length_toList, g.zc]; exact g.zn
    have hsz : (#[] ++ Builtin.zeroCells z.cells n.toNat ++ Builtin.zeroCells z.cells (newCap - n.toNat)).size = newCap * i.size := by
      simp only [Array.size_append, zeroCells_size, hzs, Array.size_empty, Nat.zero_add]
      rw [← Nat.add_mul]; congr 1; omega
    have hzl := g.zn
    refine ⟨_, _, _, by simp only [hcx, hvy.int]; exact hrun, s.drew.new (cs := zerosL (n.toNat * i.size) i.zero) (arr := #[] ++ Builtin.zeroCells z.cells n.toNat ++ Builtin.zeroCells z.cells (newCap - n.toNat)) (e := e) (fz := (0, 0)) ?_ (fun q a b => ?_) (fun q _ hc => by simp at hc) (zerosL_one g.zk _ (by omega)), ?_⟩
    · rw [hsz]; simp only [zerosL_length]; exact Nat.mul_le_mul_right _ hc1
    · have hl : q < n.toNat * i.size := by simpa [zerosL] using a
      have e1 : (#[] ++ Builtin.zeroCells z.cells n.toNat ++ Builtin.zeroCells z.cells (newCap - n.toNat))[q] = (Builtin.zeroCells z.cells n.toNat)[q]'(by rw [zeroCells_size, hzs]; exact hl) := by
        rw [Array.getElem_append_left (by simp [zeroCells_size, hzs]; exact hl)]; simp
      rw [e1]
      exact zeros_LR g.zk (n.toNat * i.size) z.cells g.zc (by omega) (n.toNat * z.cells.size) (by rw [hzs]; exact Nat.le_refl _) (by omega) q a (by rw [← zeroCells_size] at *; simpa [zeroCells_size, hzs] using hl)
    · have := VR.sl (μ := upd μ h.n ⟨w.heap.size, 0, (#[] ++ Builtin.zeroCells z.cells n.toNat ++ Builtin.zeroCells z.cells (newCap - n.toNat)).size⟩) h.n 0 n.toNat i.size newCap _ (upd_same _ _) hc1 (by simp only [hsz]; omega)
      exact this
  · exact hk.elim
theorem aappend_sound {t u ty : TypeId} {x y : Operand} {ρ : Operand → Value} {K : Value → AH → Prop} (hk : aappend P h t u (ρ x) (ρ y) K) :
    ∃ v h', AIns P (fun σ => Builtin.append_ #[t, u] ty #[σ x, σ y]) [x, y] ρ h v h' ∧ K v h' := by
  unfold aappend at hk
  split at hk
  · rename_i n hy
    exact azeros_sound hy hk
  · exact aapp_sound hk

/-- A copy, of elements of one cell. -/
def acopy (P : Program) (h : AH) (t : TypeId) (x y : Value) (K : Value → AH → Prop) : Prop :=
  match si P t, x, y with
  | some (_, i), .slice (some ⟨id, off, Option.none⟩) n _, .slice (some ⟨id2, off2, Option.none⟩) m _ =>
    i.size = 1 ∧ 0 < n ∧ 0 < m ∧ (match rd h id2 off2 (Nat.min m n) with
      | some vs => (match wr h id off vs with | some h' => K (.int .i64 (Nat.min m n : Nat)) h' | none => False)
      | none => False)
  | _, _, _ => False
theorem acopy_sound {t u ty : TypeId} {x y : Operand} {ρ : Operand → Value} {K : Value → AH → Prop} (hk : acopy P h t (ρ x) (ρ y) K) :
    ∃ v h', AIns P (fun σ => Builtin.copy_ #[t, u] ty #[σ x, σ y]) [x, y] ρ h v h' ∧ K v h' := by
  unfold acopy at hk
  split at hk
  · rename_i e i id off n k id2 off2 m k2 hs hx hy
    obtain ⟨h1, hn, hm, hk⟩ := hk
    obtain ⟨hu, ht⟩ := si_facts hs
    obtain ⟨d, j, z, g⟩ := ti_facts ht
    split at hk
    · rename_i vs hrd
      split at hk
      · rename_i h' hwr
        refine ⟨_, _, ?_, hk⟩
        intro FB w0 μ σ w s hxy
        have hvx := hxy x (by simp); rw [hx] at hvx
        have hvy := hxy y (by simp); rw [hy] at hvy
        generalize hcx : σ x = cx at hvx
        generalize hcy : σ y = cy at hvy
        cases hvx with
        | plain _ hq => simp [isPlain] at hq
        | slz => omega
        | sl _ _ _ _ cap l hl1 hl2 hl3 =>
          cases hvy with
          | plain _ hq => simp [isPlain] at hq
          | slz => omega
          | sl _ _ _ _ cap2 l2 hm1 hm2 hm3 =>
            obtain ⟨cvs, r1, r2, r3⟩ := s.read hm1 hrd
            have ones : ∀ v ∈ vs, one v = true := by
              unfold rd at hrd
              split at hrd
              · rename_i cs st ln ho
                split at hrd
                · obtain rfl := Option.some.inj hrd
                  exact fun v hv => s.onec _ _ _ _ ho v (List.mem_of_mem_drop (List.mem_of_mem_take hv))
                · cases hrd
              · cases hrd
            obtain ⟨p, q1, q2⟩ := s.write hl1 hwr r1 ones
            have hsz : (P.info? e).map (·.size) = some 1 := by rw [g.info]; simp [g.size, h1]
            have hrun := run_copy_cells (P := P) w t u ty e l.b (l.o + off) n cap ⟨l2.b, l2.o + off2, none⟩ m cap2 cvs hu hsz r2 (fun a v ha => by
              obtain ⟨ha', rfl⟩ := List.getElem?_eq_some_iff.1 ha
              rw [add_none]; exact r3 a ha') q1 q2 (fun v hv => by
                obtain ⟨q, hq, rfl⟩ := List.getElem_of_mem hv
                have hq' : q < vs.length := by rw [r1.1]; exact hq
                rw [one_eq, (r1.2 q hq' hq).one]
                exact ones _ (List.getElem_mem hq'))
            refine ⟨_, _, _, by simp only [hcx, hcy]; exact hrun, p, ?_⟩
            rw [r2]
            exact .plain _ rfl
      · exact hk.elim
    · exact hk.elim
  · exact hk.elim

end Go.Sim
