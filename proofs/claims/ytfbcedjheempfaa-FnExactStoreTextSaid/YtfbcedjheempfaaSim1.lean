/- The ground of the proofs of this seat: an abstract heap, and how it lies in the model's memory. Conditions: none; nothing here speaks of a program. -/
import Derived.WalkKit
import Derived.Orders
set_option linter.unusedVariables false
set_option linter.unusedSimpArgs false
namespace Go.Sim

/-- Where an abstract object lies: block, first cell, how many cells there are from there to the block's end. -/
structure Loc where
  b : Nat
  o : Nat
  room : Nat

inductive Stat where
  | ro
  | solo
  | old
  | tip
  deriving DecidableEq

inductive AOb where
  | none
  | cells (cs : List Value) (st : Stat) (ln : Nat)
  | map (es : List (Value × Value))

structure AH where
  n : Nat
  ob : Nat → AOb

def AOb.own : AOb → Option Nat
  | .cells _ .ro _ => Option.none
  | .cells _ _ ln => some ln
  | _ => Option.none

def AH.set (h : AH) (i : Nat) (o : AOb) : AH := ⟨h.n, fun j => if j = i then o else h.ob j⟩
def AH.alloc (h : AH) (o : AOb) : AH := ⟨h.n + 1, fun j => if j = h.n then o else h.ob j⟩
def AH.kill (h : AH) (ln : Nat) : AH := ⟨h.n, fun j => if (h.ob j).own = some ln then .none else h.ob j⟩

def isPlain : Value → Bool
  | .bool _ | .int _ _ | .float _ _ | .complex _ _ _ | .string _ | .nilFunc | .nilIface | .pointer Option.none | .map Option.none | .chan Option.none => true
  | .tuple vs => vs.isEmpty
  | _ => false

inductive VR (μ : Nat → Option Loc) : Value → Value → Prop
  | plain (v : Value) (h : isPlain v = true) : VR μ v v
  | ptr (i off : Nat) (l : Loc) (h : μ i = some l) : VR μ (.pointer (some ⟨i, off, none⟩)) (.pointer (some ⟨l.b, l.o + off, none⟩))
  | sl (i off n k cap : Nat) (l : Loc) (h : μ i = some l) (hn : n ≤ cap) (hr : off + cap * k ≤ l.room) :
      VR μ (.slice (some ⟨i, off, none⟩) n k) (.slice (some ⟨l.b, l.o + off, none⟩) n cap)
  | slz (i off k : Nat) (l : Loc) (h : μ i = some l) (ho : off ≤ l.room) (A' : Option Addr) : VR μ (.slice (some ⟨i, off, none⟩) 0 k) (.slice A' 0 0)
  | sl0 (A' : Option Addr) (c : Nat) : VR μ (.slice none 0 c) (.slice A' 0 0)
  | map (i : Nat) (l : Loc) (h : μ i = some l) : VR μ (.map (some i)) (.map (some l.b))
  | func (fn : Fn) (f f' c c' : Array Value) (hf : f.size = f'.size) (hc : c.size = c'.size)
      (ef : ∀ j (h : j < f.size) (h' : j < f'.size), VR μ f[j] f'[j]) (ec : ∀ j (h : j < c.size) (h' : j < c'.size), VR μ c[j] c'[j]) :
      VR μ (.func fn f c) (.func fn f' c')
  | agg (a a' : Array Value) (hs : a.size = a'.size) (e : ∀ j (h : j < a.size) (h' : j < a'.size), VR μ a[j] a'[j]) : VR μ (.agg a) (.agg a')
  | tuple (a a' : Array Value) (hs : a.size = a'.size) (e : ∀ j (h : j < a.size) (h' : j < a'.size), VR μ a[j] a'[j]) : VR μ (.tuple a) (.tuple a')

/-- Lists of values, one beside the other. -/
def LR (μ : Nat → Option Loc) (a b : List Value) : Prop := a.length = b.length ∧ ∀ j (h : j < a.length) (h' : j < b.length), VR μ a[j] b[j]
def AR (μ : Nat → Option Loc) (a b : Array Value) : Prop := a.size = b.size ∧ ∀ j (h : j < a.size) (h' : j < b.size), VR μ a[j] b[j]

def Ext (μ μ' : Nat → Option Loc) : Prop := ∀ i l, μ i = some l → μ' i = some l
theorem Ext.refl (μ : Nat → Option Loc) : Ext μ μ := fun _ _ h => h
theorem Ext.trans {a b c : Nat → Option Loc} (h : Ext a b) (k : Ext b c) : Ext a c := fun i l x => k i l (h i l x)

theorem VR.ext {μ μ' : Nat → Option Loc} (hx : Ext μ μ') {v c : Value} (h : VR μ v c) : VR μ' v c := by
  induction h with
  | plain v h => exact .plain v h
  | ptr i off l h => exact .ptr i off l (hx _ _ h)
  | sl i off n k cap l h hn hr => exact .sl i off n k cap l (hx _ _ h) hn hr
  | slz i off k l h ho A' => exact .slz i off k l (hx _ _ h) ho A'
  | sl0 A' c => exact .sl0 A' c
  | map i l h => exact .map i l (hx _ _ h)
  | func fn f f' c c' hf hc _ _ ef ec => exact .func fn f f' c c' hf hc (fun j a b => ef j a b) (fun j a b => ec j a b)
  | agg a a' hs _ e => exact .agg a a' hs (fun j x y => e j x y)
  | tuple a a' hs _ e => exact .tuple a a' hs (fun j x y => e j x y)

theorem LR.ext {μ μ' : Nat → Option Loc} (hx : Ext μ μ') {a b : List Value} (h : LR μ a b) : LR μ' a b := ⟨h.1, fun j x y => (h.2 j x y).ext hx⟩
theorem AR.ext {μ μ' : Nat → Option Loc} (hx : Ext μ μ') {a b : Array Value} (h : AR μ a b) : AR μ' a b := ⟨h.1, fun j x y => (h.2 j x y).ext hx⟩
theorem AR.list {μ : Nat → Option Loc} {a b : Array Value} (h : AR μ a b) : LR μ a.toList b.toList := ⟨by simpa using h.1, fun j x y => h.2 j (by simpa using x) (by simpa using y)⟩
theorem LR.array {μ : Nat → Option Loc} {a b : Array Value} (h : LR μ a.toList b.toList) : AR μ a b := ⟨by simpa using h.1, fun j x y => h.2 j (by simpa using x) (by simpa using y)⟩
theorem LR.nil (μ : Nat → Option Loc) : LR μ [] [] := ⟨rfl, fun j h => by simp at h⟩
theorem LR.cons {μ : Nat → Option Loc} {x y : Value} {a b : List Value} (hx : VR μ x y) (h : LR μ a b) : LR μ (x :: a) (y :: b) :=
  ⟨by simp [h.1], fun j p q => by
    cases j with
    | zero => simpa using hx
    | succ j => simpa using h.2 j (by simpa using p) (by simpa using q)⟩
theorem LR.head {μ : Nat → Option Loc} {x y : Value} {a b : List Value} (h : LR μ (x :: a) (y :: b)) : VR μ x y := h.2 0 (by simp) (by simp)
theorem LR.tail {μ : Nat → Option Loc} {x y : Value} {a b : List Value} (h : LR μ (x :: a) (y :: b)) : LR μ a b :=
  ⟨by simpa using h.1, fun j p q => h.2 (j + 1) (by simpa using p) (by simpa using q)⟩
theorem LR.append {μ : Nat → Option Loc} {a b c d : List Value} (h : LR μ a b) (k : LR μ c d) : LR μ (a ++ c) (b ++ d) := by
  refine ⟨by simp [h.1, k.1], fun j p q => ?_⟩
  by_cases hj : j < a.length
  · rw [List.getElem_append_left hj, List.getElem_append_left (by rw [← h.1]; exact hj)]; exact h.2 j hj (by rw [← h.1]; exact hj)
  · simp only [List.length_append] at p q
    have e := h.1
    have hb : ¬ j < b.length := by omega
    rw [List.getElem_append_right (by omega), List.getElem_append_right (by omega)]
    have := k.2 (j - a.length) (by omega) (by omega)
    simpa [e] using this
theorem LR.take {μ : Nat → Option Loc} {a b : List Value} (h : LR μ a b) (n : Nat) : LR μ (a.take n) (b.take n) := by
  refine ⟨by simp [h.1], fun j p q => ?_⟩
  simp only [List.length_take] at p q
  simpa using h.2 j (by omega) (by omega)
theorem LR.drop {μ : Nat → Option Loc} {a b : List Value} (h : LR μ a b) (n : Nat) : LR μ (a.drop n) (b.drop n) := by
  refine ⟨by simp [h.1], fun j p q => ?_⟩
  simp only [List.length_drop] at p q
  simpa using h.2 (n + j) (by omega) (by omega)
theorem LR.set {μ : Nat → Option Loc} {a b : List Value} (h : LR μ a b) (i : Nat) {x y : Value} (hx : VR μ x y) : LR μ (a.set i x) (b.set i y) := by
  refine ⟨by simp [h.1], fun j p q => ?_⟩
  simp only [List.length_set] at p q
  by_cases e : i = j
  · subst e; simpa using hx
  · simpa [List.getElem_set, e] using h.2 j p q

theorem VR.undef (μ : Nat → Option Loc) : VR μ undef undef := .plain _ rfl

theorem AR.getD {μ : Nat → Option Loc} {a b : Array Value} (h : AR μ a b) (i : Nat) : VR μ (a.getD i undef) (b.getD i undef) := by
  by_cases hi : i < a.size
  · have hb : i < b.size := by rw [← h.1]; exact hi
    simpa [Array.getD, hi, hb] using h.2 i hi hb
  · have hb : ¬ i < b.size := by rw [← h.1]; exact hi
    simpa [Array.getD, hi, hb] using VR.undef μ

theorem AR.setIfInBounds {μ : Nat → Option Loc} {a b : Array Value} (h : AR μ a b) (i : Nat) {x y : Value} (hx : VR μ x y) : AR μ (a.setIfInBounds i x) (b.setIfInBounds i y) := by
  refine ⟨by simp [h.1], fun j p q => ?_⟩
  simp only [Array.size_setIfInBounds] at p q
  by_cases e : i = j
  · subst e; simpa using hx
  · rw [Array.getElem_setIfInBounds_ne (h := e) (hj := p), Array.getElem_setIfInBounds_ne (h := e) (hj := q)]; exact h.2 j p q

/-! what a value tells of the one beside it -/
theorem VR.bool {μ : Nat → Option Loc} {b : Bool} {c : Value} (h : VR μ (.bool b) c) : c = .bool b := by cases h; rfl
theorem VR.int {μ : Nat → Option Loc} {k : IntKind} {n : Int} {c : Value} (h : VR μ (.int k n) c) : c = .int k n := by cases h; rfl
theorem VR.string {μ : Nat → Option Loc} {s : ByteArray} {c : Value} (h : VR μ (.string s) c) : c = .string s := by cases h; rfl
theorem VR.of_bool {μ : Nat → Option Loc} {b : Bool} {v : Value} (h : VR μ v (.bool b)) : v = .bool b := by cases h; rfl
theorem VR.cellsLR {μ : Nat → Option Loc} {v c : Value} (h : VR μ v c) : AR μ v.cells c.cells := by
  have one : ∀ {v c : Value}, VR μ v c → AR μ #[v] #[c] := fun h => ⟨rfl, fun j p q => by
    have : j = 0 := by simpa using p
    subst this; simpa using h⟩
  cases h with
  | agg a a' hs e => exact ⟨hs, e⟩
  | plain v hp =>
    cases v <;> first | exact one (.plain _ hp) | (simp [isPlain] at hp)
  | ptr i off l h => exact one (.ptr i off l h)
  | sl i off n c cap l h hn hr => exact one (.sl i off n c cap l h hn hr)
  | slz i off k l h ho A' => exact one (.slz i off k l h ho A')
  | sl0 A' c => exact one (.sl0 A' c)
  | map i l h => exact one (.map i l h)
  | func fn f f' c c' hf hc ef ec => exact one (.func fn f f' c c' hf hc ef ec)
  | tuple a a' hs e => exact one (.tuple a a' hs e)
/-- The value of one cell. -/
def one : Value → Bool
  | .agg _ | .tuple _ => false
  | _ => true
theorem VR.one {μ : Nat → Option Loc} {v c : Value} (h : VR μ v c) : Sim.one c = Sim.one v := by cases h <;> rfl

/-! ### how an abstract heap lies in a world -/
def Blk (w : World) (l : Loc) : Prop :=
  ∃ arr e fz, w.heap[l.b]? = some (.cells arr e fz) ∧ arr.size = l.o + l.room ∧ ∀ j, j < arr.size → ¬ (fz.1 ≤ j ∧ j < fz.2)

def MapR (μ : Nat → Option Loc) (es : List (Value × Value)) (ents : Array MapEntry) : Prop :=
  es.length = ents.size ∧ ∀ j (h : j < es.length) (h' : j < ents.size), isPlain es[j].1 = true ∧ es[j].1 = ents[j].key ∧ VR μ es[j].2 ents[j].val

structure Sim (P : Program) (FB : Nat → Prop) (w0 : World) (μ : Nat → Option Loc) (h : AH) (w : World) : Prop where
  os : w.os = w0.os
  tape : w.tape = w0.tape
  out : w.output = w0.output
  frame : ∀ b, FB b → b < w.heap.size ∧ w.heap[b]? = w0.heap[b]?
  dom : ∀ i l, μ i = some l → i < h.n
  big : ∀ i, h.n ≤ i → h.ob i = .none
  glob : ∀ g, g < P.globals.size → ∃ l, μ g = some l ∧ l.b = g ∧ l.o = 0
  cell : ∀ i l cs st ln, μ i = some l → h.ob i = .cells cs st ln → ∀ j (_ : j < cs.length), ∃ cv, w.cell? ⟨l.b, l.o + j, none⟩ = some cv ∧ VR μ cs[j] cv
  blk : ∀ i l cs st ln, μ i = some l → h.ob i = .cells cs st ln → st ≠ .ro → ¬ FB l.b ∧ Blk w l ∧ cs.length ≤ l.room
  rob : ∀ i l cs ln, μ i = some l → h.ob i = .cells cs .ro ln → FB l.b
  onec : ∀ i cs st ln, h.ob i = .cells cs st ln → ∀ v ∈ cs, Sim.one v = true
  sep : ∀ i j li lj ni nj, μ i = some li → μ j = some lj → (h.ob i).own = some ni → (h.ob j).own = some nj → li.b = lj.b → ni = nj
  tip : ∀ i j li lj ci cj sj ni nj, μ i = some li → μ j = some lj → h.ob i = .cells ci .tip ni → h.ob j = .cells cj sj nj → sj ≠ .ro → li.b = lj.b → lj.o + cj.length ≤ li.o + ci.length
  tipu : ∀ i j ci cj n, h.ob i = .cells ci .tip n → h.ob j = .cells cj .tip n → i = j
  solo : ∀ i cs n, h.ob i = .cells cs .solo n → n = i ∧ ∀ j, (h.ob j).own = some i → j = i
  lin : ∀ i n, (h.ob i).own = some n → n ≤ i
  linc : ∀ i j n, (h.ob i).own = some n → (h.ob j).own = some n → μ i ≠ none → μ j ≠ none
  mp : ∀ i l es, μ i = some l → h.ob i = .map es → ¬ FB l.b ∧ ∃ ents clock, w.heap[l.b]? = some (.map ents clock) ∧ MapR μ es ents
  mpu : ∀ i j li lj es es', μ i = some li → μ j = some lj → h.ob i = .map es → h.ob j = .map es' → li.b = lj.b → i = j

/-- Objects that are not mapped are not touched. -/
def Unt (μ : Nat → Option Loc) (h : AH) (μ' : Nat → Option Loc) (h' : AH) : Prop :=
  h.n ≤ h'.n ∧ ∀ i, i < h.n → μ i = none → μ' i = none ∧ h'.ob i = h.ob i
theorem Unt.refl (μ : Nat → Option Loc) (h : AH) : Unt μ h μ h := ⟨Nat.le_refl _, fun _ _ hm => ⟨hm, rfl⟩⟩
theorem Unt.trans {μ μ1 μ2 : Nat → Option Loc} {h h1 h2 : AH} (a : Unt μ h μ1 h1) (b : Unt μ1 h1 μ2 h2) : Unt μ h μ2 h2 :=
  ⟨Nat.le_trans a.1 b.1, fun i hi hm => by
    obtain ⟨x, y⟩ := a.2 i hi hm
    obtain ⟨x', y'⟩ := b.2 i (Nat.lt_of_lt_of_le hi a.1) x
    exact ⟨x', y'.trans y⟩⟩

/-- What stands behind a step. -/
structure Post (P : Program) (FB : Nat → Prop) (w0 : World) (μ : Nat → Option Loc) (h : AH) (μ' : Nat → Option Loc) (h' : AH) (w' : World) : Prop where
  sim : Sim P FB w0 μ' h' w'
  ext : Ext μ μ'
  unt : Unt μ h μ' h'

theorem Post.trans {P : Program} {FB : Nat → Prop} {w0 : World} {μ μ1 μ2 : Nat → Option Loc} {h h1 h2 : AH} {w1 w2 : World}
    (a : Post P FB w0 μ h μ1 h1 w1) (b : Post P FB w0 μ1 h1 μ2 h2 w2) : Post P FB w0 μ h μ2 h2 w2 := ⟨b.sim, a.ext.trans b.ext, a.unt.trans b.unt⟩
theorem Sim.post {P : Program} {FB : Nat → Prop} {w0 : World} {μ : Nat → Option Loc} {h : AH} {w : World} (s : Sim P FB w0 μ h w) : Post P FB w0 μ h μ h w := ⟨s, Ext.refl _, Unt.refl _ _⟩

end Go.Sim
