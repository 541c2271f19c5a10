/- Stores: what is told of one. Conditions: those that each theorem names. -/
import Derived.Test.YtfbcedjheempfaaP3
import Derived.Lib.Bytealg
set_option linter.unusedSimpArgs false
set_option linter.unusedVariables false
namespace Go.Sim
structure Var where
  name : ByteArray
  val : ByteArray
  deriving DecidableEq
structure Cell where
  name : ByteArray
  key : ByteArray
  val : ByteArray
  deriving DecidableEq
structure Store where
  vars : List Var
  cells : List Cell
  out : ByteArray
  deriving DecidableEq
def Var.enc (x : Var) : List Value := [.string x.name, .string x.val]
def Cell.enc (x : Cell) : List Value := [.string x.name, .string x.key, .string x.val]
/-- A short text. -/
def short (s : ByteArray) : ByteArray := vt (s.size : Nat) ++ s
theorem short_size (s : ByteArray) (h : s.size ≤ 1000000000) : (short s).size ≤ s.size + 5 := by
  have := vt_size (n := (s.size : Int)) (by omega)
  simp only [short, ByteArray.size_append]; omega
def cat (l : List ByteArray) : ByteArray := l.foldl (· ++ ·) ⟨#[]⟩
theorem cat_snoc (l : List ByteArray) (x : ByteArray) : cat (l ++ [x]) = cat l ++ x := by simp [cat]
def Var.txt (x : Var) : ByteArray := short x.name ++ short x.val
def Cell.txt (x : Cell) : ByteArray := short x.name ++ short x.key ++ short x.val
def varsT (l : List Var) (i : Nat) : ByteArray := cat ((l.take i).map Var.txt)
def cellsT (l : List Cell) (i : Nat) : ByteArray := cat ((l.take i).map Cell.txt)
theorem varsT_succ {l : List Var} {i : Nat} (h : i < l.length) : varsT l (i + 1) = varsT l i ++ l[i].txt := by
  simp only [varsT, List.take_add_one, List.getElem?_eq_getElem h, Option.toList_some, List.map_append, List.map_cons, List.map_nil, cat_snoc]
theorem cellsT_succ {l : List Cell} {i : Nat} (h : i < l.length) : cellsT l (i + 1) = cellsT l i ++ l[i].txt := by
  simp only [cellsT, List.take_add_one, List.getElem?_eq_getElem h, Option.toList_some, List.map_append, List.map_cons, List.map_nil, cat_snoc]
theorem varsT_all (l : List Var) : varsT l l.length = cat (l.map Var.txt) := by simp [varsT]
theorem cellsT_all (l : List Cell) : cellsT l l.length = cat (l.map Cell.txt) := by simp [cellsT]
/-- The text of a store that is right. -/
def storeT (s : Store) : ByteArray := vt (s.vars.length : Nat) ++ varsT s.vars s.vars.length ++ vt (s.cells.length : Nat) ++ cellsT s.cells s.cells.length ++ short s.out
theorem app_assoc (a b c : ByteArray) : a ++ (b ++ c) = a ++ b ++ c := (ByteArray.append_assoc).symm
def letter (c : Int) : Bool := inB c 97 122 || inB c 65 90
def letters (s : ByteArray) : Bool := allAt s letter && inB s.size 1 8
def ltB (a b : ByteArray) : Bool := Op.bytesLess a.toList b.toList
def cmpB (a b : ByteArray) : Int := Lib.compareBytes a.data.toList b.data.toList
def cellCmp (a b : Cell) : Int := if a.name = b.name then cmpB a.key b.key else cmpB a.name b.name
def varOkAt (l : List Var) (j : Nat) : Bool := match l[j]? with
  | some x => letters x.name && decide ((x.val.size : Int) ≤ 40) && (j == 0 || match l[j - 1]? with | some y => ltB y.name x.name | none => false)
  | none => false
def cellOkAt (l : List Cell) (j : Nat) : Bool := match l[j]? with
  | some x => letters x.name && decide ((x.key.size : Int) ≤ 40) && decide ((x.val.size : Int) ≤ 40) && (j == 0 || match l[j - 1]? with | some y => decide (cellCmp y x < 0) | none => false)
  | none => false
def storeOk (s : Store) : Bool := allN s.vars.length (varOkAt s.vars) && allN s.cells.length (cellOkAt s.cells) && decide ((s.vars.length : Int) ≤ 60) && decide ((s.cells.length : Int) ≤ 2000) && decide ((s.out.size : Int) ≤ 3000)
structure RdS (h : AH) (A B : Option Addr) (s : Store) : Prop where
  vars : RdE h A 2 Var.enc s.vars
  cells : RdE h B 3 Cell.enc s.cells
structure Sz (s : Store) : Prop where
  vars : ∀ x ∈ s.vars, x.name.size ≤ maxLen ∧ x.val.size ≤ maxLen
  cells : ∀ x ∈ s.cells, x.name.size ≤ maxLen ∧ x.key.size ≤ maxLen ∧ x.val.size ≤ maxLen
  out : s.out.size ≤ maxLen
  nv : s.vars.length < 274877906944
  nc : s.cells.length < 274877906944
theorem storeOk_v {s : Store} {i : Nat} (hi : i < s.vars.length) (e : varOkAt s.vars i = false) : false = storeOk s := by simp [storeOk, allN_false hi e]
theorem storeOk_c {s : Store} {i : Nat} (hi : i < s.cells.length) (e : cellOkAt s.cells i = false) : false = storeOk s := by simp [storeOk, allN_false hi e]
theorem varOkAt_eq {l : List Var} {i : Nat} (hi : i < l.length) : varOkAt l i = (letters l[i].name && decide ((l[i].val.size : Int) ≤ 40) && (i == 0 || ltB (l[i - 1]'(by omega)).name l[i].name)) := by
  simp [varOkAt, hi, show i - 1 < l.length by omega]
theorem cellOkAt_eq {l : List Cell} {i : Nat} (hi : i < l.length) : cellOkAt l i = (letters l[i].name && decide ((l[i].key.size : Int) ≤ 40) && decide ((l[i].val.size : Int) ≤ 40) && (i == 0 || decide (cellCmp (l[i - 1]'(by omega)) l[i] < 0))) := by
  simp [cellOkAt, hi, show i - 1 < l.length by omega]

theorem varOk_size {s : Store} (h : storeOk s = true) {i : Nat} (hi : i < s.vars.length) : s.vars[i].name.size ≤ 8 ∧ s.vars[i].val.size ≤ 40 := by
  simp only [storeOk, Bool.and_eq_true] at h
  have h1 := allN_iff.1 h.1.1.1.1 i hi
  rw [varOkAt_eq hi] at h1
  simp only [letters, inB, Bool.and_eq_true, decide_eq_true_eq] at h1
  omega
theorem cellOk_size {s : Store} (h : storeOk s = true) {i : Nat} (hi : i < s.cells.length) : s.cells[i].name.size ≤ 8 ∧ s.cells[i].key.size ≤ 40 ∧ s.cells[i].val.size ≤ 40 := by
  simp only [storeOk, Bool.and_eq_true] at h
  have h1 := allN_iff.1 h.1.1.1.2 i hi
  rw [cellOkAt_eq hi] at h1
  simp only [letters, inB, Bool.and_eq_true, decide_eq_true_eq] at h1
  omega
theorem storeOk_len {s : Store} (h : storeOk s = true) : s.vars.length ≤ 60 ∧ s.cells.length ≤ 2000 ∧ s.out.size ≤ 3000 := by
  simp only [storeOk, Bool.and_eq_true, decide_eq_true_eq] at h
  omega
theorem varsT_size {s : Store} (h : storeOk s = true) : ∀ i, i ≤ s.vars.length → (varsT s.vars i).size ≤ 58 * i
  | 0, _ => by simp [varsT, cat, ByteArray.size]
  | i + 1, hi => by
    have ih := varsT_size h i (by omega)
    have hs := varOk_size h (i := i) (by omega)
    have h1 := short_size s.vars[i].name (by omega)
    have h2 := short_size s.vars[i].val (by omega)
    rw [varsT_succ (by omega), ByteArray.size_append, Var.txt, ByteArray.size_append]
    omega
theorem cellsT_size {s : Store} (h : storeOk s = true) : ∀ i, i ≤ s.cells.length → (cellsT s.cells i).size ≤ 103 * i
  | 0, _ => by simp [cellsT, cat, ByteArray.size]
  | i + 1, hi => by
    have ih := cellsT_size h i (by omega)
    have hs := cellOk_size h (i := i) (by omega)
    have h1 := short_size s.cells[i].name (by omega)
    have h2 := short_size s.cells[i].key (by omega)
    have h3 := short_size s.cells[i].val (by omega)
    rw [cellsT_succ (by omega), ByteArray.size_append, Cell.txt, ByteArray.size_append, ByteArray.size_append]
    omega
theorem bytesV_append (a b : ByteArray) : bytesV (a ++ b) = bytesV a ++ bytesV b := by simp [bytesV]
theorem bytesV_len (a : ByteArray) : (bytesV a).length = a.size := by simp [bytesV]
theorem toBytes_bytesV (a : ByteArray) : (toBytes (bytesV a)).map (fun l => (⟨l.toArray⟩ : ByteArray)) = some a := by
  simp [bytesV, toBytes_map]
theorem toBytes_bytesV' (a : ByteArray) : toBytes (bytesV a) = some a.data.toList := by
  simp [bytesV, toBytes_map]
theorem vt_pos (n : Int) : 0 < (vt n).size := by
  have : 0 < (var n.toNat).length := by rw [var]; split <;> simp
  simpa [vt, ByteArray.size] using this
theorem short_pos (s : ByteArray) : 0 < (short s).size := by
  have := vt_pos (s.size : Nat)
  simp only [short, ByteArray.size_append]; omega
theorem cmpL_lt : ∀ a b : List UInt8, (Lib.compareBytes a b < 0) ↔ Op.bytesLess a b = true
  | [], [] => by simp [Lib.compareBytes, Op.bytesLess]
  | [], _ :: _ => by simp [Lib.compareBytes, Op.bytesLess]
  | _ :: _, [] => by simp [Lib.compareBytes, Op.bytesLess]
  | x :: a, y :: b => by
    simp only [Lib.compareBytes, Op.bytesLess]
    have ih := cmpL_lt a b
    by_cases h1 : x < y
    · simp [h1]
    · by_cases h2 : y < x
      · have hne : ¬ x = y := fun e => by subst e; exact h1 h2
        simp [h1, h2, hne]
      · have e : x = y := UInt8.le_antisymm (UInt8.not_lt.1 h2) (UInt8.not_lt.1 h1)
        simp [h1, h2, e, ih]
theorem cmpL_eq : ∀ a b : List UInt8, (Lib.compareBytes a b = 0) ↔ a = b
  | [], [] => by simp [Lib.compareBytes]
  | [], _ :: _ => by simp [Lib.compareBytes]
  | _ :: _, [] => by simp [Lib.compareBytes]
  | x :: a, y :: b => by
    simp only [Lib.compareBytes]
    have ih := cmpL_eq a b
    by_cases h1 : x < y
    · have hne : ¬ x = y := fun e => by subst e; exact UInt8.lt_irrefl _ h1
      simp [h1, hne]
    · by_cases h2 : y < x
      · have hne : ¬ x = y := fun e => by subst e; exact h1 h2
        simp [h1, h2, hne]
      · have e : x = y := UInt8.le_antisymm (UInt8.not_lt.1 h2) (UInt8.not_lt.1 h1)
        simp [h1, h2, e, ih]
theorem cmp_lt (a b : ByteArray) : (cmpB a b < 0) ↔ ltB a b = true := by
  unfold cmpB ltB
  rw [ByteArray.toList_eq, ByteArray.toList_eq]; exact cmpL_lt _ _
theorem cellCmp_lt (a b : Cell) : decide (cellCmp a b < 0) = (ltB a.name b.name || (decide (a.name = b.name) && ltB a.key b.key)) := by
  have irr : ∀ l : List UInt8, Op.bytesLess l l = false := by
    intro l
    induction l with
    | nil => rfl
    | cons x l ih => simp [Op.bytesLess, ih]
  unfold cellCmp
  by_cases e : a.name = b.name
  · have h1 : ltB b.name b.name = false := irr _
    rw [if_pos e, e, h1]
    simp [cmp_lt]
  · rw [if_neg e]
    simp [cmp_lt, e]
theorem app_empty (a : ByteArray) : a ++ (⟨#[]⟩ : ByteArray) = a := by
  have : (⟨#[]⟩ : ByteArray) = ByteArray.empty := rfl
  rw [this]; simp
theorem varsT_zero (l : List Var) : varsT l 0 = ⟨#[]⟩ := rfl
theorem cellsT_zero (l : List Cell) : cellsT l 0 = ⟨#[]⟩ := rfl
end Go.Sim
