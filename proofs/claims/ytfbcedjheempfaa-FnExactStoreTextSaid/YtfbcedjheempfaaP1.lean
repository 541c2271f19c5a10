/- Numbers in bytes of seven bits: what is written comes back. Conditions: none. -/
import Derived.Test.YtfbcedjheempfaaSimM
set_option linter.unusedSimpArgs false
set_option linter.unusedVariables false
namespace Go.Sim
def var (n : Nat) : List Nat := if n ≤ 127 then [n] else (n % 128 + 128) :: var (n / 128)
termination_by n
decreasing_by omega
def sumv : List Nat → Nat
  | [] => 0
  | b :: r => b % 128 + 128 * sumv r
theorem sumv_snoc (x : Nat) : ∀ l : List Nat, sumv (l ++ [x]) = sumv l + x % 128 * 128 ^ l.length
  | [] => by simp [sumv]
  | b :: l => by
    simp only [List.cons_append, sumv, sumv_snoc x l, List.length_cons, Nat.pow_succ]
    rw [Nat.mul_add, Nat.add_assoc]
    congr 2
    rw [Nat.mul_comm 128, Nat.mul_assoc]
theorem sumv_pos (c : Nat) (hc : c % 128 ≠ 0) : ∀ l : List Nat, 0 < sumv (l ++ [c])
  | [] => by simp [sumv]; omega
  | b :: l => by
    have := sumv_pos c hc l
    simp only [List.cons_append, sumv]; omega
theorem var_sum (c : Nat) (hc : c < 128) : ∀ l : List Nat, (∀ b ∈ l, 127 < b ∧ b < 256) → (c ≠ 0 ∨ l = []) → var (sumv (l ++ [c])) = l ++ [c]
  | [], _, _ => by
    have : sumv ([] ++ [c]) = c := by simp [sumv]; omega
    rw [this, var, if_pos (by omega)]; rfl
  | b :: l, hall, hne => by
    have hc0 : c ≠ 0 := by simpa using hne
    have hb := hall b (by simp)
    have hp := sumv_pos c (by omega) l
    have ih := var_sum c hc l (fun x hx => hall x (by simp [hx])) (.inl hc0)
    have e : sumv (b :: l ++ [c]) = b % 128 + 128 * sumv (l ++ [c]) := rfl
    rw [e, var, if_neg (by omega)]
    have e1 : (b % 128 + 128 * sumv (l ++ [c])) % 128 + 128 = b := by omega
    have e2 : (b % 128 + 128 * sumv (l ++ [c])) / 128 = sumv (l ++ [c]) := by omega
    rw [e1, e2, ih]; rfl
theorem var_last (n : Nat) : n ≠ 0 → (var n).getLast? ≠ some 0 := by
  induction n using Nat.strongRecOn with
  | ind n ih =>
    intro hn
    rw [var]
    split
    · simpa using hn
    · have h1 : n / 128 ≠ 0 := by omega
      have := ih (n / 128) (by omega) h1
      have hne : var (n / 128) ≠ [] := by rw [var]; split <;> simp
      rw [List.getLast?_cons_of_ne_nil hne]; exact this
theorem var_no (l : List Nat) (hl : l ≠ []) : var (sumv (l ++ [0])) ≠ l ++ [0] := fun e => by
  by_cases h0 : sumv (l ++ [0]) = 0
  · rw [h0, var, if_pos (by omega)] at e
    cases l with
    | nil => exact hl rfl
    | cons a l => simp at e
  · have := var_last _ h0
    rw [e] at this
    simp at this
theorem var_lt (n : Nat) : ∀ b ∈ var n, b < 256 := by
  induction n using Nat.strongRecOn with
  | ind n ih =>
    intro b hb
    rw [var] at hb
    split at hb
    · simp at hb; omega
    · rcases List.mem_cons.1 hb with rfl | hb
      · omega
      · exact ih _ (by omega) b hb
theorem ofNat_inj : ∀ a b : List Nat, (∀ x ∈ a, x < 256) → (∀ x ∈ b, x < 256) → a.map UInt8.ofNat = b.map UInt8.ofNat → a = b
  | [], [], _, _, _ => rfl
  | [], _ :: _, _, _, e => by simp at e
  | _ :: _, [], _, _, e => by simp at e
  | x :: a, y :: b, ha, hb, e => by
    simp only [List.map_cons, List.cons.injEq] at e
    have hx := ha x (by simp)
    have hy := hb y (by simp)
    have h1 : x = y := by
      have := congrArg UInt8.toNat e.1
      simp [UInt8.toNat_ofNat'] at this
      omega
    rw [h1, ofNat_inj a b (fun z hz => ha z (by simp [hz])) (fun z hz => hb z (by simp [hz])) e.2]
/-- Bytes of a text from a place on. -/
def bN (s : ByteArray) (i : Nat) : Nat := (byteAt s i).toNat
theorem bN_lt (s : ByteArray) (i : Nat) : bN s i < 256 := (byteAt s i).toNat_lt
def bl (s : ByteArray) (a i : Nat) : List Nat := (List.range i).map fun j => bN s (a + j)
theorem bl_succ (s : ByteArray) (a i : Nat) : bl s a (i + 1) = bl s a i ++ [bN s (a + i)] := by simp [bl, List.range_succ]
theorem bl_len (s : ByteArray) (a i : Nat) : (bl s a i).length = i := by simp [bl]
theorem bl_lt (s : ByteArray) (a i : Nat) : ∀ b ∈ bl s a i, b < 256 := fun b hb => by
  simp only [bl, List.mem_map] at hb
  obtain ⟨j, _, rfl⟩ := hb
  exact bN_lt _ _
theorem extract_bl (s : ByteArray) (a i : Nat) (h : a + i ≤ s.size) : s.extract a (a + i) = ⟨((bl s a i).map UInt8.ofNat).toArray⟩ := by
  have hs : s.size = s.data.size := rfl
  apply ByteArray.ext
  apply Array.ext
  · rw [ByteArray.data_extract, Array.size_extract]
    simp only [List.size_toArray, List.length_map, bl_len]
    omega
  · intro j h1 h2
    simp only [List.size_toArray, List.length_map, bl_len] at h2
    have hj : a + j < s.data.size := by omega
    simp only [ByteArray.data_extract, Array.getElem_extract, List.getElem_toArray, List.getElem_map, bl, List.getElem_range, bN, byteAt]
    simp only [Array.getD, hj, dite_true]
    simp
theorem vt_eq (n : Nat) (s : ByteArray) (a i : Nat) (h : a + i ≤ s.size) : (⟨((var n).map UInt8.ofNat).toArray⟩ : ByteArray) = s.extract a (a + i) ↔ var n = bl s a i := by
  rw [extract_bl s a i h]
  constructor
  · intro e
    have e1 : (var n).map UInt8.ofNat = (bl s a i).map UInt8.ofNat := by simpa using e
    exact ofNat_inj _ _ (var_lt n) (bl_lt s a i) e1
  · intro e; rw [e]
/-- VarText of a number that has one. -/
def vt (n : Int) : ByteArray := ⟨((var n.toNat).map UInt8.ofNat).toArray⟩
def VN (out : List Nat) : List Value := out.map fun b => .int .u8 (b : Nat)
theorem vn_len (out : List Nat) : (VN out).length = out.length := by simp [VN]
theorem vn_snoc (out : List Nat) (x : Nat) : VN (out ++ [x]) = VN out ++ [.int .u8 (x : Nat)] := by simp [VN]
/-- What is read of a number: from its i-th byte on. -/
def rvGo (s : ByteArray) (a : Nat) : Nat → Nat → Nat → Option (Nat × Nat)
  | 0, _, _ => none
  | k + 1, i, n => if a + i < s.size then (if 127 < bN s (a + i) then rvGo s a k (i + 1) (n + bN s (a + i) % 128 * 128 ^ i)
      else if (0 < i ∧ bN s (a + i) = 0) ∨ 1000000000 < n + bN s (a + i) % 128 * 128 ^ i then none else some (n + bN s (a + i) % 128 * 128 ^ i, a + i + 1)) else none
def inB (n low high : Int) : Bool := decide (low ≤ n) && decide (n ≤ high)
def rv (s : ByteArray) (a : Int) : Option (Nat × Nat) := if inB a 0 s.size then rvGo s a.toNat 5 0 0 else none
def oN (r : Option (Nat × Nat)) : Int := match r with | some p => (p.1 : Nat) | none => 0
def oX (r : Option (Nat × Nat)) : Int := match r with | some p => (p.2 : Nat) | none => 0
theorem rvGo_succ (s : ByteArray) (a k i n : Nat) (h : a + i < s.size) : rvGo s a (k + 1) i n = if 127 < bN s (a + i) then rvGo s a k (i + 1) (n + bN s (a + i) % 128 * 128 ^ i)
      else if (0 < i ∧ bN s (a + i) = 0) ∨ 1000000000 < n + bN s (a + i) % 128 * 128 ^ i then none else some (n + bN s (a + i) % 128 * 128 ^ i, a + i + 1) := by rw [rvGo, if_pos h]
theorem rvGo_out (s : ByteArray) (a k i n : Nat) (h : ¬ a + i < s.size) : rvGo s a k i n = none := by cases k with
  | zero => rfl
  | succ k => rw [rvGo, if_neg h]
theorem pow128 {i : Nat} (h : i < 5) : 128 ^ i ≤ 268435456 := by
  have : i = 0 ∨ i = 1 ∨ i = 2 ∨ i = 3 ∨ i = 4 := by omega
  rcases this with rfl | rfl | rfl | rfl | rfl <;> decide
theorem dig_lt {c i : Nat} (h : i < 5) : c % 128 * 128 ^ i ≤ 127 * 128 ^ i := Nat.mul_le_mul_right _ (by omega)
/-- What is read of a number ends in the text, and is a number that may be told. -/
theorem rvGo_some (s : ByteArray) (a : Nat) : ∀ (k i n : Nat) (p : Nat × Nat), rvGo s a k i n = some p → p.1 ≤ 1000000000 ∧ a + i < p.2 ∧ p.2 ≤ s.size
  | 0, i, n, p, h => by cases h
  | k + 1, i, n, p, h => by
    rw [rvGo] at h
    split at h
    · split at h
      · have := rvGo_some s a k (i + 1) _ p h
        omega
      · split at h
        · cases h
        · cases h
          simp only; omega
    · cases h
theorem rv_some {s : ByteArray} {a : Int} {p : Nat × Nat} (h : rv s a = some p) : p.1 ≤ 1000000000 ∧ 0 ≤ a ∧ a < p.2 ∧ p.2 ≤ s.size := by
  unfold rv at h
  split at h
  · rename_i hb
    simp [inB] at hb
    have := rvGo_some _ _ _ _ _ _ h
    omega
  · cases h
/-- What is read of a short text. -/
def rs (s : ByteArray) (a : Int) : Option (Nat × Nat) := match rv s a with
  | some p => if 20000 < p.1 ∨ s.size < p.2 + p.1 then none else some p
  | none => none
theorem rs_some {s : ByteArray} {a : Int} {p : Nat × Nat} (h : rs s a = some p) : rv s a = some p ∧ p.1 ≤ 20000 ∧ p.2 + p.1 ≤ s.size := by
  unfold rs at h
  split at h
  · rename_i q hq
    split at h
    · cases h
    · rename_i hc
      cases h
      exact ⟨hq, by omega, by omega⟩
  · cases h
/-- The short text, and what is behind it. -/
def sT (s : ByteArray) (r : Option (Nat × Nat)) : ByteArray := match r with | some p => s.extract p.2 (p.2 + p.1) | none => ⟨#[]⟩
def sX (r : Option (Nat × Nat)) : Int := match r with | some p => (p.2 + p.1 : Nat) | none => 0
/-- A reader's state behind it: the place. -/
def nxN (r : Option (Nat × Nat)) (a : Nat) : Nat := match r with | some p => p.2 | none => a
def nxT (r : Option (Nat × Nat)) (a : Nat) : Nat := match r with | some p => p.2 + p.1 | none => a
def rdOb (p : Nat) (text : ByteArray) (a : Nat) (bad : Bool) : AOb := .cells [.string text, .int .i64 (a : Nat), .bool bad] .solo p
theorem rdOb_low (n p : Nat) (text : ByteArray) (a : Nat) (bad : Bool) : LowOb n (rdOb p text a bad) := by
  simp only [rdOb, LowOb]
  intro v hv
  simp only [List.mem_cons, List.not_mem_nil, or_false] at hv
  rcases hv with rfl | rfl | rfl
  · exact low_string _ _
  · exact low_int _ _ _
  · exact low_bool _ _
theorem Big.ltOb {h : AH} (b : Big h) {p : Nat} {o : AOb} (e : h.ob p = o) (ho : o ≠ .none) : p < h.n := Nat.lt_of_not_le (fun hi => ho (e.symm.trans (b p hi)))
theorem oN_some (n x : Nat) : oN (some (n, x)) = (n : Int) := rfl
theorem oN_none : oN none = 0 := rfl
theorem oX_some (n x : Nat) : oX (some (n, x)) = (x : Int) := rfl
theorem oX_none : oX none = 0 := rfl
theorem sX_none : sX none = 0 := rfl
theorem sT_none (s : ByteArray) : sT s none = ⟨#[]⟩ := rfl
theorem nxN_some (n x a : Nat) : nxN (some (n, x)) a = x := rfl
theorem nxN_none (a : Nat) : nxN none a = a := rfl
theorem nxT_some (n x a : Nat) : nxT (some (n, x)) a = x + n := rfl
theorem nxT_none (a : Nat) : nxT none a = a := rfl
attribute [push_cast] oN_some oN_none oX_some oX_none sX_none sT_none nxN_some nxN_none nxT_none Option.isSome_some Option.isSome_none Option.isNone_some Option.isNone_none Option.getD_none Option.getD_some
end Go.Sim
