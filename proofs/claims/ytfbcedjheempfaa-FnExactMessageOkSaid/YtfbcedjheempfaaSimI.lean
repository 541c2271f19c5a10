/- Numbers in the walks. Conditions: those that each theorem names. -/
import Derived.Test.YtfbcedjheempfaaSimH
set_option linter.unusedVariables false
set_option linter.unusedSimpArgs false
namespace Go.Sim

theorem w64 {n : Int} (h0 : -9223372036854775808 ≤ n) (h1 : n ≤ 9223372036854775807) : IntKind.i64.wrap n = n := by
  rw [IntKind.wrap_i64]; omega
theorem w8 {n : Int} (h0 : 0 ≤ n) (h1 : n < 256) : IntKind.u8.wrap n = n := by
  simp only [IntKind.wrap, IntKind.bits, IntKind.signed, Bool.false_and]
  simp; omega
theorem w32 {n : Int} (h0 : 0 ≤ n) (h1 : n < 4294967296) : IntKind.u32.wrap n = n := by
  simp only [IntKind.wrap, IntKind.bits, IntKind.signed, Bool.false_and]
  simp; omega
theorem ne10 : ((1 : Nat) ≠ 0) = True := by simp
theorem bigSize (s : ByteArray) (h : s.size ≤ maxLen) : (s.size : Int) ≤ 9223372036854775807 := by
  have : maxLen = 9223372036854775807 := by decide
  omega
theorem n_alloc (h : AH) (o : AOb) : (h.alloc o).n = h.n + 1 := rfl
theorem n_set (h : AH) (i : Nat) (o : AOb) : (h.set i o).n = h.n := rfl
theorem all1 (v : Value) (e : one v = true) : #[v].all one 0 1 = true := by simp [e]
theorem bcase_mk {b : Bool} {X Y : Prop} (hx : b = true → X) (hy : b = false → Y) : bcase b X Y := ⟨hx, hy⟩
attribute [push_cast] ne10 Nat.zero_add Nat.add_zero List.length_set
end Go.Sim
