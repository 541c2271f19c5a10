/- Numbers in the walks. Conditions: those that each theorem names. -/
import Derived.Test.YtfbcedjheempfaaSimH
set_option linter.unusedVariables false
set_option linter.unusedSimpArgs false
namespace Go.Sim

theorem w64 {n : Int} (h0 : -9223372036854775808 ≤ n) (h1 : n ≤ 9223372036854775807) : IntKind.i64.wrap n = n := by
  rw [IntKind.wrap_i64]; omega
theorem w8 {n : Int} (h0 : 0 ≤ n) (h1 : n < 256) : IntKind.u8.wrap n = n := by
  simp only [IntKind.wrap, IntKind.bits, IntKind.signed, Bool.false_and]
  simp; omega
theorem w32 {n : Int} (h0 : 0 ≤ n) (h1 : n < 4294967296) : IntKind.u32.wrap n = n := by
  simp only [IntKind.wrap, IntKind.bits, IntKind.signed, Bool.false_and]
  simp; omega
theorem ne10 : ((1 : Nat) ≠ 0) = True := by simp
theorem bigSize (s : ByteArray) (h : s.size ≤ maxLen) : (s.size : Int) ≤ 9223372036854775807 := by
  have : maxLen = 9223372036854775807 := by decide
  omega
theorem n_alloc (h : AH) (o : AOb) : (h.alloc o).n = h.n + 1 := rfl
theorem n_set (h : AH) (i : Nat) (o : AOb) : (h.set i o).n = h.n := rfl
theorem all1 (v : Value) (e : one v = true) : #[v].all one 0 1 = true := by simp [e]
theorem bcase_mk {b : Bool} {X Y : Prop} (hx : b = true → X) (hy : b = false → Y) : bcase b X Y := ⟨hx, hy⟩
variable {P : Program} {h : AH}
theorem WC.loop' {c : Code} {Q : Exit → List Value → AH → Prop} {t : List Value} (hok : codeOK P.globals.size c = true) (I : List Value → AH → Prop) (m : List Value → AH → Nat) (h0 : I t h)
    (round : ∀ t h, I t h → wpc P c (thn (fun t' h' => I t' h' ∧ m t' h' < m t h) Q) t h) : WC P (.loop c) Q t h :=
  WC.loop hok I m h0 (fun t h i => by
    refine Eq.mp (congrArg (fun Q' => wpc P c Q' t h) ?_) (round t h i)
    funext ex t' h'
    cases ex <;> rfl)
theorem WC.draw' {id : Nat} {l : List Oper} {t : List Value} {Q : Exit → List Value → AH → Prop} (hm : P.follows .mixedOrders = true) (hok : codeOK P.globals.size (.region id l.toArray true) = true) (p : Plan)
    (hp : planOK l.toArray l.toArray.size p (Array.replicate l.toArray.size false) = true) (hw : walk P l (dsts l) p [] t h (Q .normal)) : WC P (.region id l.toArray true) Q t h :=
  WC.draw hm hok p hp hw
theorem toBytes_cons (n : Int) (r : List Value) : toBytes (.int .u8 n :: r) = (toBytes r).map (UInt8.ofNat n.toNat :: ·) := rfl
theorem toBytes_nil : toBytes [] = some [] := rfl
attribute [push_cast] toBytes_cons toBytes_nil if_true ne10 Nat.zero_add Nat.add_zero List.length_set
end Go.Sim
