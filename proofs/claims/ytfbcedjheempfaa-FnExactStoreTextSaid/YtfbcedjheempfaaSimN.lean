/- Temporaries ten by ten: a walk finds them in fewer steps. Conditions: none. -/
import Derived.Test.YtfbcedjheempfaaSimJ
set_option linter.unusedVariables false
set_option linter.unusedSimpArgs false
namespace Go.Sim
variable {P : Program} {h : AH}
/-- Ten values and what stands behind them. -/
def N10 (a0 a1 a2 a3 a4 a5 a6 a7 a8 a9 : Value) (r : List Value) : List Value := a0 :: a1 :: a2 :: a3 :: a4 :: a5 :: a6 :: a7 :: a8 :: a9 :: r
theorem n10_getD {a0 a1 a2 a3 a4 a5 a6 a7 a8 a9 : Value} {r : List Value} (i : Nat) : (N10 a0 a1 a2 a3 a4 a5 a6 a7 a8 a9 r).getD (i + 10) undef = r.getD i undef := rfl
theorem n10_set {a0 a1 a2 a3 a4 a5 a6 a7 a8 a9 : Value} {r : List Value} (i : Nat) (v : Value) : (N10 a0 a1 a2 a3 a4 a5 a6 a7 a8 a9 r).set (i + 10) v = N10 a0 a1 a2 a3 a4 a5 a6 a7 a8 a9 (r.set i v) := rfl
theorem n10_getD0 {a0 a1 a2 a3 a4 a5 a6 a7 a8 a9 : Value} {r : List Value} : (N10 a0 a1 a2 a3 a4 a5 a6 a7 a8 a9 r).getD 0 undef = a0 := rfl
theorem n10_set0 {a0 a1 a2 a3 a4 a5 a6 a7 a8 a9 : Value} {r : List Value} (v : Value) : (N10 a0 a1 a2 a3 a4 a5 a6 a7 a8 a9 r).set 0 v = N10 v a1 a2 a3 a4 a5 a6 a7 a8 a9 r := rfl
theorem n10_getD1 {a0 a1 a2 a3 a4 a5 a6 a7 a8 a9 : Value} {r : List Value} : (N10 a0 a1 a2 a3 a4 a5 a6 a7 a8 a9 r).getD 1 undef = a1 := rfl
theorem n10_set1 {a0 a1 a2 a3 a4 a5 a6 a7 a8 a9 : Value} {r : List Value} (v : Value) : (N10 a0 a1 a2 a3 a4 a5 a6 a7 a8 a9 r).set 1 v = N10 a0 v a2 a3 a4 a5 a6 a7 a8 a9 r := rfl
theorem n10_getD2 {a0 a1 a2 a3 a4 a5 a6 a7 a8 a9 : Value} {r : List Value} : (N10 a0 a1 a2 a3 a4 a5 a6 a7 a8 a9 r).getD 2 undef = a2 := rfl
theorem n10_set2 {a0 a1 a2 a3 a4 a5 a6 a7 a8 a9 : Value} {r : List Value} (v : Value) : (N10 a0 a1 a2 a3 a4 a5 a6 a7 a8 a9 r).set 2 v = N10 a0 a1 v a3 a4 a5 a6 a7 a8 a9 r := rfl
theorem n10_getD3 {a0 a1 a2 a3 a4 a5 a6 a7 a8 a9 : Value} {r : List Value} : (N10 a0 a1 a2 a3 a4 a5 a6 a7 a8 a9 r).getD 3 undef = a3 := rfl
theorem n10_set3 {a0 a1 a2 a3 a4 a5 a6 a7 a8 a9 : Value} {r : List Value} (v : Value) : (N10 a0 a1 a2 a3 a4 a5 a6 a7 a8 a9 r).set 3 v = N10 a0 a1 a2 v a4 a5 a6 a7 a8 a9 r := rfl
theorem n10_getD4 {a0 a1 a2 a3 a4 a5 a6 a7 a8 a9 : Value} {r : List Value} : (N10 a0 a1 a2 a3 a4 a5 a6 a7 a8 a9 r).getD 4 undef = a4 := rfl
theorem n10_set4 {a0 a1 a2 a3 a4 a5 a6 a7 a8 a9 : Value} {r : List Value} (v : Value) : (N10 a0 a1 a2 a3 a4 a5 a6 a7 a8 a9 r).set 4 v = N10 a0 a1 a2 a3 v a5 a6 a7 a8 a9 r := rfl
theorem n10_getD5 {a0 a1 a2 a3 a4 a5 a6 a7 a8 a9 : Value} {r : List Value} : (N10 a0 a1 a2 a3 a4 a5 a6 a7 a8 a9 r).getD 5 undef = a5 := rfl
theorem n10_set5 {a0 a1 a2 a3 a4 a5 a6 a7 a8 a9 : Value} {r : List Value} (v : Value) : (N10 a0 a1 a2 a3 a4 a5 a6 a7 a8 a9 r).set 5 v = N10 a0 a1 a2 a3 a4 v a6 a7 a8 a9 r := rfl
theorem n10_getD6 {a0 a1 a2 a3 a4 a5 a6 a7 a8 a9 : Value} {r : List Value} : (N10 a0 a1 a2 a3 a4 a5 a6 a7 a8 a9 r).getD 6 undef = a6 := rfl
theorem n10_set6 {a0 a1 a2 a3 a4 a5 a6 a7 a8 a9 : Value} {r : List Value} (v : Value) : (N10 a0 a1 a2 a3 a4 a5 a6 a7 a8 a9 r).set 6 v = N10 a0 a1 a2 a3 a4 a5 v a7 a8 a9 r := rfl
theorem n10_getD7 {a0 a1 a2 a3 a4 a5 a6 a7 a8 a9 : Value} {r : List Value} : (N10 a0 a1 a2 a3 a4 a5 a6 a7 a8 a9 r).getD 7 undef = a7 := rfl
theorem n10_set7 {a0 a1 a2 a3 a4 a5 a6 a7 a8 a9 : Value} {r : List Value} (v : Value) : (N10 a0 a1 a2 a3 a4 a5 a6 a7 a8 a9 r).set 7 v = N10 a0 a1 a2 a3 a4 a5 a6 v a8 a9 r := rfl
theorem n10_getD8 {a0 a1 a2 a3 a4 a5 a6 a7 a8 a9 : Value} {r : List Value} : (N10 a0 a1 a2 a3 a4 a5 a6 a7 a8 a9 r).getD 8 undef = a8 := rfl
theorem n10_set8 {a0 a1 a2 a3 a4 a5 a6 a7 a8 a9 : Value} {r : List Value} (v : Value) : (N10 a0 a1 a2 a3 a4 a5 a6 a7 a8 a9 r).set 8 v = N10 a0 a1 a2 a3 a4 a5 a6 a7 v a9 r := rfl
theorem n10_getD9 {a0 a1 a2 a3 a4 a5 a6 a7 a8 a9 : Value} {r : List Value} : (N10 a0 a1 a2 a3 a4 a5 a6 a7 a8 a9 r).getD 9 undef = a9 := rfl
theorem n10_set9 {a0 a1 a2 a3 a4 a5 a6 a7 a8 a9 : Value} {r : List Value} (v : Value) : (N10 a0 a1 a2 a3 a4 a5 a6 a7 a8 a9 r).set 9 v = N10 a0 a1 a2 a3 a4 a5 a6 a7 a8 v r := rfl
def toN : List Value → List Value
  | a0 :: a1 :: a2 :: a3 :: a4 :: a5 :: a6 :: a7 :: a8 :: a9 :: r => N10 a0 a1 a2 a3 a4 a5 a6 a7 a8 a9 (toN r)
  | l => l
theorem toN_eq : ∀ l : List Value, toN l = l
  | a0 :: a1 :: a2 :: a3 :: a4 :: a5 :: a6 :: a7 :: a8 :: a9 :: r => by show N10 a0 a1 a2 a3 a4 a5 a6 a7 a8 a9 (toN r) = _; rw [toN_eq r]; rfl
  | [] => rfl
  | [a0] => rfl
  | [a0, a1] => rfl
  | [a0, a1, a2] => rfl
  | [a0, a1, a2, a3] => rfl
  | [a0, a1, a2, a3, a4] => rfl
  | [a0, a1, a2, a3, a4, a5] => rfl
  | [a0, a1, a2, a3, a4, a5, a6] => rfl
  | [a0, a1, a2, a3, a4, a5, a6, a7] => rfl
  | [a0, a1, a2, a3, a4, a5, a6, a7, a8] => rfl
theorem toN_ten {a0 a1 a2 a3 a4 a5 a6 a7 a8 a9 : Value} {r : List Value} : toN (a0 :: a1 :: a2 :: a3 :: a4 :: a5 :: a6 :: a7 :: a8 :: a9 :: r) = N10 a0 a1 a2 a3 a4 a5 a6 a7 a8 a9 (toN r) := rfl
theorem toN_0  : toN [] = [] := rfl
theorem toN_1 {a0 : Value} : toN [a0] = [a0] := rfl
theorem toN_2 {a0 a1 : Value} : toN [a0, a1] = [a0, a1] := rfl
theorem toN_3 {a0 a1 a2 : Value} : toN [a0, a1, a2] = [a0, a1, a2] := rfl
theorem toN_4 {a0 a1 a2 a3 : Value} : toN [a0, a1, a2, a3] = [a0, a1, a2, a3] := rfl
theorem toN_5 {a0 a1 a2 a3 a4 : Value} : toN [a0, a1, a2, a3, a4] = [a0, a1, a2, a3, a4] := rfl
theorem toN_6 {a0 a1 a2 a3 a4 a5 : Value} : toN [a0, a1, a2, a3, a4, a5] = [a0, a1, a2, a3, a4, a5] := rfl
theorem toN_7 {a0 a1 a2 a3 a4 a5 a6 : Value} : toN [a0, a1, a2, a3, a4, a5, a6] = [a0, a1, a2, a3, a4, a5, a6] := rfl
theorem toN_8 {a0 a1 a2 a3 a4 a5 a6 a7 : Value} : toN [a0, a1, a2, a3, a4, a5, a6, a7] = [a0, a1, a2, a3, a4, a5, a6, a7] := rfl
theorem toN_9 {a0 a1 a2 a3 a4 a5 a6 a7 a8 : Value} : toN [a0, a1, a2, a3, a4, a5, a6, a7, a8] = [a0, a1, a2, a3, a4, a5, a6, a7, a8] := rfl
theorem CC.ofN {f : FuncId} {fn : Func} {c : Code} {args : List Value} {R : Value → AH → Prop} {n : Nat} {rs : Array ResultVar} (hf : P.funcs[f]? = some fn) (hn : fn.ntmps = n) (hr : fn.results = rs) (hb : fn.body = some c)
    (hnm : fn.name ≠ "runtime.NumGoroutine") (hok : codeOK P.globals.size c = true) (hw : wpc P c (bodyQ P rs.toList R) (toN (args ++ List.replicate (n - args.length) undef)) h) : CC P f args h R :=
  CC.of' hf hn hr hb hnm hok (by rw [toN_eq] at hw; exact hw)
theorem CE.ofN {f : FuncId} {fn : Func} {c : Code} {args : List Value} {R : Value → AH → Prop} {n : Nat} {rs : Array ResultVar} (hf : P.funcs[f]? = some fn) (hn : fn.ntmps = n) (hr : fn.results = rs) (hb : fn.body = some c)
    (hok : codeOK P.globals.size c = true) (hw : wpc P c (bodyQ P rs.toList R) (toN (args ++ List.replicate (n - args.length) undef)) h) : CE P f args h R :=
  CE.of' hf hn hr hb hok (by rw [toN_eq] at hw; exact hw)
attribute [push_cast] n10_getD n10_set n10_getD0 n10_set0 n10_getD1 n10_set1 n10_getD2 n10_set2 n10_getD3 n10_set3 n10_getD4 n10_set4 n10_getD5 n10_set5 n10_getD6 n10_set6 n10_getD7 n10_set7 n10_getD8 n10_set8 n10_getD9 n10_set9 toN_ten toN_0 toN_1 toN_2 toN_3 toN_4 toN_5 toN_6 toN_7 toN_8 toN_9
end Go.Sim
