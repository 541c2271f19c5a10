/- Loops: what a round changes is told by the places that it writes. Conditions: those that each theorem names. -/
import Derived.Test.YtfbcedjheempfaaSimN
set_option linter.unusedVariables false
set_option linter.unusedSimpArgs false
namespace Go.Sim
variable {P : Program} {h : AH}

def setL (t : List Value) : List Nat → List Value → List Value
  | i :: V, x :: xs => setL (t.set i x) V xs
  | _, _ => t
def setF (t : List Value) (g : Nat → Value) : List Nat → List Value
  | i :: D => setF (t.set i (g i)) g D
  | [] => t
theorem setL_cons (t : List Value) (i : Nat) (V : List Nat) (x : Value) (xs : List Value) : setL t (i :: V) (x :: xs) = setL (t.set i x) V xs := rfl
theorem setL_nil (t : List Value) : setL t [] [] = t := rfl
theorem setF_cons (t : List Value) (g : Nat → Value) (i : Nat) (D : List Nat) : setF t g (i :: D) = setF (t.set i (g i)) g D := rfl
theorem setF_nil (t : List Value) (g : Nat → Value) : setF t g [] = t := rfl
theorem bcase_d {p : Prop} [Decidable p] {X Y : Prop} (hx : p → X) (hy : ¬ p → Y) : bcase (decide p) X Y := ⟨fun e => hx (of_decide_eq_true e), fun e => hy (of_decide_eq_false e)⟩
theorem and_keep {a b : Prop} (x : a) (y : b) : a ∧ b := ⟨x, y⟩
theorem onB_undef' (X : Bool → Prop) (Y : Prop) : onB undef X Y = Y := rfl
attribute [push_cast] onB_undef' setL_cons setL_nil setF_cons setF_nil cond_true cond_false Bool.not_true Bool.not_false Bool.false_and Bool.and_false Bool.true_or Bool.or_true Bool.false_or Bool.or_false decide_true decide_false Int.toNat_natCast

/-- A loop: 'V' are the places that it hands on from round to round, 'D' those that it writes besides. -/
theorem WC.loopA {α : Type} {c : Code} {Q : Exit → List Value → AH → Prop} {t : List Value} (hok : codeOK P.globals.size c = true) (V D : List Nat) (vals : α → List Value) (J : α → AH → Prop) (m : α → Nat) (a0 : α)
    (e0 : t = setF (setL t V (vals a0)) (fun j => t.getD j undef) D) (h0 : J a0 h)
    (round : ∀ a g h', J a h' → wpc P c (thn (fun t' h'' => ∃ b, t' = setF (setL t V (vals b)) (fun j => t'.getD j undef) D ∧ J b h'' ∧ m b < m a) Q) (setF (setL t V (vals a)) g D) h') : WC P (.loop c) Q t h := by
  intro FB w0 μ act w Q' s ht hd hq
  have key : ∀ (k : Nat) (a : α) (g : Nat → Value) (h : AH) (μ : Nat → Option Loc) (act : Act) (w : World), m a < k → J a h → Sim P FB w0 μ h w → LR μ (setF (setL t V (vals a)) g D) act.tmps.toList → act.defers = [] →
      (∀ ex t' h' μ' a' w', Q ex t' h' → Post P FB w0 μ h μ' h' w' → LR μ' t' a'.tmps.toList → a'.defers = [] → Q' ex a' w') → Code.rounds P c Q' k act w := by
    intro k
    induction k with
    | zero => intro a g h μ act w hk; omega
    | succ k ih =>
      intro a g h μ act w hk hj s ht hd hq
      rw [rounds_succ]
      refine wpc_sound hok (round a g h hj) FB w0 μ act w _ s ht hd (fun ex t1 h1 μ1 a1 w1 q1 p1 ht1 hd1 => ?_)
      cases ex with
      | normal =>
        obtain ⟨b, e1, j1, m1⟩ := q1
        rw [e1] at ht1
        exact ih b _ h1 μ1 a1 w1 (by omega) j1 p1.sim ht1 hd1 (fun ex t2 h2 μ2 a2 w2 q2 p2 ht2 hd2 => hq ex t2 h2 μ2 a2 w2 q2 (p1.trans p2) ht2 hd2)
      | _ => exact hq _ t1 h1 μ1 a1 w1 q1 p1 ht1 hd1
  exact wp_loop_rounds (m a0 + 1) (key (m a0 + 1) a0 _ h μ act w (by omega) h0 s (e0 ▸ ht) hd hq)
/-- All bytes of a text. -/
def allAt (s : ByteArray) (p : Int → Bool) : Bool := (List.range s.size).all fun i => p (byteAt s i).toNat
theorem allAt_iff {s : ByteArray} {p : Int → Bool} : allAt s p = true ↔ ∀ i, i < s.size → p (byteAt s i).toNat = true := by simp [allAt]
theorem allAt_false {s : ByteArray} {p : Int → Bool} {i : Nat} (hi : i < s.size) (e : p (byteAt s i).toNat = false) : allAt s p = false := by
  cases h : allAt s p with
  | false => rfl
  | true => have := allAt_iff.1 h i hi; rw [e] at this; cases this
theorem byte_lt (s : ByteArray) (i : Nat) : ((byteAt s i).toNat : Int) < 256 := by have := (byteAt s i).toNat_lt; omega
theorem wrapNat {n : Nat} (h : n ≤ 9223372036854775807) : IntKind.i64.wrap ((n : Nat) : Int) = (n : Nat) := w64 (by omega) (by omega)
theorem wrapSucc {n : Nat} (h : n < 9223372036854775807) : IntKind.i64.wrap ((n : Int) + 1) = ((n + 1 : Nat) : Int) := by rw [w64 (by omega) (by omega)]; rfl
theorem all2 (a0 a1 : Value) (e0 : one a0 = true) (e1 : one a1 = true) : #[a0, a1].all one 0 2 = true := by simp [e0, e1]
theorem all3 (a0 a1 a2 : Value) (e0 : one a0 = true) (e1 : one a1 = true) (e2 : one a2 = true) : #[a0, a1, a2].all one 0 3 = true := by simp [e0, e1, e2]
theorem all4 (a0 a1 a2 a3 : Value) (e0 : one a0 = true) (e1 : one a1 = true) (e2 : one a2 = true) (e3 : one a3 = true) : #[a0, a1, a2, a3].all one 0 4 = true := by simp [e0, e1, e2, e3]
theorem all5 (a0 a1 a2 a3 a4 : Value) (e0 : one a0 = true) (e1 : one a1 = true) (e2 : one a2 = true) (e3 : one a3 = true) (e4 : one a4 = true) : #[a0, a1, a2, a3, a4].all one 0 5 = true := by simp [e0, e1, e2, e3, e4]
theorem all6 (a0 a1 a2 a3 a4 a5 : Value) (e0 : one a0 = true) (e1 : one a1 = true) (e2 : one a2 = true) (e3 : one a3 = true) (e4 : one a4 = true) (e5 : one a5 = true) : #[a0, a1, a2, a3, a4, a5].all one 0 6 = true := by simp [e0, e1, e2, e3, e4, e5]
theorem all7 (a0 a1 a2 a3 a4 a5 a6 : Value) (e0 : one a0 = true) (e1 : one a1 = true) (e2 : one a2 = true) (e3 : one a3 = true) (e4 : one a4 = true) (e5 : one a5 = true) (e6 : one a6 = true) : #[a0, a1, a2, a3, a4, a5, a6].all one 0 7 = true := by simp [e0, e1, e2, e3, e4, e5, e6]
attribute [push_cast] all2 all3 all4 all5 all6 all7
theorem maxLen_eq : maxLen = 9223372036854775807 := by decide
end Go.Sim
