/- How the walk of a region that draws its order is reckoned: rewriting rules. Conditions: none. -/
import Derived.Test.YtfbcedjheempfaaSimF
set_option linter.unusedVariables false
set_option linter.unusedSimpArgs false
namespace Go.Sim
variable {P : Program} {h : AH}

@[congr] theorem walk_congr {tk : Prop} (_ : tick = tk) {l : List Oper} {ds : List (Option Tmp)} {p : Plan} {S S2 : List (Nat × Nat)} {t t2 : List Value} {h h2 : AH} {K : List Value → AH → Prop} (eS : S = S2) (et : t = t2) (eh : h = h2) : walk P l ds p S t h K = walk P l ds p S2 t2 h2 K := by subst eS; subst et; subst eh; rfl
@[congr] theorem opAt_congr {tk : Prop} (_ : tick = tk) {l : List Oper} {i i2 : Nat} {K : Oper → Prop} (ei : i = i2) : opAt l i K = opAt l i2 K := by subst ei; rfl
theorem opAt_zero (o : Oper) (r : List Oper) (K : Oper → Prop) : opAt (o :: r) 0 K = K o := rfl
theorem opAt_succ (o : Oper) (r : List Oper) (i : Nat) (K : Oper → Prop) : opAt (o :: r) (i + 1) K = opAt r i K := rfl
theorem walk_done (l : List Oper) (ds : List (Option Tmp)) (S : List (Nat × Nat)) (t : List Value) (K : List Value → AH → Prop) : walk P l ds .done S t h K = K t h := rfl
/-- A step that was taken first. -/
def qstep (P : Program) (ds : List (Option Tmp)) (S : List (Nat × Nat)) (t : List Value) (h : AH) (i : Nat) (X : List (Nat × Nat) → List Value → AH → Prop) (o : Oper) : Prop :=
  qkind o.op = true ∧ qval (aev t) o.op ∧ aops P ds [o] t h fun t' h' => X (watch i o.op (aev t) S) t' h'
@[congr] theorem qstep_congr {tk : Prop} (_ : tick = tk) {ds : List (Option Tmp)} {S S2 : List (Nat × Nat)} {t t2 : List Value} {h h2 : AH} {i i2 : Nat} {X : List (Nat × Nat) → List Value → AH → Prop} {o : Oper} (eS : S = S2) (et : t = t2) (eh : h = h2) (ei : i = i2) : qstep P ds S t h i X o = qstep P ds S2 t2 h2 i2 X o := by subst eS; subst et; subst eh; subst ei; rfl
theorem walk_q (l : List Oper) (ds : List (Option Tmp)) (i : Nat) (p : Plan) (S : List (Nat × Nat)) (t : List Value) (K : List Value → AH → Prop) :
    walk P l ds (.q i p) S t h K = opAt l i (qstep P ds S t h i fun S' t' h' => walk P l ds p S' t' h' K) := rfl
theorem walk_last (l : List Oper) (ds : List (Option Tmp)) (i : Nat) (p : Plan) (S : List (Nat × Nat)) (t : List Value) (K : List Value → AH → Prop) :
    walk P l ds (.a i true p) S t h K = opAt l i fun o => aops P ds [o] t h fun t' h' => walk P l ds p S t' h' K := by
  simp only [walk, if_true, true_and]
/-- What stays, then more. -/
def kp (S : List (Nat × Nat)) (h h' : AH) (X : Prop) : Prop := allKept S h h' ∧ X
@[congr] theorem kp_congr {tk : Prop} (_ : tick = tk) {S S2 : List (Nat × Nat)} {h h2 : AH} {h' h'2 : AH} {X : Prop} (eS : S = S2) (eh : h = h2) (eh' : h' = h'2) : kp S h h' X = kp S2 h2 h'2 X := by subst eS; subst eh; subst eh'; rfl
theorem kp_nil (h' : AH) (X : Prop) : kp [] h h' X = X := by simp [kp, allKept]
theorem kp_cons (p : Nat × Nat) (S : List (Nat × Nat)) (h' : AH) (X : Prop) : kp (p :: S) h h' X = (h'.ob p.2 = h.ob p.2 ∧ kp S h h' X) := by simp [kp, allKept, and_assoc]
theorem walk_a (l : List Oper) (ds : List (Option Tmp)) (i : Nat) (p : Plan) (S : List (Nat × Nat)) (t : List Value) (K : List Value → AH → Prop) :
    walk P l ds (.a i false p) S t h K = opAt l i fun o => aops P ds [o] t h fun t' h' => kp S h h' (walk P l ds p S t' h' K) := by
  simp [walk, kp]
theorem walk_b (l : List Oper) (ds : List (Option Tmp)) (i j : Nat) (p p' : Plan) (S : List (Nat × Nat)) (t : List Value) (K : List Value → AH → Prop) :
    walk P l ds (.b i p j p') S t h K = (opAt l i (fun o => aops P ds [o] t h fun t' h' => kp S h h' (walk P l ds p S t' h' K)) ∧ opAt l j fun o => aops P ds [o] t h fun t' h' => kp S h h' (walk P l ds p' S t' h' K)) := rfl

theorem walk_c (l : List Oper) (ds : List (Option Tmp)) (i : Nat) (p : Plan) (S : List (Nat × Nat)) (t : List Value) (K : List Value → AH → Prop) :
    walk P l ds (.c i p) S t h K = opAt l i fun o => cstep P ds o t h fun t' v ids => walk P l ds p (watchAll i ids S) (put t' o.dst v) h K := rfl
/-- Where the function is known. -/
def cfn (P : Program) (f : Value) (args : List Value) (h : AH) (X : Value → List Nat → Prop) : Prop := match f with | .func (.func fid) first captured => CQ P fid (first.toList ++ args ++ captured.toList) h X | _ => False
@[congr] theorem cfn_congr {tk : Prop} (_ : tick = tk) {f f2 : Value} {l l2 : List Value} {h h2 : AH} {X : Value → List Nat → Prop} (ef : f = f2) (el : l = l2) (eh : h = h2) : cfn P f l h X = cfn P f2 l2 h2 X := by subst ef; subst el; subst eh; rfl
theorem cfn_func (fid : FuncId) (a b : Array Value) (args : List Value) (X : Value → List Nat → Prop) : cfn P (.func (.func fid) a b) args h X = CQ P fid (a.toList ++ args ++ b.toList) h X := rfl
theorem cstep_none (ds : List (Option Tmp)) (t : List Value) (X : List Value → Value → List Nat → Prop) (d : Option Tmp) (f : Operand) (args : Array Operand) (ts : Array TypeId) (ty : TypeId) (pos : String) (af : Array Edge) :
    cstep P ds ⟨d, .call { callee := .value f, args := args, argTypes := ts }, ty, pos, af, none⟩ t h X = cfn P (aev t f) (args.toList.map (aev t)) h (X t) := rfl
theorem cstep_some (ds : List (Option Tmp)) (t : List Value) (X : List Value → Value → List Nat → Prop) (d : Option Tmp) (f : Operand) (args : Array Operand) (ts : Array TypeId) (ty : TypeId) (pos : String) (af : Array Edge) (j : Nat) (want : Bool) :
    cstep P ds ⟨d, .call { callee := .value f, args := args, argTypes := ts }, ty, pos, af, some (j, want)⟩ t h X = ag (gd ds j) want t (fun t' => cfn P (aev t' f) (args.toList.map (aev t')) h (X t')) (fun t' => X t' undef []) := rfl
@[congr] theorem cstep_congr {tk : Prop} (_ : tick = tk) {ds : List (Option Tmp)} {o : Oper} {t t2 : List Value} {h h2 : AH} {X : List Value → Value → List Nat → Prop} (et : t = t2) (eh : h = h2) : cstep P ds o t h X = cstep P ds o t2 h2 X := by subst et; subst eh; rfl
theorem watchAll_nil (i : Nat) (S : List (Nat × Nat)) : watchAll i [] S = S := rfl
theorem watchAll_cons (i id : Nat) (r : List Nat) (S : List (Nat × Nat)) : watchAll i (id :: r) S = (i, id) :: watchAll i r S := rfl
attribute [push_cast] walk_c cfn_func cstep_none cstep_some watchAll_nil watchAll_cons
/-- By the kind of operation: what is watched besides. -/
def wt (i : Nat) (v : Value) (S : List (Nat × Nat)) : List (Nat × Nat) := match v with | .pointer (some a) => (i, a.block) :: S | _ => S
theorem wt_ptr (i b off : Nat) (fo : Option Nat) (S : List (Nat × Nat)) : wt i (.pointer (some ⟨b, off, fo⟩)) S = (i, b) :: S := rfl
section
variable {ds : List (Option Tmp)} {S : List (Nat × Nat)} {t : List Value} {i : Nat} {X : List (Nat × Nat) → List Value → AH → Prop} {d : Option Tmp} {ty : TypeId} {pos : String} {af : Array Edge} {g : Option (Nat × Bool)}
theorem qstep_of (op : Op) (hq : qkind op = true) (hv : qval (aev t) op = True) (S' : List (Nat × Nat)) (hw : watch i op (aev t) S = S') : qstep P ds S t h i X ⟨d, op, ty, pos, af, g⟩ = aops P ds [⟨d, op, ty, pos, af, g⟩] t h fun t' h' => X S' t' h' := by
  subst hw; unfold qstep; simp [hq, hv]
theorem qs_move (x : Operand) : qstep P ds S t h i X ⟨d, .move x, ty, pos, af, g⟩ = aops P ds [⟨d, .move x, ty, pos, af, g⟩] t h fun t' h' => X S t' h' := qstep_of _ rfl rfl _ rfl
theorem qs_assign (x : Operand) : qstep P ds S t h i X ⟨d, .assign x, ty, pos, af, g⟩ = aops P ds [⟨d, .assign x, ty, pos, af, g⟩] t h fun t' h' => X S t' h' := qstep_of _ rfl rfl _ rfl
theorem qs_pick (c a b : Operand) : qstep P ds S t h i X ⟨d, .pick c a b, ty, pos, af, g⟩ = aops P ds [⟨d, .pick c a b, ty, pos, af, g⟩] t h fun t' h' => X S t' h' := qstep_of _ rfl rfl _ rfl
theorem qs_nil (x : Operand) : qstep P ds S t h i X ⟨d, .nilCheck x, ty, pos, af, g⟩ = aops P ds [⟨d, .nilCheck x, ty, pos, af, g⟩] t h fun t' h' => X S t' h' := qstep_of _ rfl rfl _ rfl
theorem qs_bin (op : BinOp) (u : TypeId) (x y : Operand) (u' : TypeId) : qstep P ds S t h i X ⟨d, .binOp op u x y u', ty, pos, af, g⟩ = aops P ds [⟨d, .binOp op u x y u', ty, pos, af, g⟩] t h fun t' h' => X S t' h' := qstep_of _ rfl rfl _ rfl
theorem qs_un (op : UnOp) (u : TypeId) (x : Operand) : qstep P ds S t h i X ⟨d, .unOp op u x, ty, pos, af, g⟩ = aops P ds [⟨d, .unOp op u x, ty, pos, af, g⟩] t h fun t' h' => X S t' h' := qstep_of _ rfl rfl _ rfl
theorem qs_fieldAddr (u : TypeId) (x : Operand) (f : Nat) : qstep P ds S t h i X ⟨d, .fieldAddr u x f, ty, pos, af, g⟩ = aops P ds [⟨d, .fieldAddr u x f, ty, pos, af, g⟩] t h fun t' h' => X S t' h' := qstep_of _ rfl rfl _ rfl
theorem qs_field (u : TypeId) (x : Operand) (f : Nat) : qstep P ds S t h i X ⟨d, .field u x f, ty, pos, af, g⟩ = aops P ds [⟨d, .field u x f, ty, pos, af, g⟩] t h fun t' h' => X S t' h' := qstep_of _ rfl rfl _ rfl
theorem qs_indexAddr (u : TypeId) (x y : Operand) : qstep P ds S t h i X ⟨d, .indexAddr u x y, ty, pos, af, g⟩ = aops P ds [⟨d, .indexAddr u x y, ty, pos, af, g⟩] t h fun t' h' => X S t' h' := qstep_of _ rfl rfl _ rfl
theorem qs_index (u : TypeId) (x y : Operand) : qstep P ds S t h i X ⟨d, .index u x y, ty, pos, af, g⟩ = aops P ds [⟨d, .index u x y, ty, pos, af, g⟩] t h fun t' h' => X S t' h' := qstep_of _ rfl rfl _ rfl
theorem qs_extract (x : Operand) (k : Nat) : qstep P ds S t h i X ⟨d, .extract x k, ty, pos, af, g⟩ = aops P ds [⟨d, .extract x k, ty, pos, af, g⟩] t h fun t' h' => X S t' h' := qstep_of _ rfl rfl _ rfl
theorem qs_slice (u : TypeId) (x : Operand) (lo hi mx : Option Operand) : qstep P ds S t h i X ⟨d, .slice u x lo hi mx, ty, pos, af, g⟩ = aops P ds [⟨d, .slice u x lo hi mx, ty, pos, af, g⟩] t h fun t' h' => X S t' h' := qstep_of _ rfl rfl _ rfl
theorem qs_build (u : TypeId) (ps : Array (Nat × Operand)) : qstep P ds S t h i X ⟨d, .build u ps, ty, pos, af, g⟩ = aops P ds [⟨d, .build u ps, ty, pos, af, g⟩] t h fun t' h' => X S t' h' := qstep_of _ rfl rfl _ rfl
theorem qs_makeFunc (fn : Fn) (f c : Array Operand) : qstep P ds S t h i X ⟨d, .makeFunc fn f c, ty, pos, af, g⟩ = aops P ds [⟨d, .makeFunc fn f c, ty, pos, af, g⟩] t h fun t' h' => X S t' h' := qstep_of _ rfl rfl _ rfl
theorem qs_load (u : TypeId) (x : Operand) : qstep P ds S t h i X ⟨d, .load u x, ty, pos, af, g⟩ = aops P ds [⟨d, .load u x, ty, pos, af, g⟩] t h fun t' h' => X (wt i (aev t x) S) t' h' := by
  refine qstep_of _ rfl rfl _ ?_
  simp only [watch, qid, wt]
  split <;> rename_i e <;> split at e <;> simp_all
/-- What a length watches. -/
def wtm (i : Nat) (v : Value) (S : List (Nat × Nat)) : List (Nat × Nat) := match v with | .map (some r) => (i, r) :: S | _ => S
theorem wtm_str (i : Nat) (s : ByteArray) (S : List (Nat × Nat)) : wtm i (.string s) S = S := rfl
theorem wtm_sl (i : Nat) (A : Option Addr) (n k : Nat) (S : List (Nat × Nat)) : wtm i (.slice A n k) S = S := rfl
theorem wtm_map (i r : Nat) (S : List (Nat × Nat)) : wtm i (.map (some r)) S = (i, r) :: S := rfl
theorem qs_len (x : Operand) (ts : Array TypeId) : qstep P ds S t h i X ⟨d, .call { callee := .builtin .len, args := #[x], argTypes := ts }, ty, pos, af, g⟩ =
    aops P ds [⟨d, .call { callee := .builtin .len, args := #[x], argTypes := ts }, ty, pos, af, g⟩] t h fun t' h' => X (wtm i (aev t x) S) t' h' := by
  refine qstep_of _ rfl rfl _ ?_
  simp only [watch, qid, wtm]
  simp only [List.map_cons, List.map_nil]
  generalize aev t x = v
  cases v <;> first | rfl | (rename_i o; cases o <;> rfl)
/-- What a turning of types watches. -/
def wtc (i : Nat) (v : Value) (S : List (Nat × Nat)) : List (Nat × Nat) := match v with | .slice (some a) _ _ => (i, a.block) :: S | _ => S
theorem wtc_int (i : Nat) (k : IntKind) (n : Int) (S : List (Nat × Nat)) : wtc i (.int k n) S = S := rfl
theorem wtc_sl (i b off n k : Nat) (fo : Option Nat) (S : List (Nat × Nat)) : wtc i (.slice (some ⟨b, off, fo⟩) n k) S = (i, b) :: S := rfl
theorem qs_convert (u v : TypeId) (x : Operand) : qstep P ds S t h i X ⟨d, .convert u v x, ty, pos, af, g⟩ = (qval (aev t) (.convert u v x) ∧ aops P ds [⟨d, .convert u v x, ty, pos, af, g⟩] t h fun t' h' => X (wtc i (aev t x) S) t' h') := by
  have e : watch i (.convert u v x) (aev t) S = wtc i (aev t x) S := by
    simp only [watch, qid, wtc]
    split <;> rename_i e <;> split at e <;> simp_all
  unfold qstep; rw [e]; simp [qkind]
/-- An int or a slice. -/
def isI (v : Value) : Prop := match v with | .int _ _ => True | .slice _ _ _ => True | _ => False
theorem qval_convert (u v : TypeId) (x : Operand) : qval (aev t) (.convert u v x) = isI (aev t x) := rfl
theorem isI_int (k : IntKind) (n : Int) : isI (.int k n) = True := rfl
theorem isI_sl (a : Option Addr) (n k : Nat) : isI (.slice a n k) = True := rfl
end
attribute [push_cast] opAt_zero opAt_succ walk_done walk_q walk_last walk_a walk_b kp_nil kp_cons wt_ptr qs_move qs_assign qs_pick qs_nil qs_bin qs_un qs_fieldAddr qs_field qs_indexAddr qs_index qs_extract qs_slice qs_build qs_makeFunc qs_load qs_convert qs_len wtm_str wtm_sl wtm_map qval_convert isI_int isI_sl wtc_int wtc_sl

end Go.Sim
