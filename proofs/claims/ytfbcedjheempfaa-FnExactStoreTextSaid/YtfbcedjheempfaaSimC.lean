/- How the walk is reckoned: rewriting rules, and what is not to be looked into before its turn. Conditions: none. -/
import Derived.Test.YtfbcedjheempfaaSimB
set_option linter.unusedVariables false
set_option linter.unusedSimpArgs false
namespace Go.Sim
variable {P : Program} {h : AH}

/-! ### what is not to be looked into -/
/-- A rewriting that always takes place: it holds the rules below awake. -/
def tick : Prop := True
theorem tick_eq : tick = True := propext ⟨fun _ => trivial, fun _ => trivial⟩
@[congr] theorem wpc_congr {tk : Prop} (_ : tick = tk) {c : Code} {Q : Exit → List Value → AH → Prop} {t t2 : List Value} {h h2 : AH} (et : t = t2) (eh : h = h2) : wpc P c Q t h = wpc P c Q t2 h2 := by subst et; subst eh; rfl
@[congr] theorem WC_congr {tk : Prop} (_ : tick = tk) {c : Code} {Q : Exit → List Value → AH → Prop} {t t2 : List Value} {h h2 : AH} (et : t = t2) (eh : h = h2) : WC P c Q t h = WC P c Q t2 h2 := by subst et; subst eh; rfl
@[congr] theorem CC_congr {tk : Prop} (_ : tick = tk) {f f2 : FuncId} {l l2 : List Value} {h h2 : AH} {R : Value → AH → Prop} (ef : f = f2) (el : l = l2) (eh : h = h2) : CC P f l h R = CC P f2 l2 h2 R := by subst ef; subst el; subst eh; rfl
@[congr] theorem aops_congr {tk : Prop} (_ : tick = tk) {ds : List (Option Tmp)} {l : List Oper} {t t2 : List Value} {h h2 : AH} {K : List Value → AH → Prop} (et : t = t2) (eh : h = h2) : aops P ds l t h K = aops P ds l t2 h2 K := by subst et; subst eh; rfl
@[congr] theorem aop_congr {tk : Prop} (_ : tick = tk) {o : Op} {ρ ρ2 : Operand → Value} {h h2 : AH} {K : Value → AH → Prop} (eρ : ρ = ρ2) (eh : h = h2) : aop P o ρ h K = aop P o ρ2 h2 K := by subst eρ; subst eh; rfl
@[congr] theorem bcase_congr {tk : Prop} (_ : tick = tk) {b b2 : Bool} {X : Prop} {Y : Prop} (eb : b = b2) : bcase b X Y = bcase b2 X Y := by subst eb; rfl
@[congr] theorem bodyQ_congr {tk : Prop} (_ : tick = tk) {rs rs2 : List ResultVar} {R : Value → AH → Prop} {ex ex2 : Exit} {t t2 : List Value} {h h2 : AH} (ers : rs = rs2) (eex : ex = ex2) (et : t = t2) (eh : h = h2) : bodyQ P rs R ex t h = bodyQ P rs2 R ex2 t2 h2 := by subst ers; subst eex; subst et; subst eh; rfl

/-- Go on, where there is a value. -/
def onS {α : Type} (o : Option α) (X : α → Prop) : Prop := match o with | some a => X a | none => False
theorem onS_some {α : Type} (a : α) (X : α → Prop) : onS (some a) X = X a := rfl
@[congr] theorem onS_congr {tk : Prop} (_ : tick = tk) {α : Type} {o o2 : Option α} {X : α → Prop} (eo : o = o2) : onS o X = onS o2 X := by subst eo; rfl
/-- By a value that is a bool. -/
def onB (v : Value) (X : Bool → Prop) (Y : Prop) : Prop := match v with | .bool b => X b | _ => Y
theorem onB_bool (b : Bool) (X : Bool → Prop) (Y : Prop) : onB (.bool b) X Y = X b := rfl
theorem onB_undef (X : Bool → Prop) (Y : Prop) : onB (.tuple #[]) X Y = Y := rfl
@[congr] theorem onB_congr {tk : Prop} (_ : tick = tk) {v v2 : Value} {X : Bool → Prop} {Y : Prop} (ev : v = v2) : onB v X Y = onB v2 X Y := by subst ev; rfl
/-- By one or the other. -/
def pick2 (b : Bool) (x y : Value) : Value := if b then x else y
theorem pick2_true (x y : Value) : pick2 true x y = x := rfl
theorem pick2_false (x y : Value) : pick2 false x y = y := rfl
theorem pick2_bool (b : Bool) (x y : Bool) : pick2 b (.bool x) (.bool y) = .bool (bif b then x else y) := by cases b <;> rfl
/-- A step whose guard stands at this place. -/
def ag (g : Option Tmp) (want : Bool) (t : List Value) (X Y : List Value → Prop) : Prop :=
  match g with
  | some d => onB (t.getD d undef) (fun b => if want then bcase b (X (t.set d (.bool true))) (Y (t.set d (.bool false))) else bcase b (Y (t.set d (.bool true))) (X (t.set d (.bool false)))) (Y t)
  | none => Y t
theorem ag_yes (d : Tmp) (t : List Value) (X Y : List Value → Prop) : ag (some d) true t X Y = onB (t.getD d undef) (fun b => bcase b (X (t.set d (.bool true))) (Y (t.set d (.bool false)))) (Y t) := rfl
theorem ag_no (d : Tmp) (t : List Value) (X Y : List Value → Prop) : ag (some d) false t X Y = onB (t.getD d undef) (fun b => bcase b (Y (t.set d (.bool true))) (X (t.set d (.bool false)))) (Y t) := rfl
@[congr] theorem ag_congr {tk : Prop} (_ : tick = tk) {g g2 : Option Tmp} {want want2 : Bool} {t t2 : List Value} {X : List Value → Prop} {Y : List Value → Prop} (eg : g = g2) (ewant : want = want2) (et : t = t2) : ag g want t X Y = ag g2 want2 t2 X Y := by subst eg; subst ewant; subst et; rfl

/-! ### code -/
/-- The places of operations. -/
def dsts (l : List Oper) : List (Option Tmp) := l.map (·.dst)
theorem gd_succ (o : Oper) (r : List Oper) (i : Nat) : gd (dsts (o :: r)) (i + 1) = gd (dsts r) i := rfl
theorem gd_zero (d : Option Tmp) (op : Op) (ty : TypeId) (pos : String) (af : Array Edge) (g : Option (Nat × Bool)) (r : List Oper) : gd (dsts (⟨d, op, ty, pos, af, g⟩ :: r)) 0 = d := rfl
def thn (K : List Value → AH → Prop) (Q : Exit → List Value → AH → Prop) : Exit → List Value → AH → Prop
  | .normal, t, h => K t h
  | ex, t, h => Q ex t h
theorem thn_normal (K : List Value → AH → Prop) (Q : Exit → List Value → AH → Prop) (t : List Value) (h : AH) : thn K Q .normal t h = K t h := rfl
theorem thn_ret (K : List Value → AH → Prop) (Q : Exit → List Value → AH → Prop) (t : List Value) (h : AH) : thn K Q .ret t h = Q .ret t h := rfl
theorem thn_exit (K : List Value → AH → Prop) (Q : Exit → List Value → AH → Prop) (i : Nat) (t : List Value) (h : AH) : thn K Q (.exit i) t h = Q (.exit i) t h := rfl
@[congr] theorem thn_congr {tk : Prop} (_ : tick = tk) {K : List Value → AH → Prop} {Q : Exit → List Value → AH → Prop} {ex ex2 : Exit} {t t2 : List Value} {h h2 : AH} (eex : ex = ex2) (et : t = t2) (eh : h = h2) : thn K Q ex t h = thn K Q ex2 t2 h2 := by subst eex; subst et; subst eh; rfl
def blk (id : Nat) (Q : Exit → List Value → AH → Prop) : Exit → List Value → AH → Prop
  | .exit i, t, h => if i = id then Q .normal t h else Q (.exit i) t h
  | ex, t, h => Q ex t h
theorem blk_normal (id : Nat) (Q : Exit → List Value → AH → Prop) (t : List Value) (h : AH) : blk id Q .normal t h = Q .normal t h := rfl
theorem blk_ret (id : Nat) (Q : Exit → List Value → AH → Prop) (t : List Value) (h : AH) : blk id Q .ret t h = Q .ret t h := rfl
def eqN (i j : Nat) (X Y : Prop) : Prop := if i = j then X else Y
@[congr] theorem eqN_congr {tk : Prop} (_ : tick = tk) {i i2 : Nat} {j j2 : Nat} {X : Prop} {Y : Prop} (ei : i = i2) (ej : j = j2) : eqN i j X Y = eqN i2 j2 X Y := by subst ei; subst ej; rfl
theorem blk_exit (id i : Nat) (Q : Exit → List Value → AH → Prop) (t : List Value) (h : AH) : blk id Q (.exit i) t h = eqN i id (Q .normal t h) (Q (.exit i) t h) := rfl
theorem eqN_same (i : Nat) (X Y : Prop) : eqN i i X Y = X := by simp [eqN]
theorem eqN_ne {i j : Nat} (e : (i == j) = false) (X Y : Prop) : eqN i j X Y = Y := by unfold eqN; exact if_neg (by simpa using e)
@[congr] theorem blk_congr {tk : Prop} (_ : tick = tk) {id id2 : Nat} {Q : Exit → List Value → AH → Prop} {ex ex2 : Exit} {t t2 : List Value} {h h2 : AH} (eid : id = id2) (eex : ex = ex2) (et : t = t2) (eh : h = h2) : blk id Q ex t h = blk id2 Q ex2 t2 h2 := by subst eid; subst eex; subst et; subst eh; rfl

theorem thn_eq (K : List Value → AH → Prop) (Q : Exit → List Value → AH → Prop) : (fun ex t h => match ex with | .normal => K t h | ex => Q ex t h) = thn K Q := by
  funext ex t h; cases ex <;> rfl
theorem wpc_seq (a b : Code) (Q : Exit → List Value → AH → Prop) (t : List Value) : wpc P (.seq a b) Q t h = wpc P a (thn (wpc P b Q) Q) t h := by
  rw [← thn_eq]; rfl
theorem wpc_skip (Q : Exit → List Value → AH → Prop) (t : List Value) : wpc P .skip Q t h = Q .normal t h := rfl
theorem wpc_ret (Q : Exit → List Value → AH → Prop) (t : List Value) : wpc P .ret Q t h = Q .ret t h := rfl
theorem wpc_exit (i : Nat) (Q : Exit → List Value → AH → Prop) (t : List Value) : wpc P (.exit i) Q t h = Q (.exit i) t h := rfl
theorem wpc_label (i : Nat) (Q : Exit → List Value → AH → Prop) (t : List Value) : wpc P (.label i) Q t h = Q .normal t h := rfl
theorem wpc_region (id : Nat) (l : List Oper) (Q : Exit → List Value → AH → Prop) (t : List Value) : wpc P (.region id l.toArray false) Q t h = aops P (dsts l) l t h (Q .normal) := rfl
theorem wpc_draw (id : Nat) (ops : Array Oper) (Q : Exit → List Value → AH → Prop) (t : List Value) : wpc P (.region id ops true) Q t h = WC P (.region id ops true) Q t h := rfl
theorem wpc_loop (c : Code) (Q : Exit → List Value → AH → Prop) (t : List Value) : wpc P (.loop c) Q t h = WC P (.loop c) Q t h := rfl
theorem wpc_block (id : Nat) (c : Code) (Q : Exit → List Value → AH → Prop) (t : List Value) : wpc P (.block id c) Q t h = wpc P c (blk id Q) t h := by
  have : (fun ex t h => match ex with | .exit i => if i = id then Q .normal t h else Q (.exit i) t h | ex => Q ex t h) = blk id Q := by
    funext ex t h; cases ex <;> rfl
  rw [← this]; rfl
theorem wpc_cond (c : Operand) (a b : Code) (Q : Exit → List Value → AH → Prop) (t : List Value) : wpc P (.cond c a b) Q t h = onB (aev t c) (fun x => bcase x (wpc P a Q t h) (wpc P b Q t h)) False := rfl

/-! ### operations -/
theorem aops_nil (ds : List (Option Tmp)) (K : List Value → AH → Prop) (t : List Value) : aops P ds [] t h K = K t h := rfl
theorem aops_cons (ds : List (Option Tmp)) (K : List Value → AH → Prop) (t : List Value) (d : Option Tmp) (op : Op) (ty : TypeId) (pos : String) (af : Array Edge) (r : List Oper) :
    aops P ds ({ dst := d, op := op, type := ty, pos := pos, after := af, guard := none } :: r) t h K = aop P op (aev t) h fun v h' => aops P ds r (put t d v) h' K := rfl
theorem aops_guard (ds : List (Option Tmp)) (K : List Value → AH → Prop) (t : List Value) (d : Option Tmp) (op : Op) (ty : TypeId) (pos : String) (af : Array Edge) (r : List Oper) (j : Nat) (want : Bool) :
    aops P ds ({ dst := d, op := op, type := ty, pos := pos, after := af, guard := some (j, want) } :: r) t h K =
      ag (gd ds j) want t (fun t => aop P op (aev t) h fun v h' => aops P ds r (put t d v) h' K) (fun t => aops P ds r (put t d undef) h K) := by
  conv => lhs; unfold aops
  simp only [ag, onB]
  cases gd ds j with
  | none => rfl
  | some d' => rfl

theorem aev_tmp (t : List Value) (i : Nat) : aev t (.tmp i) = t.getD i undef := rfl
theorem aev_const (t : List Value) (v : Value) : aev t (.const v) = v := rfl
theorem aev_global (t : List Value) (g : Nat) : aev t (.global g) = .pointer (some ⟨g, 0, none⟩) := rfl
theorem aev_func (t : List Value) (f : Nat) : aev t (.func f) = .func (.func f) #[] #[] := rfl
theorem put_some (t : List Value) (i : Nat) (v : Value) : put t (some i) v = t.set i v := rfl
theorem put_none (t : List Value) (v : Value) : put t none v = t := rfl

section
variable (ρ : Operand → Value) (K : Value → AH → Prop)
theorem aop_move (x : Operand) : aop P (.move x) ρ h K = K (ρ x) h := rfl
theorem aop_assign (x : Operand) : aop P (.assign x) ρ h K = K (ρ x) h := rfl
theorem aop_pick (c a b : Operand) : aop P (.pick c a b) ρ h K = onB (ρ c) (fun t => K (pick2 t (ρ a) (ρ b)) h) False := rfl
theorem aop_alloc (t : TypeId) : aop P (.alloc t) ρ h K = onS (ti P t) fun i => K (.pointer (some ⟨h.n, 0, none⟩)) (h.alloc (.cells i.zero .solo h.n)) := by
  change (match ti P t with | some i => K (.pointer (some ⟨h.n, 0, none⟩)) (h.alloc (.cells i.zero .solo h.n)) | none => False) = _
  cases ti P t <;> rfl
theorem aop_box (t : TypeId) (x : Operand) : aop P (.box t x) ρ h K = ((ρ x).cells.toList.all one = true ∧ K (.pointer (some ⟨h.n, 0, none⟩)) (h.alloc (.cells (ρ x).cells.toList .solo h.n))) := rfl
theorem aop_build (t : TypeId) (ps : Array (Nat × Operand)) : aop P (.build t ps) ρ h K = abuild P t (ps.toList.map (pv ρ)) fun v => K v h := rfl
theorem aop_buildSlice (t : TypeId) (n : Nat) (ps : Array (Nat × Operand)) : aop P (.buildSlice t n ps) ρ h K = abuildSlice P h t n (ps.toList.map (pv ρ)) K := rfl
theorem aop_load (t : TypeId) (x : Operand) : aop P (.load t x) ρ h K = aload P h t (ρ x) fun v => K v h := rfl
theorem aop_store (t : TypeId) (x y : Operand) : aop P (.store t x y) ρ h K = astore P h t (ρ x) (ρ y) fun h' => K undef h' := rfl
def anil (x : Value) (K : Value → Prop) : Prop := match x with | .pointer (some a) => K (.pointer (some a)) | _ => False
theorem anil_ptr (a : Addr) (K : Value → Prop) : anil (.pointer (some a)) K = K (.pointer (some a)) := rfl
theorem aop_nilCheck (x : Operand) : aop P (.nilCheck x) ρ h K = anil (ρ x) fun v => K v h := by
  change (match ρ x with | .pointer (some a) => K (.pointer (some a)) h | _ => False) = _
  unfold anil
  cases ρ x <;> first | rfl | (rename_i o; cases o <;> rfl)
theorem aop_binOp (op : BinOp) (t u : TypeId) (x y : Operand) : aop P (.binOp op t x y u) ρ h K = abinT P op t (ρ x) (ρ y) fun v => K v h := rfl
@[congr] theorem abinT_congr {tk : Prop} (_ : tick = tk) {op op2 : BinOp} {t t2 : TypeId} {x x2 : Value} {y y2 : Value} {K : Value → Prop} (eop : op = op2) (et : t = t2) (ex : x = x2) (ey : y = y2) : abinT P op t x y K = abinT P op2 t2 x2 y2 K := by subst eop; subst et; subst ex; subst ey; rfl
theorem abinT_int (op : BinOp) (t : TypeId) (k : IntKind) (n : Int) (y : Value) (K : Value → Prop) : abinT P op t (.int k n) y K = abin op (.int k n) y K := rfl
theorem abinT_str (op : BinOp) (t : TypeId) (s : ByteArray) (y : Value) (K : Value → Prop) : abinT P op t (.string s) y K = abin op (.string s) y K := rfl
theorem abinT_beq (t : TypeId) (ht : P.underlying t = some .bool) (a b : Bool) (K : Value → Prop) : abinT P .eql t (.bool a) (.bool b) K = K (.bool (a == b)) := by simp [abinT, aeq, aeqB, ht]
theorem abinT_bne (t : TypeId) (ht : P.underlying t = some .bool) (a b : Bool) (K : Value → Prop) : abinT P .neq t (.bool a) (.bool b) K = K (.bool (!(a == b))) := by simp [abinT, aeq, aeqB, ht]
theorem abinT_peq (t e : TypeId) (ht : P.underlying t = some (.pointer e)) (a : Option Addr) (K : Value → Prop) : abinT P .eql t (.pointer a) (.pointer none) K = K (.bool a.isNone) := by cases a <;> simp [abinT, aeq, aeqB, ht]
theorem abinT_pne (t e : TypeId) (ht : P.underlying t = some (.pointer e)) (a : Option Addr) (K : Value → Prop) : abinT P .neq t (.pointer a) (.pointer none) K = K (.bool (!a.isNone)) := by cases a <;> simp [abinT, aeq, aeqB, ht]
theorem aop_unOp (op : UnOp) (t : TypeId) (x : Operand) : aop P (.unOp op t x) ρ h K = aun op (ρ x) fun v => K v h := rfl
theorem aop_convert (s d : TypeId) (x : Operand) : aop P (.convert s d x) ρ h K = aconv P h s d (ρ x) K := rfl
theorem aop_makeFunc (fn : Fn) (f c : Array Operand) : aop P (.makeFunc fn f c) ρ h K = K (.func fn (f.map ρ) (c.map ρ)) h := rfl
theorem aop_makeMap (t : TypeId) : aop P (.makeMap t none) ρ h K = K (.map (some h.n)) (h.alloc (.map [])) := rfl
theorem aop_makeSlice (t : TypeId) (x y : Operand) : aop P (.makeSlice t x y) ρ h K = amake P h t (ρ x) (ρ y) K := rfl
def noArr (o : Option TypeDesc) (X : Prop) : Prop := match o with | some (.array _ _) => False | _ => X
theorem aop_slice (t : TypeId) (x : Operand) (lo hi mx : Option Operand) : aop P (.slice t x lo hi mx) ρ h K = noArr (P.underlying t) (acut P t (ρ x) (lo.map ρ) (hi.map ρ) (mx.map ρ) fun v => K v h) := by
  change (match P.underlying t with | some (.array _ _) => False | _ => acut P t (ρ x) (lo.map ρ) (hi.map ρ) (mx.map ρ) fun v => K v h) = _
  unfold noArr
  cases P.underlying t with
  | none => rfl
  | some d => cases d <;> rfl
theorem aop_fieldAddr (t : TypeId) (x : Operand) (f : Nat) : aop P (.fieldAddr t x f) ρ h K = afieldAddr P t (ρ x) f fun v => K v h := rfl
theorem aop_field (t : TypeId) (x : Operand) (f : Nat) : aop P (.field t x f) ρ h K = afield P t (ρ x) f fun v => K v h := rfl
theorem aop_indexAddr (t : TypeId) (x y : Operand) : aop P (.indexAddr t x y) ρ h K = aindexAddr P t (ρ x) (ρ y) fun v => K v h := rfl
theorem aop_index (t : TypeId) (x y : Operand) : aop P (.index t x y) ρ h K = aindex P t (ρ x) (ρ y) fun v => K v h := rfl
theorem aop_extract (x : Operand) (i : Nat) : aop P (.extract x i) ρ h K = aextract (ρ x) i fun v => K v h := rfl
theorem aop_call (f : Operand) (args : Array Operand) (ts : Array TypeId) : aop P (.call { callee := .value f, args := args, argTypes := ts }) ρ h K = acall P h (ρ f) (args.toList.map ρ) K := rfl
theorem aop_builtin (b : Builtin) (args : Array Operand) (ts : Array TypeId) : aop P (.call { callee := .builtin b, args := args, argTypes := ts }) ρ h K = abuiltin P h b ts.toList (args.toList.map ρ) K := rfl
end
@[congr] theorem anil_congr {tk : Prop} (_ : tick = tk) {x x2 : Value} {K : Value → Prop} (ex : x = x2) : anil x K = anil x2 K := by subst ex; rfl
@[congr] theorem noArr_congr {tk : Prop} (_ : tick = tk) {o o2 : Option TypeDesc} {X : Prop} (eo : o = o2) : noArr o X = noArr o2 X := by subst eo; rfl
theorem noArr_string (X : Prop) : noArr (some .string) X = X := rfl
theorem noArr_slice (e : TypeId) (X : Prop) : noArr (some (.slice e)) X = X := rfl

/-! calls -/
@[congr] theorem acall_congr {tk : Prop} (_ : tick = tk) {h h2 : AH} {f f2 : Value} {l l2 : List Value} {K : Value → AH → Prop} (eh : h = h2) (ef : f = f2) (el : l = l2) : acall P h f l K = acall P h2 f2 l2 K := by subst eh; subst ef; subst el; rfl
theorem acall_func (fid : FuncId) (first captured : Array Value) (l : List Value) (K : Value → AH → Prop) : acall P h (.func (.func fid) first captured) l K = CC P fid (first.toList ++ l ++ captured.toList) h K := rfl
@[congr] theorem abuiltin_congr {tk : Prop} (_ : tick = tk) {h h2 : AH} {b b2 : Builtin} {ts ts2 : List TypeId} {l l2 : List Value} {K : Value → AH → Prop} (eh : h = h2) (eb : b = b2) (ets : ts = ts2) (el : l = l2) : abuiltin P h b ts l K = abuiltin P h2 b2 ts2 l2 K := by subst eh; subst eb; subst ets; subst el; rfl
theorem abuiltin_append (t u : TypeId) (x y : Value) (K : Value → AH → Prop) : abuiltin P h .append [t, u] [x, y] K = aappend P h t u x y K := rfl
theorem abuiltin_len (t : TypeId) (x : Value) (K : Value → AH → Prop) : abuiltin P h .len [t] [x] K = alen P h t x fun v => K v h := rfl
theorem abuiltin_min (ts : List TypeId) (k : IntKind) (a b : Int) (K : Value → AH → Prop) : abuiltin P h .min ts [.int k a, .int k b] K = K (.int k (min a b)) h := by simp [abuiltin, aminmax]
theorem abuiltin_max (ts : List TypeId) (k : IntKind) (a b : Int) (K : Value → AH → Prop) : abuiltin P h .max ts [.int k a, .int k b] K = K (.int k (max a b)) h := by simp [abuiltin, aminmax]

/-! numbers, bools, strings -/
@[congr] theorem abin_congr {tk : Prop} (_ : tick = tk) {op op2 : BinOp} {x x2 : Value} {y y2 : Value} {K : Value → Prop} (eop : op = op2) (ex : x = x2) (ey : y = y2) : abin op x y K = abin op2 x2 y2 K := by subst eop; subst ex; subst ey; rfl
@[congr] theorem aun_congr {tk : Prop} (_ : tick = tk) {op op2 : UnOp} {x x2 : Value} {K : Value → Prop} (eop : op = op2) (ex : x = x2) : aun op x K = aun op2 x2 K := by subst eop; subst ex; rfl
section
variable (k k' : IntKind) (a b : Int) (s u : ByteArray) (K : Value → Prop)
theorem abin_add : abin .add (.int k a) (.int k b) K = K (.int k (k.wrap (a + b))) := by simp [abin]
theorem abin_sub : abin .sub (.int k a) (.int k b) K = K (.int k (k.wrap (a - b))) := by simp [abin]
theorem abin_mul : abin .mul (.int k a) (.int k b) K = K (.int k (k.wrap (a * b))) := by simp [abin]
theorem abin_quo : abin .quo (.int k a) (.int k b) K = (b ≠ 0 ∧ K (.int k (k.wrap (a.tdiv b)))) := by simp [abin]
theorem abin_rem : abin .rem (.int k a) (.int k b) K = (b ≠ 0 ∧ K (.int k (a.tmod b))) := by simp [abin]
theorem abin_and : abin .and (.int k a) (.int k b) K = K (.int k (k.wrap (BitVec.ofInt k.bits a &&& BitVec.ofInt k.bits b).toNat)) := by simp [abin]
theorem abin_or : abin .or (.int k a) (.int k b) K = K (.int k (k.wrap (BitVec.ofInt k.bits a ||| BitVec.ofInt k.bits b).toNat)) := by simp [abin]
theorem abin_xor : abin .xor (.int k a) (.int k b) K = K (.int k (k.wrap (BitVec.ofInt k.bits a ^^^ BitVec.ofInt k.bits b).toNat)) := by simp [abin]
theorem abin_shl : abin .shl (.int k a) (.int k' b) K = (0 ≤ b ∧ K (.int k (k.wrap (a * 2 ^ (min b.toNat k.bits))))) := by simp [abin]
theorem abin_shr : abin .shr (.int k a) (.int k' b) K = (0 ≤ b ∧ K (.int k (a.fdiv (2 ^ (min b.toNat k.bits))))) := by simp [abin]
theorem abin_eql : abin .eql (.int k a) (.int k b) K = K (.bool (decide (a = b))) := by simp [abin]
theorem abin_neq : abin .neq (.int k a) (.int k b) K = K (.bool (!decide (a = b))) := by simp [abin]
theorem abin_lss : abin .lss (.int k a) (.int k b) K = K (.bool (decide (a < b))) := by simp [abin]
theorem abin_leq : abin .leq (.int k a) (.int k b) K = K (.bool (decide (a ≤ b))) := by simp [abin]
theorem abin_gtr : abin .gtr (.int k a) (.int k b) K = K (.bool (decide (b < a))) := by simp [abin]
theorem abin_geq : abin .geq (.int k a) (.int k b) K = K (.bool (decide (b ≤ a))) := by simp [abin]
theorem abin_adds : abin .add (.string s) (.string u) K = (s.size + u.size < 4611686018427387904 ∧ K (.string (s ++ u))) := by simp [abin]
theorem abin_eqls : abin .eql (.string s) (.string u) K = K (.bool (decide (s = u))) := rfl
theorem abin_neqs : abin .neq (.string s) (.string u) K = K (.bool (!decide (s = u))) := rfl
theorem abin_lsss : abin .lss (.string s) (.string u) K = K (.bool (Op.bytesLess s.toList u.toList)) := rfl
theorem abin_leqs : abin .leq (.string s) (.string u) K = K (.bool (Op.bytesLess s.toList u.toList || decide (s = u))) := rfl
theorem abin_gtrs : abin .gtr (.string s) (.string u) K = K (.bool (!(Op.bytesLess s.toList u.toList || decide (s = u)))) := rfl
theorem abin_geqs : abin .geq (.string s) (.string u) K = K (.bool (!Op.bytesLess s.toList u.toList)) := rfl
theorem aun_not (c : Bool) : aun .not (.bool c) K = K (.bool (!c)) := rfl
theorem aun_neg : aun .neg (.int k a) K = K (.int k (k.wrap (0 - a))) := rfl
end

/-! memory -/
def aloadT (i : Option TI) (h : AH) (id off : Nat) (K : Value → Prop) : Prop :=
  match i with
  | some i => if i.agg then onS (rd h id off i.size) (fun vs => K (.agg vs.toArray)) else onS (rd1 h id off) K
  | none => False
@[congr] theorem aloadT_congr {tk : Prop} (_ : tick = tk) {i i2 : Option TI} {h h2 : AH} {id id2 : Nat} {off off2 : Nat} {K : Value → Prop} (ei : i = i2) (eh : h = h2) (eid : id = id2) (eoff : off = off2) : aloadT i h id off K = aloadT i2 h2 id2 off2 K := by subst ei; subst eh; subst eid; subst eoff; rfl
@[congr] theorem aload_congr {tk : Prop} (_ : tick = tk) {h h2 : AH} {t t2 : TypeId} {p p2 : Value} {K : Value → Prop} (eh : h = h2) (et : t = t2) (ep : p = p2) : aload P h t p K = aload P h2 t2 p2 K := by subst eh; subst et; subst ep; rfl
theorem aload_ptr (t : TypeId) (id off : Nat) (K : Value → Prop) : aload P h t (.pointer (some ⟨id, off, none⟩)) K = aloadT (ti P t) h id off K := by
  unfold aload aloadT
  cases ti P t with
  | none => rfl
  | some i => simp only [onS]; split <;> split <;> simp_all
theorem aloadT_one (s b : Nat) (z : List Value) (id off : Nat) (K : Value → Prop) : aloadT (some ⟨s, b, z, false⟩) h id off K = onS (rd1 h id off) K := by simp [aloadT]
theorem aloadT_agg (s b : Nat) (z : List Value) (id off : Nat) (K : Value → Prop) : aloadT (some ⟨s, b, z, true⟩) h id off K = onS (rd h id off s) (fun vs => K (.agg vs.toArray)) := by simp [aloadT]
def astoreT (i : Option TI) (h : AH) (id off : Nat) (v : Value) (K : AH → Prop) : Prop :=
  match i with
  | some i => v.cells.size = i.size ∧ v.cells.all Sim.one = true ∧ onS (wr h id off v.cells.toList) K
  | none => False
@[congr] theorem astoreT_congr {tk : Prop} (_ : tick = tk) {i i2 : Option TI} {h h2 : AH} {id id2 : Nat} {off off2 : Nat} {v v2 : Value} {K : AH → Prop} (ei : i = i2) (eh : h = h2) (eid : id = id2) (eoff : off = off2) (ev : v = v2) : astoreT i h id off v K = astoreT i2 h2 id2 off2 v2 K := by subst ei; subst eh; subst eid; subst eoff; subst ev; rfl
@[congr] theorem astore_congr {tk : Prop} (_ : tick = tk) {h h2 : AH} {t t2 : TypeId} {p p2 : Value} {v v2 : Value} {K : AH → Prop} (eh : h = h2) (et : t = t2) (ep : p = p2) (ev : v = v2) : astore P h t p v K = astore P h2 t2 p2 v2 K := by subst eh; subst et; subst ep; subst ev; rfl
theorem astore_ptr (t : TypeId) (id off : Nat) (v : Value) (K : AH → Prop) : astore P h t (.pointer (some ⟨id, off, none⟩)) v K = astoreT (ti P t) h id off v K := by
  unfold astore astoreT
  cases ti P t with
  | none => rfl
  | some i => simp only [onS]; cases wr h id off v.cells.toList <;> rfl
theorem astoreT_some (s b : Nat) (z : List Value) (ag : Bool) (id off : Nat) (v : Value) (K : AH → Prop) : astoreT (some ⟨s, b, z, ag⟩) h id off v K = (v.cells.size = s ∧ v.cells.all Sim.one = true ∧ onS (wr h id off v.cells.toList) K) := rfl
def afa (o : Option (Nat × Nat × Bool)) (id off : Nat) (K : Value → Prop) : Prop :=
  match o with
  | some (fo, sz, _) => sz ≠ 0 ∧ K (.pointer (some ⟨id, off + fo, none⟩))
  | none => False
@[congr] theorem afa_congr {tk : Prop} (_ : tick = tk) {o o2 : Option (Nat × Nat × Bool)} {id id2 : Nat} {off off2 : Nat} {K : Value → Prop} (eo : o = o2) (eid : id = id2) (eoff : off = off2) : afa o id off K = afa o2 id2 off2 K := by subst eo; subst eid; subst eoff; rfl
@[congr] theorem afieldAddr_congr {tk : Prop} (_ : tick = tk) {t t2 : TypeId} {p p2 : Value} {f f2 : Nat} {K : Value → Prop} (et : t = t2) (ep : p = p2) (ef : f = f2) : afieldAddr P t p f K = afieldAddr P t2 p2 f2 K := by subst et; subst ep; subst ef; rfl
theorem afieldAddr_ptr (t : TypeId) (id off f : Nat) (K : Value → Prop) : afieldAddr P t (.pointer (some ⟨id, off, none⟩)) f K = afa (fi P t f) id off K := by
  unfold afieldAddr afa
  cases fi P t f <;> rfl
theorem afa_some (fo sz : Nat) (ag : Bool) (id off : Nat) (K : Value → Prop) : afa (some (fo, sz, ag)) id off K = (sz ≠ 0 ∧ K (.pointer (some ⟨id, off + fo, none⟩))) := rfl
def afl (o : Option (Nat × Nat × Bool)) (cs : Array Value) (K : Value → Prop) : Prop :=
  match o with
  | some (fo, sz, ag) => if ag then K (.agg (cs.extract fo (fo + sz))) else onS cs[fo]? K
  | none => False
@[congr] theorem afl_congr {tk : Prop} (_ : tick = tk) {o o2 : Option (Nat × Nat × Bool)} {cs cs2 : Array Value} {K : Value → Prop} (eo : o = o2) (ecs : cs = cs2) : afl o cs K = afl o2 cs2 K := by subst eo; subst ecs; rfl
@[congr] theorem afield_congr {tk : Prop} (_ : tick = tk) {t t2 : TypeId} {p p2 : Value} {f f2 : Nat} {K : Value → Prop} (et : t = t2) (ep : p = p2) (ef : f = f2) : afield P t p f K = afield P t2 p2 f2 K := by subst et; subst ep; subst ef; rfl
theorem afield_agg (t : TypeId) (cs : Array Value) (f : Nat) (K : Value → Prop) : afield P t (.agg cs) f K = afl (fi P t f) cs K := by
  unfold afield afl
  cases fi P t f with
  | none => rfl
  | some p =>
    obtain ⟨fo, sz, ag⟩ := p
    cases ag with
    | true => rfl
    | false => simp only [onS]; cases cs[fo]? <;> rfl
theorem afl_one (fo sz : Nat) (cs : Array Value) (K : Value → Prop) : afl (some (fo, sz, false)) cs K = onS cs[fo]? K := by simp [afl]
theorem afl_agg (fo sz : Nat) (cs : Array Value) (K : Value → Prop) : afl (some (fo, sz, true)) cs K = K (.agg (cs.extract fo (fo + sz))) := by simp [afl]
def aixT (o : Option (TypeId × TI)) (id off n : Nat) (j : Int) (K : Value → Prop) : Prop :=
  match o with
  | some (_, i) => 0 ≤ j ∧ j < (n : Int) ∧ K (.pointer (some ⟨id, off + j.toNat * i.size, none⟩))
  | none => False
@[congr] theorem aixT_congr {tk : Prop} (_ : tick = tk) {o o2 : Option (TypeId × TI)} {id id2 : Nat} {off off2 : Nat} {n n2 : Nat} {j j2 : Int} {K : Value → Prop} (eo : o = o2) (eid : id = id2) (eoff : off = off2) (en : n = n2) (ej : j = j2) : aixT o id off n j K = aixT o2 id2 off2 n2 j2 K := by subst eo; subst eid; subst eoff; subst en; subst ej; rfl
@[congr] theorem aindexAddr_congr {tk : Prop} (_ : tick = tk) {t t2 : TypeId} {x x2 : Value} {y y2 : Value} {K : Value → Prop} (et : t = t2) (ex : x = x2) (ey : y = y2) : aindexAddr P t x y K = aindexAddr P t2 x2 y2 K := by subst et; subst ex; subst ey; rfl
theorem aindexAddr_sl (t : TypeId) (id off n c : Nat) (ik : IntKind) (j : Int) (K : Value → Prop) : aindexAddr P t (.slice (some ⟨id, off, none⟩) n c) (.int ik j) K = aixT (si P t) id off n j K := by
  unfold aindexAddr aixT
  cases si P t <;> rfl
theorem aixT_some (e : TypeId) (s b : Nat) (z : List Value) (ag : Bool) (id off n : Nat) (j : Int) (K : Value → Prop) : aixT (some (e, ⟨s, b, z, ag⟩)) id off n j K = (0 ≤ j ∧ j < (n : Int) ∧ K (.pointer (some ⟨id, off + j.toNat * s, none⟩))) := rfl
@[congr] theorem aindex_congr {tk : Prop} (_ : tick = tk) {t t2 : TypeId} {x x2 : Value} {y y2 : Value} {K : Value → Prop} (et : t = t2) (ex : x = x2) (ey : y = y2) : aindex P t x y K = aindex P t2 x2 y2 K := by subst et; subst ex; subst ey; rfl
theorem aindex_str (t : TypeId) (s : ByteArray) (ik : IntKind) (j : Int) (K : Value → Prop) : aindex P t (.string s) (.int ik j) K = (P.underlying t = some .string ∧ 0 ≤ j ∧ j < (s.size : Int) ∧ K (.int .u8 (byteAt s j.toNat).toNat)) := rfl
@[congr] theorem aextract_congr {tk : Prop} (_ : tick = tk) {x x2 : Value} {i i2 : Nat} {K : Value → Prop} (ex : x = x2) (ei : i = i2) : aextract x i K = aextract x2 i2 K := by subst ex; subst ei; rfl
theorem aextract_tuple (vs : Array Value) (i : Nat) (K : Value → Prop) : aextract (.tuple vs) i K = onS vs[i]? K := by
  change (match vs[i]? with | some v => K v | none => False) = _
  unfold onS
  cases vs[i]? <;> rfl

def alenT (o : Option TypeDesc) (h : AH) (x : Value) (K : Value → Prop) : Prop :=
  match o, x with
  | some .string, .string s => K (.int .i64 s.size)
  | some (.slice _), .slice _ n _ => K (.int .i64 n)
  | some (.map _ _), .map (some r) => (match h.ob r with | .map es => K (.int .i64 es.length) | _ => False)
  | _, _ => False
@[congr] theorem alenT_congr {tk : Prop} (_ : tick = tk) {o o2 : Option TypeDesc} {h h2 : AH} {x x2 : Value} {K : Value → Prop} (eo : o = o2) (eh : h = h2) (ex : x = x2) : alenT o h x K = alenT o2 h2 x2 K := by subst eo; subst eh; subst ex; rfl
@[congr] theorem alen_congr {tk : Prop} (_ : tick = tk) {h h2 : AH} {t t2 : TypeId} {x x2 : Value} {K : Value → Prop} (eh : h = h2) (et : t = t2) (ex : x = x2) : alen P h t x K = alen P h2 t2 x2 K := by subst eh; subst et; subst ex; rfl
theorem alen_eq (t : TypeId) (x : Value) (K : Value → Prop) : alen P h t x K = alenT (P.underlying t) h x K := rfl
theorem alenT_str (s : ByteArray) (K : Value → Prop) : alenT (some .string) h (.string s) K = K (.int .i64 s.size) := rfl
theorem alenT_sl (e : TypeId) (A : Option Addr) (n c : Nat) (K : Value → Prop) : alenT (some (.slice e)) h (.slice A n c) K = K (.int .i64 n) := rfl


/-! a function's end -/
theorem bodyQ_ret (rs : List ResultVar) (R : Value → AH → Prop) (t : List Value) : bodyQ P rs R .ret t h = ares P h t rs fun vs => R (packed vs) h := by simp [bodyQ]
theorem bodyQ_normal (rs : List ResultVar) (R : Value → AH → Prop) (t : List Value) : bodyQ P rs R .normal t h = ares P h t rs fun vs => R (packed vs) h := by simp [bodyQ]
@[congr] theorem ares_congr {tk : Prop} (_ : tick = tk) {h h2 : AH} {t t2 : List Value} {rs rs2 : List ResultVar} {K : List Value → Prop} (eh : h = h2) (et : t = t2) (ers : rs = rs2) : ares P h t rs K = ares P h2 t2 rs2 K := by subst eh; subst et; subst ers; rfl
theorem ares_nil (t : List Value) (K : List Value → Prop) : ares P h t [] K = K [] := rfl
theorem ares_tmp (t : List Value) (i : Nat) (r : List ResultVar) (K : List Value → Prop) : ares P h t (.tmp i :: r) K = ares P h t r fun vs => K (t.getD i undef :: vs) := rfl
theorem ares_cell (t : List Value) (a : Nat) (ty : TypeId) (r : List ResultVar) (K : List Value → Prop) : ares P h t (.cell a ty :: r) K = aload P h ty (t.getD a undef) fun v => ares P h t r fun vs => K (v :: vs) := rfl
theorem packed_one (v : Value) : packed [v] = v := rfl
theorem packed_two (v u : Value) : packed [v, u] = .tuple #[v, u] := rfl
theorem packed_three (v u x : Value) : packed [v, u, x] = .tuple #[v, u, x] := rfl
theorem packed_nil : packed [] = .tuple #[] := rfl

/-! the heap -/
def rdO (o : AOb) (off n : Nat) : Option (List Value) :=
  match o with
  | .cells cs _ _ => if off + n ≤ cs.length then some ((cs.drop off).take n) else none
  | _ => none
def rd1O (o : AOb) (off : Nat) : Option Value :=
  match o with
  | .cells cs _ _ => cs[off]?
  | _ => none
def wrO (h : AH) (i : Nat) (o : AOb) (off : Nat) (vs : List Value) : Option AH :=
  match o with
  | .cells cs .solo ln => if off + vs.length ≤ cs.length then some (h.set i (.cells (putL cs off vs) .solo ln)) else none
  | .cells cs .tip ln => if off + vs.length ≤ cs.length then some ((h.kill ln).set i (.cells (putL cs off vs) .tip ln)) else none
  | _ => none
theorem rd_eq (i off n : Nat) : rd h i off n = rdO (h.ob i) off n := rfl
theorem rd1_eq (i off : Nat) : rd1 h i off = rd1O (h.ob i) off := rfl
theorem wr_eq (i off : Nat) (vs : List Value) : wr h i off vs = wrO h i (h.ob i) off vs := rfl
theorem rdO_cells (cs : List Value) (st : Stat) (ln off n : Nat) : rdO (.cells cs st ln) off n = if off + n ≤ cs.length then some ((cs.drop off).take n) else none := rfl
theorem rd1O_cells (cs : List Value) (st : Stat) (ln off : Nat) : rd1O (.cells cs st ln) off = cs[off]? := rfl
theorem wrO_solo (i : Nat) (cs : List Value) (ln off : Nat) (vs : List Value) : wrO h i (.cells cs .solo ln) off vs = if off + vs.length ≤ cs.length then some (h.set i (.cells (putL cs off vs) .solo ln)) else none := rfl
theorem wrO_tip (i : Nat) (cs : List Value) (ln off : Nat) (vs : List Value) : wrO h i (.cells cs .tip ln) off vs = if off + vs.length ≤ cs.length then some ((h.kill ln).set i (.cells (putL cs off vs) .tip ln)) else none := rfl
theorem onS_ite {α : Type} (c : Prop) [Decidable c] (a : α) (X : α → Prop) : onS (if c then some a else none) X = (c ∧ X a) := by by_cases e : c <;> simp [onS, e]
theorem onS_none {α : Type} (X : α → Prop) : onS (none : Option α) X = False := rfl
theorem putL_nil (cs : List Value) (o : Nat) : putL cs o [] = cs := rfl
theorem putL_cons (cs : List Value) (o : Nat) (v : Value) (r : List Value) : putL cs o (v :: r) = putL (cs.set o v) (o + 1) r := rfl
theorem alloc_same (o : AOb) : (h.alloc o).ob h.n = o := by simp [AH.alloc]
theorem alloc_of (o : AOb) {i : Nat} (e : i = h.n) : (h.alloc o).ob i = o := by simp [AH.alloc, e]
theorem alloc_lt (o : AOb) {i : Nat} (e : i < h.n) : (h.alloc o).ob i = h.ob i := by simp [AH.alloc, Nat.ne_of_lt e]
theorem set_same (i : Nat) (o : AOb) : (h.set i o).ob i = o := by simp [AH.set]
theorem set_lt (o : AOb) {i j : Nat} (e : j < i) : (h.set i o).ob j = h.ob j := by simp [AH.set, Nat.ne_of_lt e]
theorem set_gt (o : AOb) {i j : Nat} (e : i < j) : (h.set i o).ob j = h.ob j := by simp [AH.set, (Nat.ne_of_lt e).symm]
theorem set_ne (o : AOb) {i j : Nat} (e : j ≠ i) : (h.set i o).ob j = h.ob j := by simp [AH.set, e]
theorem alloc_n (o : AOb) : (h.alloc o).n = h.n + 1 := rfl
theorem set_n (i : Nat) (o : AOb) : (h.set i o).n = h.n := rfl
theorem kill_n (i : Nat) : (h.kill i).n = h.n := rfl
theorem lt_alloc (o : AOb) : h.n < (h.alloc o).n := Nat.lt_succ_self _
theorem lt_alloc_of (o : AOb) {i : Nat} (e : i < h.n) : i < (h.alloc o).n := Nat.lt_succ_of_lt e
theorem le_alloc (o : AOb) : h.n ≤ (h.alloc o).n := Nat.le_succ _
/-- The heap has only grown. -/
structure Pre (h h' : AH) : Prop where
  n : h.n ≤ h'.n
  ob : ∀ i, i < h.n → h'.ob i = h.ob i
theorem Pre.refl (h : AH) : Pre h h := ⟨Nat.le_refl _, fun _ _ => rfl⟩
theorem Pre.trans {a b c : AH} (x : Pre a b) (y : Pre b c) : Pre a c := ⟨Nat.le_trans x.n y.n, fun i hi => (y.ob i (Nat.lt_of_lt_of_le hi x.n)).trans (x.ob i hi)⟩
theorem Pre.alloc {a b : AH} (x : Pre a b) (o : AOb) : Pre a (b.alloc o) := ⟨Nat.le_trans x.n (le_alloc o), fun i hi => (alloc_lt o (Nat.lt_of_lt_of_le hi x.n)).trans (x.ob i hi)⟩
theorem Pre.set {a b : AH} (x : Pre a b) {i : Nat} (hi : a.n ≤ i) (o : AOb) : Pre a (b.set i o) := ⟨x.n, fun j hj => (set_lt o (by omega)).trans (x.ob j hj)⟩
theorem Pre.lt {a b : AH} (x : Pre a b) {i : Nat} (hi : i < a.n) : i < b.n := Nat.lt_of_lt_of_le hi x.n

/-! values' cells -/
theorem cells_int (k : IntKind) (n : Int) : (Value.int k n).cells = #[.int k n] := rfl
theorem cells_bool (b : Bool) : (Value.bool b).cells = #[.bool b] := rfl
theorem cells_string (s : ByteArray) : (Value.string s).cells = #[.string s] := rfl
theorem cells_slice (A : Option Addr) (n c : Nat) : (Value.slice A n c).cells = #[.slice A n c] := rfl
theorem cells_ptr (a : Option Addr) : (Value.pointer a).cells = #[.pointer a] := rfl
theorem cells_map (a : Option Nat) : (Value.map a).cells = #[.map a] := rfl
theorem cells_func (f : Fn) (a b : Array Value) : (Value.func f a b).cells = #[.func f a b] := rfl
theorem cells_agg (a : Array Value) : (Value.agg a).cells = a := rfl
theorem one_int (k : IntKind) (n : Int) : one (.int k n) = true := rfl
theorem one_bool (b : Bool) : one (.bool b) = true := rfl
theorem one_string (s : ByteArray) : one (.string s) = true := rfl
theorem one_slice (A : Option Addr) (n c : Nat) : one (.slice A n c) = true := rfl
theorem one_ptr (a : Option Addr) : one (.pointer a) = true := rfl
theorem one_map (a : Option Nat) : one (.map a) = true := rfl
theorem one_func (f : Fn) (a b : Array Value) : one (.func f a b) = true := rfl

/-! literals, makes, cuts, appends, conversions -/
@[congr] theorem abuild_congr {tk : Prop} (_ : tick = tk) {t t2 : TypeId} {l l2 : List (Nat × Value)} {K : Value → Prop} (et : t = t2) (el : l = l2) : abuild P t l K = abuild P t2 l2 K := by subst et; subst el; rfl
theorem abuild_eq (t : TypeId) (l : List (Nat × Value)) (K : Value → Prop) : abuild P t l K = onS (sti P t) fun i => afill (fun f => (fi P t f).map fun p => (p.1, p.2.1)) l i.zero fun cs => K (.agg cs.toArray) := by
  unfold abuild onS
  cases sti P t <;> rfl
@[congr] theorem afill_congr {tk : Prop} (_ : tick = tk) {pl pl2 : Nat → Option (Nat × Nat)} {l l2 : List (Nat × Value)} {cs cs2 : List Value} {K : List Value → Prop} (epl : pl = pl2) (el : l = l2) (ecs : cs = cs2) : afill pl l cs K = afill pl2 l2 cs2 K := by subst epl; subst el; subst ecs; rfl
theorem afill_nil (pl : Nat → Option (Nat × Nat)) (cs : List Value) (K : List Value → Prop) : afill pl [] cs K = K cs := rfl
theorem afill_cons (pl : Nat → Option (Nat × Nat)) (i : Nat) (v : Value) (r : List (Nat × Value)) (cs : List Value) (K : List Value → Prop) :
    afill pl ((i, v) :: r) cs K = onS (pl i) fun p => v.cells.size = p.2 ∧ v.cells.all one = true ∧ p.1 + p.2 ≤ cs.length ∧ afill pl r (putL cs p.1 v.cells.toList) K := by
  conv => lhs; unfold afill
  unfold onS
  cases pl i <;> rfl
@[congr] theorem abuildSlice_congr {tk : Prop} (_ : tick = tk) {h h2 : AH} {t t2 : TypeId} {n n2 : Nat} {l l2 : List (Nat × Value)} {K : Value → AH → Prop} (eh : h = h2) (et : t = t2) (en : n = n2) (el : l = l2) : abuildSlice P h t n l K = abuildSlice P h2 t2 n2 l2 K := by subst eh; subst et; subst en; subst el; rfl
theorem abuildSlice_eq (t : TypeId) (n : Nat) (l : List (Nat × Value)) (K : Value → AH → Prop) : abuildSlice P h t n l K = onS (si P t) fun p => 0 < p.2.size ∧ n * p.2.size ≤ 2 ^ 24 ∧
    afill (fun f => some (f * p.2.size, p.2.size)) l (zerosL (n * p.2.size) p.2.zero) fun cs => K (.slice (some ⟨h.n, 0, none⟩) n p.2.size) (h.alloc (.cells cs .solo h.n)) := by
  unfold abuildSlice onS
  cases si P t with
  | none => rfl
  | some p => obtain ⟨e, i⟩ := p; rfl
theorem pv_mk (ρ : Operand → Value) (i : Nat) (x : Operand) : pv ρ (i, x) = (i, ρ x) := rfl
theorem zerosL_0 (z : List Value) : zerosL 0 z = [] := rfl
theorem zerosL_1 (n : Nat) (z : Value) : zerosL n [z] = List.replicate n z := by
  apply List.ext_getElem
  · simp [zerosL]
  · intro i h1 h2; simp [zerosL, Nat.mod_one]
@[congr] theorem amake_congr {tk : Prop} (_ : tick = tk) {h h2 : AH} {t t2 : TypeId} {x x2 : Value} {y y2 : Value} {K : Value → AH → Prop} (eh : h = h2) (et : t = t2) (ex : x = x2) (ey : y = y2) : amake P h t x y K = amake P h2 t2 x2 y2 K := by subst eh; subst et; subst ex; subst ey; rfl
theorem amake_eq (t : TypeId) (n c : Int) (K : Value → AH → Prop) : amake P h t (.int .i64 n) (.int .i64 c) K = onS (si P t) fun p => 0 < p.2.size ∧ 0 ≤ n ∧ n ≤ c ∧ c < 274877906944 ∧ p.2.bytes ≤ 256 ∧
    K (.slice (some ⟨h.n, 0, none⟩) n.toNat p.2.size) (h.alloc (.cells (zerosL (n.toNat * p.2.size) p.2.zero) .solo h.n)) := by
  unfold amake onS
  cases si P t with
  | none => rfl
  | some p => obtain ⟨e, i⟩ := p; rfl
@[congr] theorem acut_congr {tk : Prop} (_ : tick = tk) {t t2 : TypeId} {x x2 : Value} {lo lo2 : Option Value} {hi hi2 : Option Value} {mx mx2 : Option Value} {K : Value → Prop} (et : t = t2) (ex : x = x2) (elo : lo = lo2) (ehi : hi = hi2) (emx : mx = mx2) : acut P t x lo hi mx K = acut P t2 x2 lo2 hi2 mx2 K := by subst et; subst ex; subst elo; subst ehi; subst emx; rfl
theorem bnd_none (d : Nat) : bnd none d = some (d : Int) := rfl
theorem bnd_int (k : IntKind) (n : Int) (d : Nat) : bnd (some (.int k n)) d = some n := rfl
theorem acut_str (t : TypeId) (s : ByteArray) (lo hi : Option Value) (K : Value → Prop) : acut P t (.string s) lo hi none K = (P.underlying t = some .string ∧
    onS (bnd lo 0) fun l => onS (bnd hi s.size) fun u => 0 ≤ l ∧ l ≤ u ∧ u ≤ (s.size : Int) ∧ K (.string (s.extract l.toNat u.toNat))) := by
  unfold acut onS
  simp only [Option.isNone_none, true_and]
  cases bnd lo 0 <;> cases bnd hi s.size <;> rfl
theorem acut_sl (t : TypeId) (id off n k : Nat) (lo hi : Option Value) (K : Value → Prop) : acut P t (.slice (some ⟨id, off, none⟩) n k) lo hi none K = onS (si P t) fun p => k = p.2.size ∧
    onS (bnd lo 0) fun l => onS (bnd hi n) fun u => 0 ≤ l ∧ l ≤ u ∧ u ≤ (n : Int) ∧ K (.slice (some ⟨id, off + l.toNat * p.2.size, none⟩) (u.toNat - l.toNat) k) := by
  unfold acut onS
  cases si P t with
  | none => rfl
  | some p =>
    obtain ⟨e, i⟩ := p
    simp only [Option.isSome_none, Bool.false_eq_true, false_implies, true_and, bnd_none]
    cases bnd lo 0 <;> cases bnd hi n <;> rfl
def notInt (o : Option TypeDesc) : Prop := (∀ k, o ≠ some (.int k)) ∧ o.isSome = true
theorem notInt_slice (e : TypeId) : notInt (some (.slice e)) = True := by simp [notInt]
theorem notInt_string : notInt (some .string) = True := by simp [notInt]
@[congr] theorem aappend_congr {tk : Prop} (_ : tick = tk) {h h2 : AH} {t t2 : TypeId} {u u2 : TypeId} {x x2 : Value} {y y2 : Value} {K : Value → AH → Prop} (eh : h = h2) (et : t = t2) (eu : u = u2) (ex : x = x2) (ey : y = y2) : aappend P h t u x y K = aappend P h2 t2 u2 x2 y2 K := by subst eh; subst et; subst eu; subst ex; subst ey; rfl
def convT (a b : Option TypeDesc) (P : Program) (h : AH) (x : Value) (K : Value → AH → Prop) : Prop :=
  match a, b, x with
  | some _, some (.int k), .int _ n => K (.int k (k.wrap n)) h
  | some .string, some .string, .string s => K (.string s) h
  | some _, some (.slice e), .string s => P.underlying e = some (.int .u8) ∧ K (.slice (some ⟨h.n, 0, none⟩) s.size 1) (h.alloc (.cells (bytesV s) .solo h.n))
  | some (.slice e), some .string, .slice Option.none 0 _ => P.underlying e = some (.int .u8) ∧ K (.string ByteArray.empty) h
  | some (.slice e), some .string, .slice (some ⟨id, off, Option.none⟩) n _ => P.underlying e = some (.int .u8) ∧
      (match (rd h id off n).bind toBytes with | some l => K (.string ⟨l.toArray⟩) h | none => False)
  | _, _, _ => False
@[congr] theorem aconv_congr {tk : Prop} (_ : tick = tk) {h h2 : AH} {s s2 : TypeId} {d d2 : TypeId} {x x2 : Value} {K : Value → AH → Prop} (eh : h = h2) (es : s = s2) (ed : d = d2) (ex : x = x2) : aconv P h s d x K = aconv P h2 s2 d2 x2 K := by subst eh; subst es; subst ed; subst ex; rfl
@[congr] theorem convT_congr {tk : Prop} (_ : tick = tk) {a a2 : Option TypeDesc} {b b2 : Option TypeDesc} {h h2 : AH} {x x2 : Value} {K : Value → AH → Prop} (ea : a = a2) (eb : b = b2) (eh : h = h2) (ex : x = x2) : convT a b P h x K = convT a2 b2 P h2 x2 K := by subst ea; subst eb; subst eh; subst ex; rfl
theorem aconv_eq (s d : TypeId) (x : Value) (K : Value → AH → Prop) : aconv P h s d x K = convT (P.underlying s) (P.underlying d) P h x K := rfl
theorem convT_int (d : TypeDesc) (k k' : IntKind) (n : Int) (K : Value → AH → Prop) : convT (some d) (some (.int k)) P h (.int k' n) K = K (.int k (k.wrap n)) h := by cases d <;> rfl
theorem convT_str (s : ByteArray) (K : Value → AH → Prop) : convT (some .string) (some .string) P h (.string s) K = K (.string s) h := rfl
theorem convT_sb (d : TypeDesc) (e : TypeId) (s : ByteArray) (K : Value → AH → Prop) : convT (some d) (some (.slice e)) P h (.string s) K =
    (P.underlying e = some (.int .u8) ∧ K (.slice (some ⟨h.n, 0, none⟩) s.size 1) (h.alloc (.cells (bytesV s) .solo h.n))) := by cases d <;> rfl
theorem convT_bs (e id off n c : Nat) (K : Value → AH → Prop) : convT (some (.slice e)) (some .string) P h (.slice (some ⟨id, off, none⟩) n c) K =
    (P.underlying e = some (.int .u8) ∧ onS ((rd h id off n).bind toBytes) fun l => K (.string ⟨l.toArray⟩) h) := by
  change (P.underlying e = some (.int .u8) ∧ (match (rd h id off n).bind toBytes with | some l => K (.string ⟨l.toArray⟩) h | none => False)) = _
  unfold onS
  cases (rd h id off n).bind toBytes <;> rfl

theorem rd_of {i : Nat} {o : AOb} (e : h.ob i = o) (off n : Nat) : rd h i off n = rdO o off n := by rw [rd_eq, e]
theorem rd1_of {i : Nat} {o : AOb} (e : h.ob i = o) (off : Nat) : rd1 h i off = rd1O o off := by rw [rd1_eq, e]
theorem rd_alloc_same (o : AOb) (off n : Nat) : rd (h.alloc o) h.n off n = rdO o off n := rd_of (alloc_same o) _ _
theorem rd1_alloc_same (o : AOb) (off : Nat) : rd1 (h.alloc o) h.n off = rd1O o off := rd1_of (alloc_same o) _
theorem rd_alloc_lt (o : AOb) {i : Nat} (e : i < h.n) (off n : Nat) : rd (h.alloc o) i off n = rd h i off n := by rw [rd_eq, rd_eq, alloc_lt o e]
theorem rd1_alloc_lt (o : AOb) {i : Nat} (e : i < h.n) (off : Nat) : rd1 (h.alloc o) i off = rd1 h i off := by rw [rd1_eq, rd1_eq, alloc_lt o e]
theorem rd_set_same (i : Nat) (o : AOb) (off n : Nat) : rd (h.set i o) i off n = rdO o off n := rd_of (set_same i o) _ _
theorem rd1_set_same (i : Nat) (o : AOb) (off : Nat) : rd1 (h.set i o) i off = rd1O o off := rd1_of (set_same i o) _
theorem rd_set_lt (o : AOb) {i j : Nat} (e : j < i) (off n : Nat) : rd (h.set i o) j off n = rd h j off n := by rw [rd_eq, rd_eq, set_lt o e]
theorem rd1_set_lt (o : AOb) {i j : Nat} (e : j < i) (off : Nat) : rd1 (h.set i o) j off = rd1 h j off := by rw [rd1_eq, rd1_eq, set_lt o e]
theorem rd_set_gt (o : AOb) {i j : Nat} (e : i < j) (off n : Nat) : rd (h.set i o) j off n = rd h j off n := by rw [rd_eq, rd_eq, set_gt o e]
theorem rd1_set_gt (o : AOb) {i j : Nat} (e : i < j) (off : Nat) : rd1 (h.set i o) j off = rd1 h j off := by rw [rd1_eq, rd1_eq, set_gt o e]
theorem nadd (h : AH) (a b : Nat) : h.n + a + b = h.n + (a + b) := Nat.add_assoc _ _ _
theorem nlt (h : AH) {a b : Nat} (e : a < b) : (h.n + a < h.n + b) = True := by simp [e]
theorem nlt0 (h : AH) {b : Nat} (e : 0 < b) : (h.n < h.n + b) = True := by simp [e]
theorem nltl {h : AH} {p : Nat} (b : Nat) (e : p < h.n) : (p < h.n + b) = True := by simp; omega
theorem neq (h : AH) (a b : Nat) : (h.n + a = h.n + b) = (a = b) := by simp
theorem neq0 (h : AH) (b : Nat) : (h.n = h.n + b) = (b = 0) := by apply propext; omega
theorem alloc_eq (o : AOb) {i : Nat} (e : i = h.n) : (h.alloc o).ob i = o := by rw [e]; exact alloc_same o
theorem rd_alloc_eq (o : AOb) {i : Nat} (e : i = h.n) (off n : Nat) : rd (h.alloc o) i off n = rdO o off n := by rw [e]; exact rd_alloc_same o off n
theorem rd1_alloc_eq (o : AOb) {i : Nat} (e : i = h.n) (off : Nat) : rd1 (h.alloc o) i off = rd1O o off := by rw [e]; exact rd1_alloc_same o off
theorem alloc_n' (o : AOb) : (h.alloc o).n = h.n + 1 := rfl
theorem set_n' (i : Nat) (o : AOb) : (h.set i o).n = h.n := rfl
theorem kill_n' (i : Nat) : (h.kill i).n = h.n := rfl
attribute [push_cast] nadd nlt nlt0 nltl neq neq0 alloc_eq rd_alloc_eq rd1_alloc_eq alloc_n' set_n' kill_n'
attribute [push_cast] tick_eq abinT_int abinT_str abinT_beq abinT_bne onS_some onS_ite onS_none onB_bool onB_undef pick2_true pick2_false pick2_bool ag_yes ag_no thn_normal thn_ret thn_exit blk_normal blk_ret blk_exit eqN_same wpc_seq wpc_skip wpc_ret wpc_exit
  wpc_label wpc_region wpc_draw wpc_loop wpc_block wpc_cond aops_nil aops_cons aops_guard aev_tmp aev_const aev_global aev_func put_some put_none aop_move aop_assign aop_pick aop_alloc aop_box aop_build aop_buildSlice
  aop_load aop_store anil_ptr aop_nilCheck aop_binOp aop_unOp aop_convert aop_makeFunc aop_makeMap aop_makeSlice aop_slice aop_fieldAddr aop_field aop_indexAddr aop_index aop_extract aop_call aop_builtin
  noArr_string noArr_slice acall_func abuiltin_append abuiltin_len abuiltin_min abuiltin_max
  abin_add abin_sub abin_mul abin_quo abin_rem abin_and abin_or abin_xor abin_shl abin_shr abin_eql abin_neq abin_lss abin_leq abin_gtr abin_geq abin_adds abin_eqls abin_neqs abin_lsss abin_leqs abin_gtrs abin_geqs aun_not aun_neg
  aload_ptr aloadT_one aloadT_agg astore_ptr astoreT_some afieldAddr_ptr afa_some afield_agg afl_one afl_agg aindexAddr_sl aixT_some aindex_str aextract_tuple alen_eq alenT_str alenT_sl
  bodyQ_ret bodyQ_normal ares_nil ares_tmp ares_cell packed_one packed_two packed_three packed_nil wr_eq rd_alloc_same rd1_alloc_same rd_alloc_lt rd1_alloc_lt rd_set_same rd1_set_same rd_set_lt rd1_set_lt rd_set_gt rd1_set_gt rdO_cells rd1O_cells wrO_solo putL_nil putL_cons alloc_same alloc_lt set_same set_lt set_gt
  cells_int cells_bool cells_string cells_slice cells_ptr cells_map cells_func cells_agg one_int one_bool one_string one_slice one_ptr one_map one_func
  abuild_eq afill_nil afill_cons abuildSlice_eq pv_mk zerosL_0 zerosL_1 amake_eq bnd_none bnd_int acut_str acut_sl notInt_slice notInt_string aconv_eq convT_int convT_str convT_sb convT_bs
  bcase_true bcase_false bcase_not gd_succ gd_zero
  List.map_cons List.map_nil List.getElem?_cons_succ List.getElem?_cons_zero Option.bind_some List.getD_cons_succ List.getD_cons_zero List.set_cons_succ List.set_cons_zero List.length_cons List.length_nil
  List.all_cons List.all_nil Bool.and_true Bool.true_and List.size_toArray Option.map_some Option.map_none true_and and_true List.append_nil List.nil_append List.cons_append
  List.drop_zero List.drop_succ_cons List.take_succ_cons List.take_zero List.take_nil List.drop_nil List.getElem?_toArray List.all_toArray

end Go.Sim
