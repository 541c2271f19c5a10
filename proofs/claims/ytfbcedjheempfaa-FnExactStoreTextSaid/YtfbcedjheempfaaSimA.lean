/- Operations, code and calls: what the abstract heap tells of them holds of the model's run. Conditions: those that each theorem names. -/
import Derived.Test.YtfbcedjheempfaaSim9
set_option linter.unusedVariables false
set_option linter.unusedSimpArgs false
namespace Go.Sim
variable {P : Program} {FB : Nat → Prop} {w0 : World} {μ : Nat → Option Loc} {h : AH} {w : World}

/-! ### calls -/
/-- A call of this function with these arguments ends, and R holds of what it gives and of the heap then: in the model's words, for a call that is entered. -/
def CE (P : Program) (f : FuncId) (args : List Value) (h : AH) (R : Value → AH → Prop) : Prop :=
  ∀ FB w0 μ (w : World) (cargs : Array Value) (R' : Ending → World → Prop), Sim P FB w0 μ h w → LR μ args cargs.toList →
    (∀ v h' μ' cv w', R v h' → Post P FB w0 μ h μ' h' w' → VR μ' v cv → R' (.returned cv) w') → Calls P f cargs w R'
/-- The same of a call as an operation. -/
def CC (P : Program) (f : FuncId) (args : List Value) (h : AH) (R : Value → AH → Prop) : Prop :=
  ∀ FB w0 μ (w : World) (cargs : Array Value) (o : Oper) (a : Act) (K : Act → World → Prop) (Q : Exit → Act → World → Prop), Sim P FB w0 μ h w → LR μ args cargs.toList →
    (∀ v h' μ' cv w', R v h' → Post P FB w0 μ h μ' h' w' → VR μ' v cv → K (a.put o.dst cv) w') → o.upon P a K Q ((callFunc f cargs).run P w)

theorem CC.mono {f : FuncId} {args : List Value} {R R' : Value → AH → Prop} (hc : CC P f args h R) (hr : ∀ v h', R v h' → R' v h') : CC P f args h R' :=
  fun FB w0 μ w cargs o a K Q s ha hk => hc FB w0 μ w cargs o a K Q s ha (fun v h' μ' cv w' r => hk v h' μ' cv w' (hr v h' r))

def callB (P : Program) (f : FuncId) : Bool :=
  match P.funcs[f]? with
  | some fn => fn.name != "runtime.NumGoroutine" && fn.body.isSome
  | none => false

theorem CE.call {f : FuncId} {args : List Value} {R : Value → AH → Prop} (hb : callB P f = true) (hc : CE P f args h R) : CC P f args h R := by
  intro FB w0 μ w cargs o a K Q s ha hk
  unfold callB at hb
  split at hb
  · rename_i fn hf
    simp only [Bool.and_eq_true, bne_iff_ne, ne_eq] at hb
    obtain ⟨hn, hbody⟩ := hb
    obtain ⟨cd, hcd⟩ := Option.isSome_iff_exists.1 hbody
    have hrun : (callFunc f cargs).run P w = .ok (.enter f cargs) w := by
      simp [callFunc, hf, hn, hcd]
    rw [hrun]
    simp only [Oper.upon]
    exact hc FB w0 μ w cargs _ s ha (fun v h' μ' cv w' r p hv => hk v h' μ' cv w' r p hv)
  · cases hb

/-! ### one operation -/
def acall (P : Program) (h : AH) (f : Value) (args : List Value) (K : Value → AH → Prop) : Prop :=
  match f with
  | .func (.func fid) first captured => CC P fid (first.toList ++ args ++ captured.toList) h K
  | _ => False

def abuiltin (P : Program) (h : AH) (b : Builtin) (ts : List TypeId) (args : List Value) (K : Value → AH → Prop) : Prop :=
  match b, ts, args with
  | .append, [t, u], [x, y] => aappend P h t u x y K
  | .len, [t], [x] => alen P h t x fun v => K v h
  | .min, _, l => (match aminmax false l with | some v => K v h | none => False)
  | .max, _, l => (match aminmax true l with | some v => K v h | none => False)
  | _, _, _ => False

def aop (P : Program) (o : Op) (ρ : Operand → Value) (h : AH) (K : Value → AH → Prop) : Prop :=
  match o with
  | .move x | .assign x => K (ρ x) h
  | .pick c a b => (match ρ c with | .bool t => K (if t then ρ a else ρ b) h | _ => False)
  | .alloc t => (match ti P t with | some i => K (.pointer (some ⟨h.n, 0, none⟩)) (h.alloc (.cells i.zero .solo h.n)) | none => False)
  | .box t x => (ρ x).cells.toList.all one = true ∧ K (.pointer (some ⟨h.n, 0, none⟩)) (h.alloc (.cells (ρ x).cells.toList .solo h.n))
  | .build t ps => abuild P t (ps.toList.map (pv ρ)) fun v => K v h
  | .buildSlice t len ps => abuildSlice P h t len (ps.toList.map (pv ρ)) K
  | .load t x => aload P h t (ρ x) fun v => K v h
  | .store t x y => astore P h t (ρ x) (ρ y) fun h' => K undef h'
  | .nilCheck x => (match ρ x with | .pointer (some a) => K (.pointer (some a)) h | _ => False)
  | .binOp op t x y _ => abinT P op t (ρ x) (ρ y) fun v => K v h
  | .unOp op _ x => aun op (ρ x) fun v => K v h
  | .convert s d x => aconv P h s d (ρ x) K
  | .makeFunc fn f c => K (.func fn (f.map ρ) (c.map ρ)) h
  | .makeMap _ none => K (.map (some h.n)) (h.alloc (.map []))
  | .makeSlice t x y => amake P h t (ρ x) (ρ y) K
  | .slice t x lo hi mx => (match P.underlying t with | some (.array _ _) => False | _ => acut P t (ρ x) (lo.map ρ) (hi.map ρ) (mx.map ρ) fun v => K v h)
  | .fieldAddr t x f => afieldAddr P t (ρ x) f fun v => K v h
  | .field t x f => afield P t (ρ x) f fun v => K v h
  | .indexAddr t x y => aindexAddr P t (ρ x) (ρ y) fun v => K v h
  | .index t x y => aindex P t (ρ x) (ρ y) fun v => K v h
  | .extract x i => aextract (ρ x) i fun v => K v h
  | .call c =>
    (match c.callee with
     | .value f => acall P h (ρ f) (c.args.toList.map ρ) K
     | .builtin b => abuiltin P h b c.argTypes.toList (c.args.toList.map ρ) K
     | .invoke _ _ => False)
  | _ => False

theorem AIns.op' {o : Oper} {S : (Operand → Value) → Sem Value} {ρ : Operand → Value} {v : Value} {h' : AH} {l : List Operand} (hs : AIns P S l ρ h v h') (hl : ∀ x ∈ l, x ∈ o.op.operands)
    (he : ∀ σ, execOp σ o = (do pure (.value (← S σ)))) : AOp P o ρ h v h' := by
  intro FB w0 μ a w K Q s hx hk
  obtain ⟨μ', cv, w', hr, p, hv⟩ := hs FB w0 μ a.eval w s (fun x hx' => hx x (hl x hx'))
  unfold Oper.wp
  rw [he]
  simp only [Sem.run_bind, hr, Result.andThen_ok, Sem.run_pure, Oper.upon]
  exact hk μ' cv w' p hv

theorem LR.map_ops {ρ σ : Operand → Value} {l : List Operand} (hx : ∀ x ∈ l, VR μ (ρ x) (σ x)) : LR μ (l.map ρ) (l.map σ) :=
  ⟨by simp, fun j a b => by
    simp only [List.getElem_map]
    exact hx _ (List.getElem_mem _)⟩

theorem quietOp {o : Oper} {ρ : Operand → Value} {v : Value} (hs : ∀ FB w0 μ (σ : Operand → Value) (w : World), Sim P FB w0 μ h w → (∀ x ∈ o.op.operands, VR μ (ρ x) (σ x)) → ∃ cv, (execOp σ o).run P w = .ok (.value cv) w ∧ VR μ v cv) :
    AOp P o ρ h v h := by
  intro FB w0 μ a w K Q s hx hk
  obtain ⟨cv, hr, hv⟩ := hs FB w0 μ a.eval w s hx
  unfold Oper.wp
  rw [hr]
  exact hk μ cv w s.post hv

theorem args_one {l : List Operand} {ρ : Operand → Value} {x : Value} (e : l.map ρ = [x]) : ∃ xo, l = [xo] ∧ ρ xo = x := by
  match l, e with
  | [a], e => exact ⟨a, rfl, by simpa using e⟩
theorem args_two {l : List Operand} {ρ : Operand → Value} {x y : Value} (e : l.map ρ = [x, y]) : ∃ xo yo, l = [xo, yo] ∧ ρ xo = x ∧ ρ yo = y := by
  match l, e with
  | [a, b], e => exact ⟨a, b, rfl, by simpa using e⟩

/-- An operation: what stands behind it. -/
def QOp (P : Program) (o : Oper) (ρ : Operand → Value) (h : AH) (K : Value → AH → Prop) : Prop :=
  ∀ FB w0 μ (a : Act) (w : World) (K' : Act → World → Prop) (Q : Exit → Act → World → Prop), Sim P FB w0 μ h w → (∀ x ∈ o.op.operands, VR μ (ρ x) (a.eval x)) →
    (∀ v h' μ' cv w', K v h' → Post P FB w0 μ h μ' h' w' → VR μ' v cv → K' (a.put o.dst cv) w') → o.wp P a w K' Q
theorem QOp.of {o : Oper} {ρ : Operand → Value} {K : Value → AH → Prop} (e : ∃ v h', AOp P o ρ h v h' ∧ K v h') : QOp P o ρ h K := by
  obtain ⟨v, h', a, b⟩ := e
  exact fun FB w0 μ act w K' Q s hx hk => a FB w0 μ act w K' Q s hx (fun μ' cv w' => hk v h' μ' cv w' b)
theorem acall_sound {o : Oper} {c : Call} {f : Operand} {ρ : Operand → Value} {K : Value → AH → Prop} (e : o.op = .call c) (hf : c.callee = .value f) (hk : acall P h (ρ f) (c.args.toList.map ρ) K) : QOp P o ρ h K := by
  unfold acall at hk
  split at hk
  · rename_i fid first captured hp
    intro FB w0 μ act w K' Q s hx hk'
    have hops : ∀ x ∈ c.args.toList, VR μ (ρ x) (act.eval x) := fun x hx' => hx x (by simp [e, Op.operands, Call.operands, hf]; right; simpa using hx')
    have hvf := hx f (by simp [e, Op.operands, Call.operands, hf])
    rw [hp] at hvf
    generalize hc : act.eval f = cf at hvf
    cases hvf with
    | plain _ hq => simp [isPlain] at hq
    | func _ _ f' _ c' hfs hcs ef ec =>
      unfold Oper.wp
      have hrun : (execOp act.eval o).run P w = (callFunc fid (f' ++ c.args.map act.eval ++ c')).run P w := by
        simp [execOp, e, resolve, hf, hc, Deferred.ofValue, invoke]
      rw [hrun]
      refine hk FB w0 μ w _ o act K' Q s ?_ hk'
      have l1 : LR μ first.toList f'.toList := AR.list ⟨hfs, ef⟩
      have l2 : LR μ captured.toList c'.toList := AR.list ⟨hcs, ec⟩
      have l3 : LR μ (c.args.toList.map ρ) (c.args.map act.eval).toList := by simpa using LR.map_ops hops
      simpa using (l1.append l3).append l2
  · exact hk.elim

theorem aop_sound {o : Oper} {ρ : Operand → Value} {K : Value → AH → Prop} (hk : aop P o.op ρ h K) : QOp P o ρ h K := by
  by_cases hcall : ∃ c f, o.op = .call c ∧ c.callee = .value f
  · obtain ⟨c, f, e, hf⟩ := hcall
    rw [e] at hk
    simp only [aop, hf] at hk
    exact acall_sound e hf hk
  refine QOp.of ?_
  unfold aop at hk
  split at hk
  · rename_i x e
    refine ⟨_, _, quietOp (fun FB w0 μ σ w s hx => ⟨σ x, by simp [execOp, e], hx x (by simp [e, Op.operands])⟩), hk⟩
  · rename_i x e
    refine ⟨_, _, quietOp (fun FB w0 μ σ w s hx => ⟨σ x, by simp [execOp, e], hx x (by simp [e, Op.operands])⟩), hk⟩
  · rename_i c a b e
    split at hk
    · rename_i t ht
      refine ⟨_, _, quietOp (fun FB w0 μ σ w s hx => ?_), hk⟩
      have hc := hx c (by simp [e, Op.operands])
      rw [ht] at hc
      have ha := hx a (by simp [e, Op.operands])
      have hb := hx b (by simp [e, Op.operands])
      refine ⟨if t then σ a else σ b, by simp [execOp, e, hc.bool, asBool], ?_⟩
      cases t
      · simpa using hb
      · simpa using ha
    · exact hk.elim
  · rename_i t e
    split at hk
    · rename_i i hi
      exact ⟨_, _, (alloc_sound (ρ := ρ) hi).op' (by simp) (fun σ => by simp only [execOp, e]), hk⟩
    · exact hk.elim
  · rename_i t x e
    obtain ⟨h1, hk⟩ := hk
    exact ⟨_, _, (box_sound (t := t) (x := x) (ρ := ρ) (fun v hv => List.all_eq_true.1 h1 v hv)).op' (by simp [e, Op.operands]) (fun σ => by simp only [execOp, e]), hk⟩
  · rename_i t ps e
    obtain ⟨v, a, b⟩ := abuild_sound (h := h) hk
    exact ⟨v, h, a.op' (by simp [e, Op.operands]) (fun σ => by simp only [execOp, e]; rfl), b⟩
  · rename_i t len ps e
    obtain ⟨v, h', a, b⟩ := abuildSlice_sound hk
    exact ⟨v, h', a.op' (by simp [e, Op.operands]) (fun σ => by simp only [execOp, e]; rfl), b⟩
  · rename_i t x e
    obtain ⟨v, a, b⟩ := aload_sound hk
    exact ⟨v, h, a.op' (by simp [e, Op.operands]) (fun σ => by simp only [execOp, e]), b⟩
  · rename_i t x y e
    obtain ⟨h', a, b⟩ := astore_sound e hk
    exact ⟨_, h', a, b⟩
  · rename_i x e
    split at hk
    · rename_i ad hp
      refine ⟨_, _, quietOp (fun FB w0 μ σ w s hx => ?_), hk⟩
      have hv := hx x (by simp [e, Op.operands])
      rw [hp] at hv
      refine ⟨σ x, ?_, hv⟩
      generalize hc : σ x = c at hv
      cases hv with
      | plain _ hq => simp [isPlain] at hq
      | ptr i off l hm => simp [execOp, e, hc]
    · exact hk.elim
  · rename_i op t x y yt e
    obtain ⟨v, a, b⟩ := abinT_sound (h := h) hk
    exact ⟨v, h, a.op' (by simp [e, Op.operands]) (fun σ => by simp only [execOp, e]), b⟩
  · rename_i op t x e
    obtain ⟨v, a, b⟩ := aun_sound (P := P) (h := h) hk
    exact ⟨v, h, a.op' (by simp [e, Op.operands]) (fun σ => by simp only [execOp, e]), b⟩
  · rename_i sr d x e
    obtain ⟨v, h', a, b⟩ := aconv_sound hk
    exact ⟨v, h', a.op' (by simp [e, Op.operands]) (fun σ => by simp only [execOp, e]), b⟩
  · rename_i fn f c e
    refine ⟨_, _, quietOp (fun FB w0 μ σ w s hx => ?_), hk⟩
    refine ⟨.func fn (f.map σ) (c.map σ), by simp [execOp, e, Instr.makeFunc], ?_⟩
    exact .func _ _ _ _ _ (by simp) (by simp) (fun j a b => by simp only [Array.getElem_map]; exact hx _ (by simp [e, Op.operands])) (fun j a b => by simp only [Array.getElem_map]; exact hx _ (by simp [e, Op.operands]))
  · rename_i t e
    refine ⟨_, _, ?_, hk⟩
    intro FB w0 μ a w K' Q s hx hk'
    unfold Oper.wp
    have : (execOp a.eval o).run P w = .ok (.value (.map (some w.heap.size))) (w.alloc (.map #[] 0)) := by
      simp [execOp, e, Instr.makeMap]
    rw [this]
    exact hk' _ _ _ s.newMap (.map h.n ⟨w.heap.size, 0, 0⟩ (upd_same _ _))
  · rename_i t x y e
    obtain ⟨v, h', a, b⟩ := amake_sound hk
    exact ⟨v, h', a.op' (by simp [e, Op.operands]) (fun σ => by simp only [execOp, e]), b⟩
  · rename_i t x lo hi mx e
    split at hk
    · exact hk.elim
    · rename_i hna
      obtain ⟨v, a, b⟩ := acut_sound (h := h) (fun n e' hh => hna n e' hh) hk
      refine ⟨v, h, a.op' (fun z hz => ?_) (fun σ => by simp only [execOp, e]), b⟩
      simp only [e, Op.operands]
      simpa using hz
  · rename_i t x f e
    obtain ⟨v, a, b⟩ := afieldAddr_sound (h := h) hk
    exact ⟨v, h, a.op' (by simp [e, Op.operands]) (fun σ => by simp only [execOp, e]), b⟩
  · rename_i t x f e
    obtain ⟨v, a, b⟩ := afield_sound (h := h) hk
    exact ⟨v, h, a.op' (by simp [e, Op.operands]) (fun σ => by simp only [execOp, e]), b⟩
  · rename_i t x y e
    obtain ⟨v, a, b⟩ := aindexAddr_sound (h := h) hk
    exact ⟨v, h, a.op' (by simp [e, Op.operands]) (fun σ => by simp only [execOp, e]), b⟩
  · rename_i t x y e
    obtain ⟨v, a, b⟩ := aindex_sound (h := h) hk
    exact ⟨v, h, a.op' (by simp [e, Op.operands]) (fun σ => by simp only [execOp, e]), b⟩
  · rename_i x i e
    obtain ⟨v, a, b⟩ := aextract_sound (P := P) (h := h) hk
    exact ⟨v, h, a.op' (by simp [e, Op.operands]) (fun σ => by simp only [execOp, e]), b⟩
  · rename_i c e
    split at hk
    · rename_i f hf
      exact absurd ⟨c, f, e, hf⟩ hcall
    · rename_i b hb
      unfold abuiltin at hk
      split at hk
      · rename_i t u x y hts hargs
        obtain ⟨xo, yo, hxy', rfl, rfl⟩ := args_two hargs
        have hxy : c.args = #[xo, yo] := by apply Array.toList_inj.1; simpa using hxy'
        obtain ⟨v, h', a, b'⟩ := aappend_sound (ty := o.type) hk
        refine ⟨v, h', a.op' (by simp [e, Op.operands, Call.operands, hb, hxy]) (fun σ => ?_), b'⟩
        have htt : c.argTypes = #[t, u] := by apply Array.toList_inj.1; simpa using hts
        simp only [execOp, e, resolve, hb, hxy, htt]
        simp [invoke, builtin]
      · rename_i t x hts hargs
        obtain ⟨xo, hx', rfl⟩ := args_one hargs
        have hxy : c.args = #[xo] := by apply Array.toList_inj.1; simpa using hx'
        have htt : c.argTypes = #[t] := by apply Array.toList_inj.1; simpa using hts
        obtain ⟨v, a, b'⟩ := alen_sound (ty := o.type) hk
        refine ⟨v, h, a.op' (by simp [e, Op.operands, Call.operands, hb, hxy]) (fun σ => ?_), b'⟩
        simp only [execOp, e, resolve, hb, hxy, htt]
        simp [invoke, builtin]
      all_goals first | exact hk.elim | skip
      all_goals
        split at hk
        · rename_i v hv
          refine ⟨v, h, quietOp (fun FB w0 μ σ w s hx => ?_), hk⟩
          obtain ⟨q1, q2, q3⟩ := aminmax_run P w _ c.argTypes o.type hv
          have harg : c.args.map σ = (c.args.toList.map ρ).toArray := by
            apply Array.toList_inj.1
            simp only [Array.toList_map]
            refine List.map_congr_left (fun z hz => ?_)
            have hz' := hx z (by simp [e, Op.operands, Call.operands, hb]; simpa using hz)
            exact hz'.plainEq (q2 _ (List.mem_map.2 ⟨z, hz, rfl⟩))
          refine ⟨v, ?_, .plain v q1⟩
          simp only [execOp, e, resolve, hb, harg]
          simp only [if_true, if_false, Bool.false_eq_true] at q3
          simp only [pure_bind, invoke, builtin, Sem.run_bind, q3, Result.andThen_ok, Sem.run_pure]
        · exact hk.elim
    · exact hk.elim
  · exact hk.elim

end Go.Sim
