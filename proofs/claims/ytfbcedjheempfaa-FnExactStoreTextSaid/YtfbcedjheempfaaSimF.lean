/- Regions that draw their order: soundness of the walk. Conditions: those that each theorem names. -/
import Derived.Test.YtfbcedjheempfaaSimE
set_option linter.unusedVariables false
set_option linter.unusedSimpArgs false
namespace Go.Sim
variable {P : Program} {FB : Nat → Prop} {w0 : World} {μ : Nat → Option Loc} {h : AH} {w : World} {ops : Array Oper}

def dsOf (ops : Array Oper) : List (Option Tmp) := ops.toList.map (·.dst)

/-- One operation of a region, where it is wanted: what stands behind it. -/
def q1 (P : Program) (ds : List (Option Tmp)) (o : Oper) (t : List Value) (h : AH) (K : List Value → AH → Prop) : Prop :=
  if wantedL ds t o = true then QOp P o (aev t) h fun v h' => K (put t o.dst v) h' else K (put t o.dst undef) h

theorem QOp.mono {o : Oper} {ρ : Operand → Value} {K K' : Value → AH → Prop} (hq : QOp P o ρ h K) (hk : ∀ v h', K v h' → K' v h') : QOp P o ρ h K' :=
  fun FB w0 μ a w K2 Q s hx hk2 => hq FB w0 μ a w K2 Q s hx (fun v h' μ' cv w' k => hk2 v h' μ' cv w' (hk v h' k))
theorem QOp.congr {o : Oper} {ρ ρ' : Operand → Value} {K : Value → AH → Prop} (hq : QOp P o ρ h K) (he : ∀ x ∈ o.op.operands, ρ x = ρ' x) : QOp P o ρ' h K :=
  fun FB w0 μ a w K2 Q s hx hk2 => hq FB w0 μ a w K2 Q s (fun x hx' => by rw [he x hx']; exact hx x hx') hk2
theorem q1_mono {ds : List (Option Tmp)} {o : Oper} {t : List Value} {K K' : List Value → AH → Prop} (hq : q1 P ds o t h K) (hk : ∀ t h', K t h' → K' t h') : q1 P ds o t h K' := by
  unfold q1 at *
  split
  · rename_i hw; rw [if_pos hw] at hq; exact hq.mono (fun v h' => hk _ h')
  · rename_i hw; rw [if_neg hw] at hq; exact hk _ _ hq

theorem q1_wp {o : Oper} {t : List Value} {Kc : List Value → AH → Prop} (hs : q1 P (dsOf ops) o t h Kc) (hok : ∀ x ∈ o.op.operands, opdOK P.globals.size x = true)
    {a : Act} {K : Act → World → Prop} {Q : Exit → Act → World → Prop} (s : Sim P FB w0 μ h w) (ht : LR μ t a.tmps.toList) (hd : a.defers = [])
    (hk : ∀ t' h' μ' a' w', Kc t' h' → Post P FB w0 μ h μ' h' w' → LR μ' t' a'.tmps.toList → a'.defers = [] → K a' w') :
    if Region.wanted o (yielded ops a.tmps) then o.wp P a w K Q else K (a.put o.dst undef) w := by
  rw [wantedL_eq ht]
  unfold q1 dsOf at hs
  by_cases hw : wantedL (ops.toList.map (·.dst)) t o = true
  · rw [if_pos hw] at hs ⊢
    exact hs FB w0 μ a w K Q s (fun x hx => aev_VR s ht (hok x hx)) (fun v h' μ' cv w' hkv p hv => hk _ h' μ' _ w' hkv p (put_LR (ht.ext p.ext) o.dst hv) (by rw [put_defers]; exact hd))
  · rw [if_neg hw] at hs ⊢
    exact hk _ h μ _ w hs s.post (put_LR ht o.dst (VR.undef μ)) (by rw [put_defers]; exact hd)

/-! ### operations apart -/
theorem aev_put {t : List Value} {d : Option Tmp} {v : Value} {x : Operand} (hne : ∀ i, d = some i → x ≠ .tmp i) : aev (put t d v) x = aev t x := by
  cases d with
  | none => rfl
  | some i =>
    cases x with
    | tmp j =>
      have : i ≠ j := fun e => hne i rfl (by rw [e])
      simp [aev, put, List.getD, List.getElem?_set, this]
    | _ => rfl
theorem mem_looks_op {o : Oper} {d : Tmp} (hx : Operand.tmp d ∈ o.op.operands) : d ∈ o.looksAt ops :=
  List.mem_append_left _ (List.mem_filterMap.2 ⟨.tmp d, by simpa using hx, rfl⟩)
theorem aev_apart {o : Oper} {t : List Value} {d : Option Tmp} {v : Value} (hn : ∀ i, d = some i → i ∉ o.looksAt ops) : ∀ x ∈ o.op.operands, aev (put t d v) x = aev t x := fun x hx =>
  aev_put (fun i hi e => hn i hi (mem_looks_op (by rw [← e]; exact hx)))
theorem yl_put {t : List Value} {d : Option Tmp} {v : Value} {j : Nat} {ds : List (Option Tmp)} (hn : ∀ i, d = some i → (ds[j]?).bind id ≠ some i) : yl ds (put t d v) j = yl ds t j := by
  unfold yl
  cases hb : (ds[j]?).bind id with
  | none => rfl
  | some e =>
    cases d with
    | none => rfl
    | some i =>
      have : i ≠ e := fun x => hn i rfl (by rw [hb, x])
      simp [put, List.getElem?_set, this]
theorem wantedL_apart {o : Oper} {t : List Value} {d : Option Tmp} {v : Value} (hn : ∀ i, d = some i → i ∉ o.looksAt ops) : wantedL (dsOf ops) (put t d v) o = wantedL (dsOf ops) t o := by
  unfold wantedL
  cases hg : o.guard with
  | none => rfl
  | some p =>
    obtain ⟨g, want⟩ := p
    simp only
    rw [yl_put (fun i hi e => hn i hi ?_)]
    refine List.mem_append_right _ ?_
    rw [hg]
    simp only [Option.mem_toList]
    have e1 : ((dsOf ops)[g]?).bind id = (ops[g]?).bind (·.dst) := by
      unfold dsOf
      rw [List.getElem?_map, Array.getElem?_toList]
      cases ops[g]? <;> rfl
    rw [← e1]; exact e
theorem put_comm (t : List Value) {x y : Option Tmp} (v u : Value) (hn : ∀ d, x = some d → y ≠ some d) : put (put t x v) y u = put (put t y u) x v := by
  cases x with
  | none => rfl
  | some d =>
    cases y with
    | none => rfl
    | some e =>
      have : d ≠ e := fun he => hn d rfl (by rw [he])
      simp only [put]
      exact List.set_comm _ _ this

/-- Quiet: this value, in whatever heap of the class. -/
def Qt (P : Program) (ds : List (Option Tmp)) (o : Oper) (t : List Value) (v : Value) (C : AH → Prop) : Prop :=
  if wantedL ds t o = true then ∀ h', C h' → ∀ K : Value → AH → Prop, K v h' → QOp P o (aev t) h' K else v = undef
theorem Qt.q1 {ds : List (Option Tmp)} {o : Oper} {t : List Value} {v : Value} {C : AH → Prop} (hq : Qt P ds o t v C) (hC : C h) {K : List Value → AH → Prop} (hk : K (put t o.dst v) h) : q1 P ds o t h K := by
  unfold Qt at hq; unfold Sim.q1
  split
  · rename_i hw; rw [if_pos hw] at hq; exact hq h hC (fun v h' => K (put t o.dst v) h') hk
  · rename_i hw; rw [if_neg hw] at hq; subst hq; exact hk
theorem Qt.put {o : Oper} {t : List Value} {v u : Value} {C : AH → Prop} {d : Option Tmp} (hq : Qt P (dsOf ops) o t v C) (hn : ∀ i, d = some i → i ∉ o.looksAt ops) : Qt P (dsOf ops) o (put t d u) v C := by
  unfold Qt at *
  rw [wantedL_apart hn]
  split
  · rename_i hw; rw [if_pos hw] at hq
    exact fun h' hC K hK => (hq h' hC K hK).congr (fun x hx => (aev_apart hn x hx).symm)
  · rename_i hw; rw [if_neg hw] at hq; exact hq
/-- An operation apart from one that was taken first. -/
theorem q1_put {oi oj : Oper} {t : List Value} {v : Value} (hap : oi.apart ops oj = true) {K : List Value → AH → Prop} (hq : q1 P (dsOf ops) oj (put t oi.dst v) h K) :
    q1 P (dsOf ops) oj t h fun t' h' => K (put t' oi.dst v) h' ∧ ∃ u, t' = put t oj.dst u := by
  obtain ⟨h1, h2, h3⟩ := Oper.apart_spec hap
  unfold q1 at *
  rw [wantedL_apart h1] at hq
  split
  · rename_i hw; rw [if_pos hw] at hq
    refine (hq.congr (fun x hx => aev_apart h1 x hx)).mono (fun u h' k => ⟨?_, u, rfl⟩)
    rw [← put_comm t v u h2]; exact k
  · rename_i hw; rw [if_neg hw] at hq
    refine ⟨?_, undef, rfl⟩
    rw [← put_comm t v undef h2]; exact hq

/-! ### all orders -/
/-- The operations that one waits for. -/
def preds (o : Oper) (k : Nat) : Prop := ∃ e ∈ o.after, Region.binds .any e = true ∧ e.on = k
/-- What is watched: an operation's number and the object that it read. -/
def keepS (S : List (Nat × Nat)) (o : Oper) (h h' : AH) : Prop := ∀ p ∈ S, ¬ preds o p.1 → h'.ob p.2 = h.ob p.2
def tree (P : Program) (ops : Array Oper) (S : List (Nat × Nat)) (Q : List Value → AH → Prop) : Nat → Array Bool → List Value → AH → Prop
  | 0, listed, t, h => Region.ready .any ops listed = [] ∧ Q t h
  | fuel + 1, listed, t, h => (Region.ready .any ops listed = [] → Q t h) ∧
    ∀ i ∈ Region.ready .any ops listed, ∀ o, ops[i]? = some o → q1 P (dsOf ops) o t h fun t' h' => keepS S o h h' ∧ tree P ops S Q fuel (listed.setIfInBounds i true) t' h'

theorem wpOp_of {Q : Exit → Act → World → Prop} {i : Nat} {o : Oper} {K : Act → World → Prop} {a : Act} {w : World} (ho : ops[i]? = some o)
    (hk : if Region.wanted o (yielded ops a.tmps) = true then Oper.wp P o a w K Q else K (a.put o.dst undef) w) : wpOp P ops Q i K a w := by
  unfold wpOp
  rw [ho]
  simp only
  split
  · rename_i hw; rw [if_pos hw] at hk; exact .inl hk
  · rename_i hw; rw [if_neg hw] at hk; exact hk

theorem tree_sound {S : List (Nat × Nat)} {Qa : List Value → AH → Prop} {Q : Exit → Act → World → Prop} (hok : ∀ o ∈ ops.toList, ∀ x ∈ o.op.operands, opdOK P.globals.size x = true) :
    ∀ (fuel : Nat) (listed : Array Bool) (t : List Value) (h : AH) (μ : Nat → Option Loc) (a : Act) (w : World), tree P ops S Qa fuel listed t h → Sim P FB w0 μ h w → LR μ t a.tmps.toList → a.defers = [] →
      (∀ t' h' μ' a' w', Qa t' h' → Post P FB w0 μ h μ' h' w' → LR μ' t' a'.tmps.toList → a'.defers = [] → Q .normal a' w') → wpAny P .any ops Q fuel listed a w
  | 0, listed, t, h, μ, a, w, hk, s, ht, hd, hq => ⟨hk.1, hq t h μ a w hk.2 s.post ht hd⟩
  | fuel + 1, listed, t, h, μ, a, w, hk, s, ht, hd, hq => by
    refine ⟨fun e => hq t h μ a w (hk.1 e) s.post ht hd, fun i hi => ?_⟩
    obtain ⟨_, o, ho, _⟩ := mem_ready.1 hi
    refine wpOp_of ho (q1_wp (hk.2 i hi o ho) (hok o (by simpa using Array.mem_of_getElem? ho)) s ht hd (fun t1 h1 μ1 a1 w1 q p1 ht1 hd1 => ?_))
    exact tree_sound hok fuel _ t1 h1 μ1 a1 w1 q.2 p1.sim ht1 hd1 (fun t2 h2 μ2 a2 w2 q2 p2 ht2 hd2 => hq t2 h2 μ2 a2 w2 q2 (p1.trans p2) ht2 hd2)

theorem tree_first {i : Nat} {oi : Oper} {v : Value} {C : AH → Prop} {S S2 : List (Nat × Nat)} {Q : List Value → AH → Prop} (hi : ops[i]? = some oi) (hS : ∀ p ∈ S, p ∈ S2)
    (hC : ∀ oj, ¬ preds oj i → ∀ h h', C h → keepS S2 oj h h' → C h') :
    ∀ (fuel : Nat) (listed : Array Bool) (t : List Value) (h : AH),
      (∀ j oj, ops[j]? = some oj → j ≠ i → listed.getD j true = false → (∀ e ∈ oj.after, Region.binds .any e = true → e.on ≠ i) → oi.apart ops oj = true) →
      i ∈ Region.ready .any ops listed → Qt P (dsOf ops) oi t v C → C h →
      tree P ops S2 Q fuel (listed.setIfInBounds i true) (put t oi.dst v) h → tree P ops S Q (fuel + 1) listed t h := by
  have keepSub : ∀ {o : Oper} {h h' : AH}, keepS S2 o h h' → keepS S o h h' := fun k p hp => k p (hS p hp)
  have treeSub : ∀ (fuel : Nat) (listed : Array Bool) (t : List Value) (h : AH), tree P ops S2 Q fuel listed t h → tree P ops S Q fuel listed t h := by
    intro fuel
    induction fuel with
    | zero => intro listed t h hk; exact hk
    | succ fuel ih => intro listed t h hk; exact ⟨hk.1, fun i hi o ho => q1_mono (hk.2 i hi o ho) (fun t' h' q => ⟨keepSub q.1, ih _ _ _ q.2⟩)⟩
  intro fuel
  induction fuel with
  | zero =>
    intro listed t h _ hr hy hc H
    refine ⟨fun e => (by rw [e] at hr; cases hr), fun j hj oj hoj => ?_⟩
    by_cases hji : j = i
    · subst hji
      have : oj = oi := by rw [hi] at hoj; exact (Option.some.inj hoj).symm
      subst this
      exact hy.q1 hc ⟨fun p _ _ => rfl, treeSub _ _ _ _ H⟩
    · have := ready_mono hj hji
      rw [H.1] at this
      cases this
  | succ fuel ih =>
    intro listed t h hfree hr hy hc H
    refine ⟨fun e => (by rw [e] at hr; cases hr), fun j hj oj hoj => ?_⟩
    by_cases hji : j = i
    · subst hji
      have : oj = oi := by rw [hi] at hoj; exact (Option.some.inj hoj).symm
      subst this
      exact hy.q1 hc ⟨fun p _ _ => rfl, treeSub _ _ _ _ H⟩
    · have h1 := H.2 j (ready_mono hj hji) oj hoj
      obtain ⟨hjun, oj', hoj', hall⟩ := mem_ready.1 hj
      have : oj' = oj := by rw [hoj] at hoj'; exact (Option.some.inj hoj').symm
      subst this
      have hnot : ∀ e ∈ oj'.after, Region.binds .any e = true → e.on ≠ i := fun e he hb heq => by
        have h1 := hall e he hb
        have h0 := (mem_ready.1 hr).1
        rw [heq] at h1
        rcases Nat.lt_or_ge i listed.size with h' | h'
        · simp [h'] at h0 h1; rw [h0] at h1; cases h1
        · simp [Array.getElem?_eq_none h'] at h1
      have hap := hfree j oj' hoj hji hjun hnot
      have h2 := q1_put hap h1
      have hfree' : ∀ k ok, ops[k]? = some ok → k ≠ i → (listed.setIfInBounds j true).getD k true = false →
          (∀ e ∈ ok.after, Region.binds .any e = true → e.on ≠ i) → oi.apart ops ok = true := fun k ok hk hki hun hno => by
        refine hfree k ok hk hki ?_ hno
        by_cases hjk : j = k
        · subst hjk; exact hjun
        · rw [getD_set_ne true hjk] at hun; exact hun
      refine q1_mono h2 (fun t' h' q => ?_)
      obtain ⟨⟨hkeep, htree⟩, u, rfl⟩ := q
      refine ⟨keepSub hkeep, ih (listed.setIfInBounds j true) _ h' hfree' (ready_mono hr (Ne.symm hji)) (hy.put (Oper.apart_spec hap).2.2) (hC oj' (fun ⟨e, he, hb, hon⟩ => hnot e he hb hon) h h' hc hkeep) ?_⟩
      rw [Array.setIfInBounds_comm _ _ hji]
      exact htree

/-! ### one walk -/
inductive Plan where
  | done
  | q (i : Nat) (p : Plan)
  | a (i : Nat) (fl : Bool) (p : Plan)
  | b (i : Nat) (p : Plan) (j : Nat) (p' : Plan)
  | c (i : Nat) (p : Plan)
  deriving Repr

/-- An operation that waits for all others. -/
def lastOp (ops : Array Oper) (i : Nat) : Bool :=
  match ops[i]? with
  | some o => (List.range ops.size).all fun k => k == i || o.after.any fun e => Region.binds .any e && e.on == k
  | none => false
def planOK (ops : Array Oper) : Nat → Plan → Array Bool → Bool
  | _, .done, l => (Region.ready .any ops l).isEmpty
  | n + 1, .q i p, l => (Region.ready .any ops l).contains i && Region.free .any ops l i && planOK ops n p (l.setIfInBounds i true)
  | n + 1, .c i p, l => (Region.ready .any ops l).contains i && Region.free .any ops l i && planOK ops n p (l.setIfInBounds i true)
  | n + 1, .a i fl p, l => (Region.ready .any ops l == [i]) && (!fl || lastOp ops i) && planOK ops n p (l.setIfInBounds i true)
  | n + 1, .b i p j p', l => (Region.ready .any ops l == [i, j]) && planOK ops n p (l.setIfInBounds i true) && planOK ops n p' (l.setIfInBounds j true)
  | 0, _, _ => false

def opAt : List Oper → Nat → (Oper → Prop) → Prop
  | [], _, _ => False
  | o :: _, 0, K => K o
  | _ :: r, i + 1, K => opAt r i K
theorem opAt_some : ∀ {l : List Oper} {i : Nat} {K : Oper → Prop}, opAt l i K → ∃ o, l[i]? = some o ∧ K o
  | [], _, _, hk => hk.elim
  | o :: _, 0, _, hk => ⟨o, rfl, hk⟩
  | _ :: r, i + 1, _, hk => by
    obtain ⟨o, h1, h2⟩ := opAt_some (l := r) hk
    exact ⟨o, by simpa using h1, h2⟩

/-- What is watched besides, once this operation was taken first. -/
def watch (i : Nat) (o : Op) (ρ : Operand → Value) (S : List (Nat × Nat)) : List (Nat × Nat) :=
  match qid ρ o with
  | some id => (i, id) :: S
  | none => S
def allKept : List (Nat × Nat) → AH → AH → Prop
  | [], _, _ => True
  | p :: r, h, h' => h'.ob p.2 = h.ob p.2 ∧ allKept r h h'
theorem allKept_mem : ∀ {S : List (Nat × Nat)} {h h' : AH}, allKept S h h' → ∀ p ∈ S, h'.ob p.2 = h.ob p.2
  | [], _, _, _, p, hp => by cases hp
  | q :: r, _, _, hk, p, hp => by
    rcases List.mem_cons.1 hp with rfl | hp
    · exact hk.1
    · exact allKept_mem hk.2 p hp

/-- A call that leaves all as it was. -/
def ccall (P : Program) (op : Op) (t : List Value) (h : AH) (X : Value → List Nat → Prop) : Prop :=
  match op with
  | .call c =>
    (match c.callee with
     | .value f => (match aev t f with | .func (.func fid) first captured => CQ P fid (first.toList ++ c.args.toList.map (aev t) ++ captured.toList) h X | _ => False)
     | _ => False)
  | _ => False
def cstep (P : Program) (ds : List (Option Tmp)) (o : Oper) (t : List Value) (h : AH) (X : List Value → Value → List Nat → Prop) : Prop :=
  match o.guard with
  | none => ccall P o.op t h (X t)
  | some (j, want) => ag (gd ds j) want t (fun t' => ccall P o.op t' h (X t')) (fun t' => X t' undef [])
def watchAll (i : Nat) (ids : List Nat) (S : List (Nat × Nat)) : List (Nat × Nat) := ids.map (fun id => (i, id)) ++ S

def walk (P : Program) (ops : List Oper) (ds : List (Option Tmp)) : Plan → List (Nat × Nat) → List Value → AH → (List Value → AH → Prop) → Prop
  | .done, _, t, h, K => K t h
  | .q i p, S, t, h, K => opAt ops i fun o => qkind o.op = true ∧ qval (aev t) o.op ∧ aops P ds [o] t h fun t' h' => walk P ops ds p (watch i o.op (aev t) S) t' h' K
  | .c i p, S, t, h, K => opAt ops i fun o => cstep P ds o t h fun t' v ids => walk P ops ds p (watchAll i ids S) (put t' o.dst v) h K
  | .a i fl p, S, t, h, K => opAt ops i fun o => aops P ds [o] t h fun t' h' => (if fl = true then True else allKept S h h') ∧ walk P ops ds p S t' h' K
  | .b i p j p', S, t, h, K => (opAt ops i fun o => aops P ds [o] t h fun t' h' => allKept S h h' ∧ walk P ops ds p S t' h' K) ∧
      (opAt ops j fun o => aops P ds [o] t h fun t' h' => allKept S h h' ∧ walk P ops ds p' S t' h' K)

theorem a1_q1 {ds : List (Option Tmp)} {o : Oper} {t : List Value} {K : List Value → AH → Prop} (hk : a1 P ds o t h K) : q1 P ds o t h K := by
  unfold a1 at hk; unfold q1
  split
  · rename_i hw; rw [if_pos hw] at hk; exact aop_sound hk
  · rename_i hw; rw [if_neg hw] at hk; exact hk
theorem one_a1 {ds : List (Option Tmp)} {o : Oper} {t : List Value} {K : List Value → AH → Prop} (hk : aops P ds [o] t h K) : a1 P ds o t h K := a1_of hk

theorem set_getD {t : List Value} {d : Nat} {v : Value} (e : t.getD d undef = v) (hv : v ≠ undef) : t.set d v = t := by
  by_cases hi : d < t.length
  · apply List.ext_getElem (by simp)
    intro j a b
    by_cases e2 : d = j
    · subst e2; simp [List.getD, hi] at e; simp [e]
    · simp [List.getElem_set, e2]
  · simp [List.getD, hi] at e; exact absurd e.symm hv
theorem ag_cases {ds : List (Option Tmp)} {t : List Value} {j : Nat} {want : Bool} {o : Oper} (hg : o.guard = some (j, want)) {X Y : List Value → Prop} (hk : ag (gd ds j) want t X Y) :
    (wantedL ds t o = true ∧ X t) ∨ (wantedL ds t o = false ∧ Y t) := by
  unfold ag at hk
  cases hd : gd ds j with
  | none =>
    rw [hd] at hk
    have hy : yl ds t j = none := by unfold yl; unfold gd at hd; rw [hd]
    exact .inr ⟨by simp [wantedL, hg, hy], hk⟩
  | some d =>
    rw [hd] at hk
    simp only [onB] at hk
    split at hk
    · rename_i b hb
      have hlt : d < t.length := by
        by_cases hi : d < t.length
        · exact hi
        · simp [List.getD, hi] at hb; exact absurd hb (by simp [undef])
      have hy : yl ds t j = some b := by
        unfold yl; unfold gd at hd; rw [hd]
        simp only [List.getElem?_eq_getElem hlt]
        have : t[d] = .bool b := by simpa [List.getD, hlt] using hb
        rw [this]
      have hset : t.set d (.bool b) = t := set_getD hb (by simp [undef])
      cases want <;> cases b <;> simp only [Bool.false_eq_true, if_false, if_true] at hk
      · rw [bcase_false, hset] at hk; exact .inl ⟨by simp [wantedL, hg, hy], hk⟩
      · rw [bcase_true, hset] at hk; exact .inr ⟨by simp [wantedL, hg, hy], hk⟩
      · rw [bcase_false, hset] at hk; exact .inr ⟨by simp [wantedL, hg, hy], hk⟩
      · rw [bcase_true, hset] at hk; exact .inl ⟨by simp [wantedL, hg, hy], hk⟩
    · rename_i hb
      have hy : yl ds t j = none := by
        unfold yl; unfold gd at hd; rw [hd]
        by_cases hlt : d < t.length
        · simp only [List.getElem?_eq_getElem hlt]
          have hb' : ∀ b, t[d] ≠ .bool b := fun b hh => hb b (by simp [List.getD, hlt, hh])
          generalize t[d] = x at hb'
          cases x <;> first | rfl | exact absurd rfl (hb' _)
        · simp [hlt]
      exact .inr ⟨by simp [wantedL, hg, hy], hk⟩
theorem ccall_spec {o : Oper} {t : List Value} {X : Value → List Nat → Prop} (hk : ccall P o.op t h X) :
    ∃ v ids, X v ids ∧ ∀ h' : AH, (∀ id ∈ ids, h'.ob id = h.ob id) → ∀ K : Value → AH → Prop, K v h' → QOp P o (aev t) h' K := by
  unfold ccall at hk
  split at hk
  · rename_i c hc
    split at hk
    · rename_i f hf
      split at hk
      · rename_i fid first captured hp
        obtain ⟨v, ids, h1, h2⟩ := hk
        refine ⟨v, ids, h2, fun h' hkept K hK => acall_sound hc hf ?_⟩
        unfold acall
        rw [hp]
        exact (h1 h' hkept).to hK
      · exact hk.elim
    · exact hk.elim
  · exact hk.elim
theorem cstep_spec {ds : List (Option Tmp)} {o : Oper} {t : List Value} {X : List Value → Value → List Nat → Prop} (hk : cstep P ds o t h X) :
    ∃ v ids, X t v ids ∧ Qt P ds o t v (fun h' => ∀ id ∈ ids, h'.ob id = h.ob id) := by
  unfold cstep at hk
  split at hk
  · rename_i hg
    obtain ⟨v, ids, h1, h2⟩ := ccall_spec hk
    refine ⟨v, ids, h1, ?_⟩
    unfold Qt
    rw [if_pos (by simp [wantedL, hg])]
    exact fun h' hC K hK => h2 h' hC K hK
  · rename_i j want hg
    rcases ag_cases hg hk with ⟨hw, hx⟩ | ⟨hw, hx⟩
    · obtain ⟨v, ids, h1, h2⟩ := ccall_spec hx
      refine ⟨v, ids, h1, ?_⟩
      unfold Qt
      rw [if_pos hw]
      exact fun h' hC K hK => h2 h' hC K hK
    · refine ⟨undef, [], hx, ?_⟩
      unfold Qt
      rw [if_neg (by simp [hw])]

theorem lastOp_keep {i : Nat} {o : Oper} (ho : ops[i]? = some o) (hl : lastOp ops i = true) (S : List (Nat × Nat)) (hS : ∀ p ∈ S, p.1 < ops.size ∧ p.1 ≠ i) (h h' : AH) : keepS S o h h' := by
  intro p hp hn
  obtain ⟨h1, h2⟩ := hS p hp
  simp only [lastOp, ho, List.all_eq_true, List.mem_range, Bool.or_eq_true, beq_iff_eq] at hl
  rcases hl p.1 h1 with e | e
  · exact absurd e h2
  · obtain ⟨e, he, hb⟩ := Array.any_eq_true'.1 e
    simp only [Bool.and_eq_true, beq_iff_eq] at hb
    exact absurd ⟨e, he, hb.1, hb.2⟩ hn

theorem walk_tree {Q : List Value → AH → Prop} : ∀ (n : Nat) (p : Plan) (listed : Array Bool) (S : List (Nat × Nat)) (t : List Value) (h : AH), planOK ops n p listed = true → (∀ q ∈ S, q.1 < ops.size ∧ listed.getD q.1 true = true) →
    walk P ops.toList (dsOf ops) p S t h Q → tree P ops S Q n listed t h
  | 0, .done, listed, S, t, h, hp, _, hw => by
    simp only [planOK, List.isEmpty_iff] at hp
    exact ⟨hp, hw⟩
  | n + 1, .done, listed, S, t, h, hp, _, hw => by
    simp only [planOK, List.isEmpty_iff] at hp
    exact ⟨fun _ => hw, fun i hi => by rw [hp] at hi; cases hi⟩
  | 0, .q .., listed, S, t, h, hp, _, hw => by simp [planOK] at hp
  | 0, .a .., listed, S, t, h, hp, _, hw => by simp [planOK] at hp
  | 0, .b .., listed, S, t, h, hp, _, hw => by simp [planOK] at hp
  | n + 1, .q i p, listed, S, t, h, hp, hS, hw => by
    simp only [planOK, Bool.and_eq_true] at hp
    obtain ⟨⟨hr, hf⟩, hp⟩ := hp
    have hr : i ∈ Region.ready .any ops listed := by simpa using hr
    obtain ⟨o, ho, hq, hv, hk⟩ := opAt_some hw
    have ho' : ops[i]? = some o := by simpa using ho
    have hk := one_a1 hk
    have hS' : ∀ q ∈ watch i o.op (aev t) S, q.1 < ops.size ∧ (listed.setIfInBounds i true).getD q.1 true = true := by
      have old : ∀ q ∈ S, q.1 < ops.size ∧ (listed.setIfInBounds i true).getD q.1 true = true := fun q hq => by
        refine ⟨(hS q hq).1, ?_⟩
        by_cases e : i = q.1
        · subst e
          by_cases hlt : q.1 < listed.size <;> simp [hlt]
        · rw [getD_set_ne true e]; exact (hS q hq).2
      intro q hq
      unfold watch at hq
      split at hq
      · rcases List.mem_cons.1 hq with rfl | hq
        · refine ⟨(Array.getElem?_eq_some_iff.1 ho').1, ?_⟩
          by_cases hlt : i < listed.size <;> simp [hlt]
        · exact old q hq
      · exact old q hq
    have main : ∃ v, walk P ops.toList (dsOf ops) p (watch i o.op (aev t) S) (put t o.dst v) h Q ∧ Qt P (dsOf ops) o t v (Kept (qid (aev t) o.op) h) := by
      unfold a1 at hk
      split at hk
      · rename_i hwant
        obtain ⟨v, hv1, hv2⟩ := aop_quiet hq hv hk
        exact ⟨v, hv1, by unfold Qt; rw [if_pos hwant]; exact fun h' hC K hK => aop_sound (hv2 h' hC K hK)⟩
      · rename_i hwant
        exact ⟨undef, hk, by unfold Qt; rw [if_neg hwant]⟩
    obtain ⟨v, hk', hqt⟩ := main
    refine tree_first (S2 := watch i o.op (aev t) S) (C := Kept (qid (aev t) o.op) h) ho' (fun p hp => ?_) (fun oj hnp h1 h2 hc hkeep id hid => ?_) n listed t h (Region.free_spec ho' hf) hr hqt (fun _ _ => rfl) (walk_tree n p _ _ _ h hp hS' hk')
    · unfold watch; split
      · exact List.mem_cons_of_mem _ hp
      · exact hp
    · rw [← hc id hid]
      refine hkeep (i, id) ?_ hnp
      unfold watch; rw [hid]; simp
  | 0, .c .., listed, S, t, h, hp, _, hw => by simp [planOK] at hp
  | n + 1, .c i p, listed, S, t, h, hp, hS, hw => by
    simp only [planOK, Bool.and_eq_true] at hp
    obtain ⟨⟨hr, hf⟩, hp⟩ := hp
    have hr : i ∈ Region.ready .any ops listed := by simpa using hr
    obtain ⟨o, ho, hk⟩ := opAt_some hw
    have ho' : ops[i]? = some o := by simpa using ho
    obtain ⟨v, ids, hk', hqt⟩ := cstep_spec hk
    have hS' : ∀ q ∈ watchAll i ids S, q.1 < ops.size ∧ (listed.setIfInBounds i true).getD q.1 true = true := by
      have old : ∀ q ∈ S, q.1 < ops.size ∧ (listed.setIfInBounds i true).getD q.1 true = true := fun q hq => by
        refine ⟨(hS q hq).1, ?_⟩
        by_cases e : i = q.1
        · subst e
          by_cases hlt : q.1 < listed.size <;> simp [hlt]
        · rw [getD_set_ne true e]; exact (hS q hq).2
      intro q hq
      unfold watchAll at hq
      rcases List.mem_append.1 hq with hq | hq
      · obtain ⟨id, _, rfl⟩ := List.mem_map.1 hq
        refine ⟨(Array.getElem?_eq_some_iff.1 ho').1, ?_⟩
        by_cases hlt : i < listed.size <;> simp [hlt]
      · exact old q hq
    refine tree_first (S2 := watchAll i ids S) (C := fun h' => ∀ id ∈ ids, h'.ob id = h.ob id) ho' (fun p hp => ?_) (fun oj hnp h1 h2 hc hkeep id hid => ?_) n listed t h (Region.free_spec ho' hf) hr hqt (fun _ _ => rfl) (walk_tree n p _ _ _ h hp hS' hk')
    · exact List.mem_append_right _ hp
    · rw [← hc id hid]
      exact hkeep (i, id) (List.mem_append_left _ (List.mem_map.2 ⟨id, hid, rfl⟩)) hnp
  | n + 1, .a i fl p, listed, S, t, h, hp, hS, hw => by
    simp only [planOK, Bool.and_eq_true, beq_iff_eq] at hp
    obtain ⟨⟨hr, hl⟩, hp⟩ := hp
    refine ⟨fun e => (by rw [e] at hr; cases hr), fun j hj oj hoj => ?_⟩
    have hjr := hj
    rw [hr] at hj
    obtain rfl : j = i := by simpa using hj
    obtain ⟨o, ho, hk⟩ := opAt_some hw
    have ho' : ops[j]? = some o := by simpa using ho
    obtain rfl : oj = o := by rw [hoj] at ho'; exact Option.some.inj ho'
    have hun := (mem_ready.1 hjr).1
    refine q1_mono (a1_q1 (one_a1 hk)) (fun t' h' q => ⟨?_, walk_tree n p _ S t' h' hp (fun q hq => ⟨(hS q hq).1, ?_⟩) q.2⟩)
    · cases fl with
      | true =>
        refine lastOp_keep hoj (by simpa using hl) S (fun p hp => ⟨(hS p hp).1, fun e => ?_⟩) h h'
        have := (hS p hp).2
        rw [e, hun] at this; cases this
      | false => exact fun p hp _ => allKept_mem (by simpa using q.1) p hp
    · by_cases e : j = q.1
      · subst e
        by_cases hlt : q.1 < listed.size <;> simp [hlt]
      · rw [getD_set_ne true e]; exact (hS q hq).2
  | n + 1, .b i p j p', listed, S, t, h, hp, hS, hw => by
    simp only [planOK, Bool.and_eq_true, beq_iff_eq] at hp
    obtain ⟨⟨hr, hp1⟩, hp2⟩ := hp
    have side : ∀ (k : Nat) (q : Plan), planOK ops n q (listed.setIfInBounds k true) = true → (opAt ops.toList k fun o => aops P (dsOf ops) [o] t h fun t' h' => allKept S h h' ∧ walk P ops.toList (dsOf ops) q S t' h' Q) →
        ∀ o, ops[k]? = some o → q1 P (dsOf ops) o t h fun t' h' => keepS S o h h' ∧ tree P ops S Q n (listed.setIfInBounds k true) t' h' := by
      intro k q hq hk o ho
      obtain ⟨o', ho', hk⟩ := opAt_some hk
      have ho' : ops[k]? = some o' := by simpa using ho'
      obtain rfl : o = o' := by rw [ho] at ho'; exact Option.some.inj ho'
      refine q1_mono (a1_q1 (one_a1 hk)) (fun t' h' x => ⟨fun p hp _ => allKept_mem x.1 p hp, walk_tree n q _ S t' h' hq (fun y hy => ⟨(hS y hy).1, ?_⟩) x.2⟩)
      by_cases e : k = y.1
      · subst e
        by_cases hlt : y.1 < listed.size <;> simp [hlt]
      · rw [getD_set_ne true e]; exact (hS y hy).2
    refine ⟨fun e => (by rw [e] at hr; cases hr), fun k hk o ho => ?_⟩
    rw [hr] at hk
    simp only [List.mem_cons, List.not_mem_nil, or_false] at hk
    rcases hk with rfl | rfl
    · exact side _ p hp1 hw.1 o ho
    · exact side _ p' hp2 hw.2 o ho

/-- A region that draws its order: one walk by a plan. -/
theorem WC.draw {id : Nat} {t : List Value} {Q : Exit → List Value → AH → Prop} (hm : P.follows .mixedOrders = true) (hok : codeOK P.globals.size (.region id ops true) = true) (p : Plan)
    (hp : planOK ops ops.size p (Array.replicate ops.size false) = true) (hw : walk P ops.toList (ops.toList.map (·.dst)) p [] t h (Q .normal)) : WC P (.region id ops true) Q t h := by
  intro FB w0 μ a w Q' s ht hd hq
  have s' := s.drew
  refine wp_region_any hm (tree_sound (codeOK_ops hok) ops.size _ t h μ a _ (walk_tree ops.size p _ [] t h hp (fun q hq => by cases hq) hw) s' ht hd (fun t' h' μ' a' w' q p' => hq .normal t' h' μ' a' w' q ⟨p'.sim, p'.ext, p'.unt⟩))

end Go.Sim
