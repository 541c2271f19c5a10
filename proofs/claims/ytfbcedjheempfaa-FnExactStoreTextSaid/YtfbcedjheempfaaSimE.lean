/- Regions that draw their order: one walk that takes quiet operations first. Conditions: those that each theorem names. -/
import Derived.Test.YtfbcedjheempfaaSimDa
set_option linter.unusedVariables false
set_option linter.unusedSimpArgs false
namespace Go.Sim
variable {P : Program} {FB : Nat → Prop} {w0 : World} {μ : Nat → Option Loc} {h : AH} {w : World}

/-! ### operations of which one value alone stands behind -/
theorem abin_det {op : BinOp} {x y : Value} {K : Value → Prop} (hk : abin op x y K) : ∃ v, K v ∧ ∀ K' : Value → Prop, K' v → abin op x y K' := by
  unfold abin at hk
  split at hk <;> first
    | exact hk.elim
    | exact ⟨_, hk.2.2, fun _ h => ⟨hk.1, hk.2.1, h⟩⟩
    | exact ⟨_, hk.2, fun _ h => ⟨hk.1, h⟩⟩
    | exact ⟨_, hk, fun _ h => h⟩
theorem aeq_det {op : BinOp} {t : TypeId} {x y : Value} {K : Value → Prop} (hk : aeq P op t x y K) : ∃ v, K v ∧ ∀ K' : Value → Prop, K' v → aeq P op t x y K' := by
  unfold aeq at hk ⊢
  generalize aeqB P t x y = ob at hk ⊢
  cases ob with
  | none => cases op <;> exact False.elim hk
  | some b => cases op <;> first | exact False.elim hk | exact ⟨_, hk, fun _ h => h⟩
theorem abinT_det {op : BinOp} {t : TypeId} {x y : Value} {K : Value → Prop} (hk : abinT P op t x y K) : ∃ v, K v ∧ ∀ K' : Value → Prop, K' v → abinT P op t x y K' := by
  cases x <;> first | exact aeq_det hk | exact abin_det hk
theorem aun_det {op : UnOp} {x : Value} {K : Value → Prop} (hk : aun op x K) : ∃ v, K v ∧ ∀ K' : Value → Prop, K' v → aun op x K' := by
  unfold aun at hk
  split at hk <;> first
    | exact hk.elim
    | exact ⟨_, hk, fun _ h => h⟩
theorem aextract_det {x : Value} {i : Nat} {K : Value → Prop} (hk : aextract x i K) : ∃ v, K v ∧ ∀ K' : Value → Prop, K' v → aextract x i K' := by
  unfold aextract at hk
  split at hk
  · split at hk
    · rename_i v hv; exact ⟨v, hk, fun _ h => by simp [aextract, hv, h]⟩
    · exact hk.elim
  · exact hk.elim
theorem afieldAddr_det {t : TypeId} {p : Value} {f : Nat} {K : Value → Prop} (hk : afieldAddr P t p f K) : ∃ v, K v ∧ ∀ K' : Value → Prop, K' v → afieldAddr P t p f K' := by
  unfold afieldAddr at hk
  split at hk
  · rename_i e; exact ⟨_, hk.2, fun _ h => by unfold afieldAddr; simp only [e]; exact ⟨hk.1, h⟩⟩
  · exact hk.elim
theorem afield_det {t : TypeId} {v : Value} {f : Nat} {K : Value → Prop} (hk : afield P t v f K) : ∃ v', K v' ∧ ∀ K' : Value → Prop, K' v' → afield P t v f K' := by
  unfold afield at hk
  split at hk
  · rename_i e
    split at hk
    · rename_i ha; exact ⟨_, hk, fun _ h => by unfold afield; simp only [e, ha, if_true]; exact h⟩
    · rename_i ha
      split at hk
      · rename_i c hc; exact ⟨_, hk, fun _ h => by unfold afield; simp only [e, ha, if_false, hc]; exact h⟩
      · exact hk.elim
  · exact hk.elim
theorem aindexAddr_det {t : TypeId} {x ix : Value} {K : Value → Prop} (hk : aindexAddr P t x ix K) : ∃ v, K v ∧ ∀ K' : Value → Prop, K' v → aindexAddr P t x ix K' := by
  unfold aindexAddr at hk
  split at hk
  · rename_i e; exact ⟨_, hk.2.2, fun _ h => by unfold aindexAddr; simp only [e]; exact ⟨hk.1, hk.2.1, h⟩⟩
  · exact hk.elim
theorem aindex_det {t : TypeId} {x ix : Value} {K : Value → Prop} (hk : aindex P t x ix K) : ∃ v, K v ∧ ∀ K' : Value → Prop, K' v → aindex P t x ix K' := by
  unfold aindex at hk
  split at hk
  · exact ⟨_, hk.2.2.2, fun _ h => ⟨hk.1, hk.2.1, hk.2.2.1, h⟩⟩
  · exact hk.elim
theorem acut_det {t : TypeId} {x : Value} {lo hi mx : Option Value} {K : Value → Prop} (hk : acut P t x lo hi mx K) : ∃ v, K v ∧ ∀ K' : Value → Prop, K' v → acut P t x lo hi mx K' := by
  unfold acut at hk
  split at hk
  · obtain ⟨h1, h2, hk⟩ := hk
    split at hk
    · rename_i e1 e2; exact ⟨_, hk.2.2.2, fun _ h => by unfold acut; simp only [e1, e2]; exact ⟨h1, h2, hk.1, hk.2.1, hk.2.2.1, h⟩⟩
    · exact hk.elim
  · split at hk
    · rename_i e0
      obtain ⟨h1, h2, hk⟩ := hk
      split at hk
      · rename_i e1 e2 e3; exact ⟨_, hk.2.2.2.2, fun _ h => by unfold acut; simp only [e0, e1, e2, e3]; exact ⟨h1, h2, hk.1, hk.2.1, hk.2.2.1, hk.2.2.2.1, h⟩⟩
      · exact hk.elim
    · exact hk.elim
  · split at hk
    · rename_i e0
      obtain ⟨h1, hk⟩ := hk
      split at hk
      · rename_i e1 e2; exact ⟨_, hk.2.2, fun _ h => by unfold acut; simp only [e0, e1, e2]; exact ⟨h1, hk.1, hk.2.1, h⟩⟩
      · exact hk.elim
    · exact hk.elim
  · exact hk.elim
theorem afill_det {pl : Nat → Option (Nat × Nat)} : ∀ {parts : List (Nat × Value)} {cs : List Value} {K : List Value → Prop}, afill pl parts cs K → ∃ v, K v ∧ ∀ K' : List Value → Prop, K' v → afill pl parts cs K'
  | [], cs, K, hk => ⟨cs, hk, fun _ h => h⟩
  | (i, v) :: r, cs, K, hk => by
    unfold afill at hk
    split at hk
    · rename_i off size e
      obtain ⟨h1, h2, h3, hk⟩ := hk
      obtain ⟨u, hu, hr⟩ := afill_det hk
      exact ⟨u, hu, fun K' h => by unfold afill; simp only [e]; exact ⟨h1, h2, h3, hr K' h⟩⟩
    · exact hk.elim
theorem aload_det {t : TypeId} {p : Value} {K : Value → Prop} (hk : aload P h t p K) :
    ∃ id off v, p = .pointer (some ⟨id, off, none⟩) ∧ K v ∧ ∀ h' : AH, h'.ob id = h.ob id → ∀ K' : Value → Prop, K' v → aload P h' t p K' := by
  unfold aload at hk
  split at hk
  · rename_i i id off e
    split at hk
    · rename_i ha
      split at hk
      · rename_i vs hv
        refine ⟨id, off, _, rfl, hk, fun h' e' K' hK' => ?_⟩
        have : rd h' id off i.size = some vs := by rw [← hv]; unfold rd; rw [e']
        unfold aload; simp only [e, ha, if_true, this]; exact hK'
      · exact hk.elim
    · rename_i ha
      split at hk
      · rename_i v hv
        refine ⟨id, off, _, rfl, hk, fun h' e' K' hK' => ?_⟩
        have : rd1 h' id off = some v := by rw [← hv]; unfold rd1; rw [e']
        unfold aload; simp only [e, ha, if_false, this]; exact hK'
      · exact hk.elim
  · exact hk.elim

/-- Which operations a walk may take first: pure ones, loads. -/
def qkind : Op → Bool
  | .move _ | .pick .. | .nilCheck _ | .binOp .. | .unOp .. | .fieldAddr .. | .field .. | .indexAddr .. | .index .. | .extract .. | .slice .. | .build .. | .load .. | .assign _ | .convert .. => true
  | .makeFunc .. => true
  | .call c => (match c.callee with | .builtin .len => true | _ => false)
  | _ => false
/-- What must stay for such an operation: the object that it reads. -/
def qid (ρ : Operand → Value) : Op → Option Nat
  | .load _ x => (match ρ x with | .pointer (some a) => some a.block | _ => none)
  | .convert _ _ x => (match ρ x with | .slice (some a) _ _ => some a.block | _ => none)
  | .call c => (match c.args.toList.map ρ with | [.map (some r)] => some r | _ => none)
  | _ => none
/-- A turning of types that makes nothing new. -/
def qval (ρ : Operand → Value) : Op → Prop
  | .convert _ _ x => (match ρ x with | .int _ _ => True | .slice _ _ _ => True | _ => False)
  | _ => True
def Kept (o : Option Nat) (h h' : AH) : Prop := ∀ i, o = some i → h'.ob i = h.ob i

theorem alen_det {t : TypeId} {x : Value} {K : Value → Prop} (hk : alen P h t x K) : ∃ v, K v ∧ ∀ h' : AH, (∀ r, x = .map (some r) → h'.ob r = h.ob r) → ∀ K' : Value → Prop, K' v → alen P h' t x K' := by
  unfold alen at hk
  split at hk
  · rename_i e; exact ⟨_, hk, fun h' _ _ h => by unfold alen; simp only [e]; exact h⟩
  · rename_i e; exact ⟨_, hk, fun h' _ _ h => by unfold alen; simp only [e]; exact h⟩
  · rename_i r e
    split at hk
    · rename_i es eo; exact ⟨_, hk, fun h' hr _ h => by unfold alen; simp only [e, hr r rfl, eo]; exact h⟩
    · exact hk.elim
  · exact hk.elim

theorem aop_quiet {o : Op} {ρ : Operand → Value} {K : Value → AH → Prop} (hq : qkind o = true) (hv : qval ρ o) (hk : aop P o ρ h K) :
    ∃ v, K v h ∧ ∀ h', Kept (qid ρ o) h h' → ∀ K' : Value → AH → Prop, K' v h' → aop P o ρ h' K' := by
  cases o <;> first | (cases hq; done) | skip
  case move x => exact ⟨_, hk, fun h' _ K' hK => hK⟩
  case assign x => exact ⟨_, hk, fun h' _ K' hK => hK⟩
  case pick c a b =>
    simp only [aop] at hk ⊢
    split at hk
    · rename_i t e; exact ⟨_, hk, fun h' _ K' hK => hK⟩
    · exact hk.elim
  case nilCheck x =>
    simp only [aop] at hk ⊢
    split at hk
    · rename_i a e; exact ⟨_, hk, fun h' _ K' hK => hK⟩
    · exact hk.elim
  case binOp op t x y yt =>
    simp only [aop] at hk ⊢
    obtain ⟨v, a, b⟩ := abinT_det hk
    exact ⟨v, a, fun h' _ K' hK => b (fun v => K' v h') hK⟩
  case unOp op t x =>
    simp only [aop] at hk ⊢
    obtain ⟨v, a, b⟩ := aun_det hk
    exact ⟨v, a, fun h' _ K' hK => b (fun v => K' v h') hK⟩
  case fieldAddr t x f =>
    simp only [aop] at hk ⊢
    obtain ⟨v, a, b⟩ := afieldAddr_det hk
    exact ⟨v, a, fun h' _ K' hK => b (fun v => K' v h') hK⟩
  case field t x f =>
    simp only [aop] at hk ⊢
    obtain ⟨v, a, b⟩ := afield_det hk
    exact ⟨v, a, fun h' _ K' hK => b (fun v => K' v h') hK⟩
  case indexAddr t x y =>
    simp only [aop] at hk ⊢
    obtain ⟨v, a, b⟩ := aindexAddr_det hk
    exact ⟨v, a, fun h' _ K' hK => b (fun v => K' v h') hK⟩
  case index t x y =>
    simp only [aop] at hk ⊢
    obtain ⟨v, a, b⟩ := aindex_det hk
    exact ⟨v, a, fun h' _ K' hK => b (fun v => K' v h') hK⟩
  case extract x i =>
    simp only [aop] at hk ⊢
    obtain ⟨v, a, b⟩ := aextract_det hk
    exact ⟨v, a, fun h' _ K' hK => b (fun v => K' v h') hK⟩
  case makeFunc fn f c => exact ⟨_, hk, fun h' _ K' hK => hK⟩
  case slice t x lo hi mx =>
    simp only [aop] at hk ⊢
    split at hk
    · exact hk.elim
    · obtain ⟨v, a, b⟩ := acut_det hk
      exact ⟨v, a, fun h' _ K' hK => b (fun v => K' v h') hK⟩
  case build t ps =>
    simp only [aop, abuild] at hk ⊢
    split at hk
    · rename_i i e
      obtain ⟨v, a, b⟩ := afill_det hk
      exact ⟨_, a, fun h' _ K' hK => b (fun cs => K' (.agg cs.toArray) h') hK⟩
    · exact hk.elim
  case load t x =>
    simp only [aop] at hk ⊢
    obtain ⟨id, off, v, e, a, b⟩ := aload_det hk
    exact ⟨v, a, fun h' hkept K' hK => b h' (hkept id (by simp [qid, e])) (fun v => K' v h') hK⟩
  case convert s d x =>
    simp only [qval] at hv
    split at hv
    · rename_i k n e
      simp only [aop, aconv] at hk ⊢
      rw [e] at hk ⊢
      split at hk <;> first
        | exact hk.elim
        | (rename_i hp; exact Value.noConfusion hp)
        | exact ⟨_, hk, fun h' _ K' hK => hK⟩
    · rename_i A n k e
      simp only [aop, aconv] at hk ⊢
      simp only [qid]
      rw [e] at hk ⊢
      split at hk
      · rename_i hp; cases hp
      · rename_i hp; cases hp
      · rename_i hp; cases hp
      · rename_i e1 e2 hp; cases hp
        exact ⟨_, hk.2, fun h' _ K' hK => ⟨hk.1, hK⟩⟩
      · rename_i id off n2 c e1 e2 hp
        cases hp
        obtain ⟨h1, hk⟩ := hk
        split at hk
        · rename_i l hl
          refine ⟨_, hk, fun h' hkept K' hK => ⟨h1, ?_⟩⟩
          have hob := hkept id rfl
          have : rd h' id off n = rd h id off n := by unfold rd; rw [hob]
          simp only [this, hl]; exact hK
        · exact hk.elim
      · exact hk.elim
    · exact hv.elim
  case call c =>
    simp only [aop] at hk ⊢
    cases hc : c.callee with
    | builtin b =>
      rw [hc] at hk
      cases b <;> first | (simp [qkind, hc] at hq; done) | skip
      simp only [abuiltin] at hk ⊢
      split at hk <;> first | exact hk.elim | skip
      all_goals first
        | (rename_i t x e2 e3
           obtain ⟨v, a, b⟩ := alen_det hk
           exact ⟨v, a, fun h' hkept K' hK => b h' (fun r hr => hkept r (by simp [qid, e3, hr])) (fun v => K' v h') hK⟩)
        | (rename_i t x e1 e2 e3
           obtain ⟨v, a, b⟩ := alen_det hk
           exact ⟨v, a, fun h' hkept K' hK => b h' (fun r hr => hkept r (by simp [qid, e3, hr])) (fun v => K' v h') hK⟩)
        | (rename_i h1; cases h1; done)
        | (rename_i h1 _; cases h1; done)
        | (rename_i h1 _ _; cases h1; done)
    | value f => simp [qkind, hc] at hq
    | invoke r m => simp [qkind, hc] at hq

end Go.Sim
