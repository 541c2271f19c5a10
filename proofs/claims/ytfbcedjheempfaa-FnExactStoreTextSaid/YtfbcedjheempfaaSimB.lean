/- Code: what the abstract heap tells of it holds of the model's run. Conditions: those that each theorem names. -/
import Derived.Test.YtfbcedjheempfaaSimA
import Derived.LoopN
import Derived.Scope
set_option linter.unusedVariables false
set_option linter.unusedSimpArgs false
namespace Go.Sim
variable {P : Program} {FB : Nat → Prop} {w0 : World} {μ : Nat → Option Loc} {h : AH} {w : World}

/-- What an operand is, of these temporaries. -/
def aev (t : List Value) : Operand → Value
  | .tmp i => t.getD i undef
  | .const v => v
  | .global g => .pointer (some ⟨g, 0, none⟩)
  | .func f => .func (.func f) #[] #[]
def put (t : List Value) (d : Option Tmp) (v : Value) : List Value :=
  match d with
  | some i => t.set i v
  | none => t

/-- What is asked of the operands of code: constants that have no address, globals that there are. -/
def opdOK (n : Nat) : Operand → Bool
  | .const v => zok v || isPlain v
  | .global g => decide (g < n)
  | _ => true
def codeOK (n : Nat) : Code → Bool
  | .region _ ops _ => ops.all fun o => o.op.operands.all (opdOK n)
  | .seq a b => codeOK n a && codeOK n b
  | .cond c a b => opdOK n c && codeOK n a && codeOK n b
  | .block _ c | .loop c | .scope c => codeOK n c
  | .skip | .exit _ | .ret | .label _ => true
  | _ => false

theorem LR.getD {a b : List Value} (e : LR μ a b) (i : Nat) : VR μ (a.getD i undef) (b.getD i undef) := by
  by_cases hi : i < a.length
  · have hb : i < b.length := by rw [← e.1]; exact hi
    simpa [List.getD, hi, hb] using e.2 i hi hb
  · have hb : ¬ i < b.length := by rw [← e.1]; exact hi
    simpa [List.getD, hi, hb] using VR.undef μ
theorem tmps_getD (a : Act) (i : Nat) : a.tmps.getD i undef = a.tmps.toList.getD i undef := by
  simp [Array.getD, List.getD]
  by_cases hi : i < a.tmps.size <;> simp [hi]

theorem aev_VR (s : Sim P FB w0 μ h w) {t : List Value} {a : Act} (ht : LR μ t a.tmps.toList) {x : Operand} (hx : opdOK P.globals.size x = true) : VR μ (aev t x) (a.eval x) := by
  cases x with
  | tmp i => simp only [aev, Act.eval]; rw [tmps_getD]; exact ht.getD i
  | const v =>
    simp only [opdOK, Bool.or_eq_true] at hx
    rcases hx with h1 | h1
    · exact zok_VR h1 μ
    · exact .plain v h1
  | global g =>
    simp only [opdOK, decide_eq_true_eq] at hx
    obtain ⟨l, h1, h2, h3⟩ := s.glob g hx
    have := VR.ptr (μ := μ) g 0 l h1
    rw [h2, h3] at this
    simpa [aev, Act.eval] using this
  | func f => exact .func _ _ _ _ _ rfl rfl (fun j a => by simp at a) (fun j a => by simp at a)

theorem put_LR {t : List Value} {a : Act} (ht : LR μ t a.tmps.toList) (d : Option Tmp) {v c : Value} (hv : VR μ v c) : LR μ (put t d v) (a.put d c).tmps.toList := by
  cases d with
  | none => exact ht
  | some i => simp only [put, Act.put, Array.toList_setIfInBounds]; exact ht.set i hv
theorem put_defers (a : Act) (d : Option Tmp) (c : Value) : (a.put d c).defers = a.defers := by cases d <;> rfl

/-- Whether an operation is wanted, of these temporaries; 'ds' are the places of all the region's operations. -/
def yl (ds : List (Option Tmp)) (t : List Value) (j : Nat) : Option Bool :=
  match (ds[j]?).bind id with
  | some d => (match t[d]? with | some (.bool b) => some b | _ => none)
  | none => none
def wantedL (ds : List (Option Tmp)) (t : List Value) (o : Oper) : Bool :=
  match o.guard with
  | none => true
  | some (j, want) => yl ds t j == some want

theorem yl_eq {ops : Array Oper} {t : List Value} {a : Act} (ht : LR μ t a.tmps.toList) (j : Nat) : yielded ops a.tmps j = yl (ops.toList.map (·.dst)) t j := by
  unfold yielded yl
  have e1 : ((ops.toList.map (·.dst))[j]?).bind id = (ops[j]?).bind (·.dst) := by
    rw [List.getElem?_map, Array.getElem?_toList]
    cases ops[j]? <;> rfl
  rw [e1]
  cases hd : (ops[j]?).bind (·.dst) with
  | none => rfl
  | some d =>
    simp only [Option.bind_some]
    by_cases hi : d < t.length
    · have hb : d < a.tmps.size := by have e : t.length = a.tmps.size := (by simpa using ht.1); rw [← e]; exact hi
      have hv := ht.2 d hi (by simpa using hb)
      simp only [List.getElem?_eq_getElem hi, Array.getElem?_eq_getElem hb]
      simp only [Array.getElem_toList] at hv
      generalize t[d] = x at hv ⊢
      generalize a.tmps[d] = c at hv ⊢
      cases hv with
      | plain v hp => rfl
      | _ => rfl
    · have hb : ¬ d < a.tmps.size := by have e : t.length = a.tmps.size := (by simpa using ht.1); rw [← e]; exact hi
      simp [hi, hb]

theorem wantedL_eq {ops : Array Oper} {t : List Value} {a : Act} (ht : LR μ t a.tmps.toList) (o : Oper) : Region.wanted o (yielded ops a.tmps) = wantedL (ops.toList.map (·.dst)) t o := by
  unfold Region.wanted wantedL
  cases hg : o.guard with
  | none => rfl
  | some p => obtain ⟨j, want⟩ := p; simp only [yl_eq ht]

/-! ### judgements on code -/
/-- Code comes to an end at which Q holds. -/
def WC (P : Program) (c : Code) (Q : Exit → List Value → AH → Prop) (t : List Value) (h : AH) : Prop :=
  ∀ FB w0 μ (a : Act) (w : World) (Q' : Exit → Act → World → Prop), Sim P FB w0 μ h w → LR μ t a.tmps.toList → a.defers = [] →
    (∀ ex t' h' μ' a' w', Q ex t' h' → Post P FB w0 μ h μ' h' w' → LR μ' t' a'.tmps.toList → a'.defers = [] → Q' ex a' w') → c.wp P Q' a w

theorem WC.mono {c : Code} {Q Q' : Exit → List Value → AH → Prop} {t : List Value} (hw : WC P c Q t h) (hq : ∀ ex t h, Q ex t h → Q' ex t h) : WC P c Q' t h :=
  fun FB w0 μ a w Q2 s ht hd hk => hw FB w0 μ a w Q2 s ht hd (fun ex t' h' μ' a' w' q => hk ex t' h' μ' a' w' (hq ex t' h' q))

/-- Two ways, by a bool. -/
def bcase (b : Bool) (X Y : Prop) : Prop := (b = true → X) ∧ (b = false → Y)
theorem bcase_true (X Y : Prop) : bcase true X Y = X := by simp [bcase]
theorem bcase_false (X Y : Prop) : bcase false X Y = Y := by simp [bcase]
theorem bcase_not (b : Bool) (X Y : Prop) : bcase (!b) X Y = bcase b Y X := by cases b <;> simp [bcase]
theorem bcase_decide (p : Prop) [Decidable p] (X Y : Prop) : bcase (decide p) X Y = ((p → X) ∧ (¬ p → Y)) := by by_cases h : p <;> simp [bcase, h]

/-- The place of a guard's operation. -/
def gd (ds : List (Option Tmp)) (j : Nat) : Option Tmp := (ds[j]?).bind id
/-- Operations in a row, in the order of the text: what each gives, and the heap behind it. -/
def aops (P : Program) (ds : List (Option Tmp)) : List Oper → List Value → AH → (List Value → AH → Prop) → Prop
  | [], t, h, K => K t h
  | o :: r, t, h, K =>
    match o.guard with
    | none => aop P o.op (aev t) h fun v h' => aops P ds r (put t o.dst v) h' K
    | some (j, want) =>
      match gd ds j with
      | some d =>
        (match t.getD d undef with
         | .bool b =>
           if want then bcase b (aop P o.op (aev (t.set d (.bool true))) h fun v h' => aops P ds r (put (t.set d (.bool true)) o.dst v) h' K) (aops P ds r (put (t.set d (.bool false)) o.dst undef) h K)
           else bcase b (aops P ds r (put (t.set d (.bool true)) o.dst undef) h K) (aop P o.op (aev (t.set d (.bool false))) h fun v h' => aops P ds r (put (t.set d (.bool false)) o.dst v) h' K)
         | _ => aops P ds r (put t o.dst undef) h K)
      | none => aops P ds r (put t o.dst undef) h K

theorem getD_bool {t : List Value} {d : Nat} {b : Bool} (e : t.getD d undef = .bool b) : d < t.length ∧ t.set d (.bool b) = t := by
  by_cases hlt : d < t.length
  · refine ⟨hlt, ?_⟩
    simp only [List.getD, List.getElem?_eq_getElem hlt, Option.getD_some] at e
    rw [← e]; exact List.set_getElem_self hlt
  · simp [List.getD, hlt, undef] at e

/-- One operation of a region, where it is wanted. -/
def a1 (P : Program) (ds : List (Option Tmp)) (o : Oper) (t : List Value) (h : AH) (K : List Value → AH → Prop) : Prop :=
  if wantedL ds t o = true then aop P o.op (aev t) h fun v h' => K (put t o.dst v) h' else K (put t o.dst undef) h

theorem a1_of {ds : List (Option Tmp)} {o : Oper} {r : List Oper} {t : List Value} {K : List Value → AH → Prop} (hk : aops P ds (o :: r) t h K) : a1 P ds o t h fun t' h' => aops P ds r t' h' K := by
  unfold aops at hk
  unfold a1
  split at hk
  · rename_i hg; rw [if_pos (by simp [wantedL, hg])]; exact hk
  · rename_i j want hg
    split at hk
    · rename_i d hd
      split at hk
      · rename_i b hb
        obtain ⟨hlt, hset⟩ := getD_bool hb
        have hy : yl ds t j = some b := by
          unfold yl; unfold gd at hd; rw [hd]
          simp only [List.getD, List.getElem?_eq_getElem hlt, Option.getD_some] at hb
          simp [hlt, hb]
        split at hk
        · rename_i hw; subst hw
          cases b with
          | true => rw [bcase_true, hset] at hk; rw [if_pos (by simp [wantedL, hg, hy])]; exact hk
          | false => rw [bcase_false, hset] at hk; rw [if_neg (by simp [wantedL, hg, hy])]; exact hk
        · rename_i hw
          have hw : want = false := by simpa using hw
          subst hw
          cases b with
          | true => rw [bcase_true, hset] at hk; rw [if_neg (by simp [wantedL, hg, hy])]; exact hk
          | false => rw [bcase_false, hset] at hk; rw [if_pos (by simp [wantedL, hg, hy])]; exact hk
      · rename_i hb
        have hy : yl ds t j = none := by
          unfold yl; unfold gd at hd; rw [hd]
          by_cases hlt : d < t.length
          · simp only [List.getElem?_eq_getElem hlt]
            have hb' : ∀ b, t[d] ≠ .bool b := fun b hh => hb b (by simp [List.getD, hlt, hh])
            generalize t[d] = x at hb'
            cases x <;> first | rfl | exact absurd rfl (hb' _)
          · simp [hlt]
        rw [if_neg (by simp [wantedL, hg, hy])]; exact hk
    · rename_i hd
      have hy : yl ds t j = none := by unfold yl; unfold gd at hd; rw [hd]
      rw [if_neg (by simp [wantedL, hg, hy])]; exact hk

theorem a1_wp {ops : Array Oper} {o : Oper} {t : List Value} {Kc : List Value → AH → Prop} (hs : a1 P (ops.toList.map (·.dst)) o t h Kc) (hok : ∀ x ∈ o.op.operands, opdOK P.globals.size x = true)
    {a : Act} {K : Act → World → Prop} {Q : Exit → Act → World → Prop} (s : Sim P FB w0 μ h w) (ht : LR μ t a.tmps.toList) (hd : a.defers = [])
    (hk : ∀ t' h' μ' a' w', Kc t' h' → Post P FB w0 μ h μ' h' w' → LR μ' t' a'.tmps.toList → a'.defers = [] → K a' w') :
    if Region.wanted o (yielded ops a.tmps) then o.wp P a w K Q else K (a.put o.dst undef) w := by
  rw [wantedL_eq ht]
  unfold a1 at hs
  by_cases hw : wantedL (ops.toList.map (·.dst)) t o = true
  · rw [if_pos hw] at hs ⊢
    exact aop_sound hs FB w0 μ a w K Q s (fun x hx => aev_VR s ht (hok x hx)) (fun v h' μ' cv w' hkv p hv => hk _ h' μ' _ w' hkv p (put_LR (ht.ext p.ext) o.dst hv) (by rw [put_defers]; exact hd))
  · rw [if_neg hw] at hs ⊢
    exact hk _ h μ _ w hs s.post (put_LR ht o.dst (VR.undef μ)) (by rw [put_defers]; exact hd)

theorem aops_wp {ops : Array Oper} {Q : Exit → Act → World → Prop} : ∀ {l : List Oper} {t : List Value} {h : AH} {Kc : List Value → AH → Prop} {μ : Nat → Option Loc} {a : Act} {w : World},
    aops P (ops.toList.map (·.dst)) l t h Kc → (∀ o ∈ l, ∀ x ∈ o.op.operands, opdOK P.globals.size x = true) → Sim P FB w0 μ h w → LR μ t a.tmps.toList → a.defers = [] →
    (∀ t' h' μ' a' w', Kc t' h' → Post P FB w0 μ h μ' h' w' → LR μ' t' a'.tmps.toList → a'.defers = [] → Q .normal a' w') → wpList P ops Q l a w
  | [], t, h, Kc, μ, a, w, hk, hok, s, ht, hd, hq => wpList_nil (hq t h μ a w hk s.post ht hd)
  | o :: r, t, h, Kc, μ, a, w, hk, hok, s, ht, hd, hq => by
    refine wpList_step (fun K hK => ?_)
    refine a1_wp (a1_of hk) (hok o (by simp)) s ht hd (fun t1 h1 μ1 a1 w1 hk1 p1 ht1 hd1 => hK _ _ ?_)
    exact aops_wp hk1 (fun o' ho' => hok o' (by simp [ho'])) p1.sim ht1 hd1 (fun t2 h2 μ2 a2 w2 q2 p2 ht2 hd2 => hq t2 h2 μ2 a2 w2 q2 (p1.trans p2) ht2 hd2)

theorem codeOK_ops {id : Nat} {ops : Array Oper} {dr : Bool} (hok : codeOK P.globals.size (.region id ops dr) = true) : ∀ o ∈ ops.toList, ∀ x ∈ o.op.operands, opdOK P.globals.size x = true := fun o ho x hx => by
  simp only [codeOK] at hok
  have h1 := Array.all_eq_true_iff_forall_mem.1 hok o (by simpa using ho)
  exact Array.all_eq_true_iff_forall_mem.1 h1 x hx
theorem wc_region {id : Nat} {ops : Array Oper} {t : List Value} {Q : Exit → List Value → AH → Prop} (hok : codeOK P.globals.size (.region id ops false) = true)
    (hk : aops P (ops.toList.map (·.dst)) ops.toList t h (Q .normal)) : WC P (.region id ops false) Q t h := fun FB w0 μ a w Q' s ht hd hq =>
  wp_region_list (aops_wp hk (codeOK_ops hok) s ht hd (fun t' h' μ' a' w' q => hq .normal t' h' μ' a' w' q))

theorem wc_seq {a b : Code} {Q Q1 : Exit → List Value → AH → Prop} {t : List Value} (ha : WC P a Q1 t h) (hb : ∀ t1 h1, Q1 .normal t1 h1 → WC P b Q t1 h1) (ho : ∀ ex t1 h1, ex ≠ .normal → Q1 ex t1 h1 → Q ex t1 h1) : WC P (.seq a b) Q t h := by
  intro FB w0 μ act w Q' s ht hd hq
  refine wp_seq (ha FB w0 μ act w _ s ht hd (fun ex t1 h1 μ1 a1 w1 q1 p1 ht1 hd1 => ?_))
  cases ex with
  | normal => exact hb t1 h1 q1 FB w0 μ1 a1 w1 Q' p1.sim ht1 hd1 (fun ex t2 h2 μ2 a2 w2 q2 p2 ht2 hd2 => hq ex t2 h2 μ2 a2 w2 q2 (p1.trans p2) ht2 hd2)
  | _ => exact hq _ t1 h1 μ1 a1 w1 (ho _ t1 h1 (by simp) q1) p1 ht1 hd1

/-! ### the walk -/
def wpc (P : Program) : Code → (Exit → List Value → AH → Prop) → List Value → AH → Prop
  | .skip, Q, t, h => Q .normal t h
  | .label _, Q, t, h => Q .normal t h
  | .region id ops draw, Q, t, h => if draw then WC P (.region id ops true) Q t h else aops P (ops.toList.map (·.dst)) ops.toList t h (Q .normal)
  | .seq a b, Q, t, h => wpc P a (fun ex t h => match ex with | .normal => wpc P b Q t h | ex => Q ex t h) t h
  | .cond c a b, Q, t, h => (match aev t c with | .bool x => bcase x (wpc P a Q t h) (wpc P b Q t h) | _ => False)
  | .block id c, Q, t, h => wpc P c (fun ex t h => match ex with | .exit i => if i = id then Q .normal t h else Q (.exit i) t h | ex => Q ex t h) t h
  | .scope c, Q, t, h => wpc P c (fun ex t h => match ex with | .goto _ => False | ex => Q ex t h) t h
  | .exit id, Q, t, h => Q (.exit id) t h
  | .ret, Q, t, h => Q .ret t h
  | .loop c, Q, t, h => WC P (.loop c) Q t h
  | _, _, _, _ => False

theorem wpc_sound : ∀ {c : Code} {Q : Exit → List Value → AH → Prop} {t : List Value} {h : AH}, codeOK P.globals.size c = true → wpc P c Q t h → WC P c Q t h
  | .skip, Q, t, h, _, hw => fun FB w0 μ a w Q' s ht hd hq => wp_skip (hq .normal t h μ a w hw s.post ht hd)
  | .label _, Q, t, h, _, hw => fun FB w0 μ a w Q' s ht hd hq => wp_label (hq .normal t h μ a w hw s.post ht hd)
  | .exit id, Q, t, h, _, hw => fun FB w0 μ a w Q' s ht hd hq => wp_exit (hq (.exit id) t h μ a w hw s.post ht hd)
  | .ret, Q, t, h, _, hw => fun FB w0 μ a w Q' s ht hd hq => wp_ret (hq .ret t h μ a w hw s.post ht hd)
  | .loop c, Q, t, h, _, hw => hw
  | .region id ops true, Q, t, h, _, hw => by simpa [wpc] using hw
  | .region id ops false, Q, t, h, hok, hw => by
    simp only [wpc, Bool.false_eq_true, if_false] at hw
    exact wc_region hok hw
  | .seq a b, Q, t, h, hok, hw => by
    simp only [codeOK, Bool.and_eq_true] at hok
    exact wc_seq (wpc_sound hok.1 hw) (fun t1 h1 q => wpc_sound hok.2 q) (fun ex t1 h1 hne q => by cases ex <;> first | exact q | exact absurd rfl hne)
  | .cond c x y, Q, t, h, hok, hw => by
    simp only [codeOK, Bool.and_eq_true] at hok
    unfold wpc at hw
    split at hw
    · rename_i b hb
      intro FB w0 μ act w Q' s ht hd hq
      have hv := aev_VR s ht hok.1.1
      rw [hb] at hv
      refine wp_cond hv.bool ?_
      cases b with
      | true => exact wpc_sound hok.1.2 (hw.1 rfl) FB w0 μ act w Q' s ht hd hq
      | false => exact wpc_sound hok.2 (hw.2 rfl) FB w0 μ act w Q' s ht hd hq
    · exact hw.elim
  | .block id c, Q, t, h, hok, hw => by
    have h1 := wpc_sound (c := c) hok hw
    intro FB w0 μ act w Q' s ht hd hq
    refine wp_block (h1 FB w0 μ act w _ s ht hd (fun ex t1 h1 μ1 a1 w1 q1 p1 ht1 hd1 => ?_))
    cases ex <;> first | exact hq _ t1 h1 μ1 a1 w1 q1 p1 ht1 hd1 | skip
    rename_i i
    simp only [Exit.inBlock] at q1 ⊢
    split
    · rename_i e; simp only [e, if_true] at q1; exact hq _ t1 h1 μ1 a1 w1 q1 p1 ht1 hd1
    · rename_i e; simp only [e, if_false] at q1; exact hq _ t1 h1 μ1 a1 w1 q1 p1 ht1 hd1
  | .scope c, Q, t, h, hok, hw => by
    have h1 := wpc_sound (c := c) hok hw
    intro FB w0 μ act w Q' s ht hd hq
    refine wp_scope_straight (h1 FB w0 μ act w _ s ht hd (fun ex t1 h1 μ1 a1 w1 q1 p1 ht1 hd1 => ?_))
    cases ex <;> first | exact hq _ t1 h1 μ1 a1 w1 q1 p1 ht1 hd1 | exact q1.elim
  | .goto _, Q, t, h, hok, hw => by simp [codeOK] at hok
  | .refuse _, Q, t, h, hok, hw => by simp [codeOK] at hok
  | .rangeFunc .., Q, t, h, hok, hw => by simp [codeOK] at hok

/-- A loop: what holds at each round's head, and what each round lessens. -/
theorem WC.loop {c : Code} {Q : Exit → List Value → AH → Prop} {t : List Value} (hok : codeOK P.globals.size c = true) (I : List Value → AH → Prop) (m : List Value → AH → Nat) (h0 : I t h)
    (round : ∀ t h, I t h → wpc P c (fun ex t' h' => match ex with | .normal => I t' h' ∧ m t' h' < m t h | ex => Q ex t' h') t h) : WC P (.loop c) Q t h := by
  intro FB w0 μ a w Q' s ht hd hq
  have key : ∀ (k : Nat) (t : List Value) (h : AH) (μ : Nat → Option Loc) (a : Act) (w : World), m t h < k → I t h → Sim P FB w0 μ h w → LR μ t a.tmps.toList → a.defers = [] →
      (∀ ex t' h' μ' a' w', Q ex t' h' → Post P FB w0 μ h μ' h' w' → LR μ' t' a'.tmps.toList → a'.defers = [] → Q' ex a' w') → Code.rounds P c Q' k a w := by
    intro k
    induction k with
    | zero => intro t h μ a w hk; omega
    | succ k ih =>
      intro t h μ a w hk hi s ht hd hq
      rw [rounds_succ]
      refine wpc_sound hok (round t h hi) FB w0 μ a w _ s ht hd (fun ex t1 h1 μ1 a1 w1 q1 p1 ht1 hd1 => ?_)
      cases ex with
      | normal => exact ih t1 h1 μ1 a1 w1 (by have := q1.2; omega) q1.1 p1.sim ht1 hd1 (fun ex t2 h2 μ2 a2 w2 q2 p2 ht2 hd2 => hq ex t2 h2 μ2 a2 w2 q2 (p1.trans p2) ht2 hd2)
      | _ => exact hq _ t1 h1 μ1 a1 w1 q1 p1 ht1 hd1
  exact wp_loop_rounds (m t h + 1) (key (m t h + 1) t h μ a w (by omega) h0 s ht hd hq)

/-! ### a function -/
def ares (P : Program) (h : AH) (t : List Value) : List ResultVar → (List Value → Prop) → Prop
  | [], K => K []
  | .tmp i :: r, K => ares P h t r fun vs => K (t.getD i undef :: vs)
  | .cell a ty :: r, K => aload P h ty (t.getD a undef) fun v => ares P h t r fun vs => K (v :: vs)
def packed : List Value → Value
  | [v] => v
  | vs => .tuple vs.toArray

theorem aload_run {t : TypeId} {p : Value} {K : Value → Prop} (hk : aload P h t p K) :
    ∃ v, K v ∧ ∀ FB w0 μ (w : World) (c : Value), Sim P FB w0 μ h w → VR μ p c → ∃ cv, (do loadVar t (← asAddr c) : Sem Value).run P w = .ok cv w ∧ VR μ v cv := by
  unfold aload at hk
  split at hk
  · rename_i i id off ht
    obtain ⟨d, j, z, f⟩ := ti_facts ht
    split at hk
    · rename_i hag
      split at hk
      · rename_i vs hvs
        refine ⟨_, hk, fun FB w0 μ w c s hv => ?_⟩
        obtain ⟨l, hm, he⟩ := hv.ptrOf
        obtain ⟨cvs, h1, h2, h3⟩ := s.read hm hvs
        refine ⟨.agg cvs.toArray, ?_, .agg _ _ (by simpa using h1.1) (fun j a b => by simpa using h1.2 j (by simpa using a) (by simpa using b))⟩
        simp only [he, asAddr, loadVar, Sem.run_bind, Sem.run_pure, Result.andThen_ok, f.runAgg, hag, if_true, f.runSize]
        rw [run_loadCells_list P w l.b (l.o + off) i.size cvs h2 h3]
        rfl
      · exact hk.elim
    · rename_i hag
      split at hk
      · rename_i v hv
        refine ⟨v, hk, fun FB w0 μ w c s hvr => ?_⟩
        obtain ⟨l, hm, he⟩ := hvr.ptrOf
        obtain ⟨cv, h1, h2⟩ := s.read1 hm hv
        refine ⟨cv, ?_, h2⟩
        have hag' : i.agg = false := by simpa using hag
        simp [he, asAddr, loadVar, f.runAgg, hag', h1]
      · exact hk.elim
  · exact hk.elim

def resOne (tmps : Array Value) : ResultVar → Sem Value
  | .tmp t => pure (tmps.getD t undef)
  | .cell a t => do loadVar t (← asAddr (tmps.getD a undef))
theorem results_eq (fn : Func) (tmps : Array Value) : results fn tmps = (do let vs ← fn.results.mapM (resOne tmps); pure (if h : vs.size = 1 then vs[0] else .tuple vs)) := by
  unfold results
  congr 1

theorem ares_sound {t : List Value} : ∀ {rs : List ResultVar} {K : List Value → Prop}, ares P h t rs K → ∃ vs, K vs ∧ ∀ FB w0 μ (a : Act) (w : World), Sim P FB w0 μ h w → LR μ t a.tmps.toList →
    ∃ cvs, (rs.mapM (resOne a.tmps)).run P w = .ok cvs w ∧ LR μ vs cvs
  | [], K, hk => ⟨[], hk, fun FB w0 μ a w s ht => ⟨[], by simp, LR.nil μ⟩⟩
  | .tmp i :: r, K, hk => by
    obtain ⟨vs, h1, h2⟩ := ares_sound (rs := r) hk
    refine ⟨_, h1, fun FB w0 μ a w s ht => ?_⟩
    obtain ⟨cvs, e1, e2⟩ := h2 FB w0 μ a w s ht
    refine ⟨a.tmps.getD i undef :: cvs, by simp only [List.mapM_cons, resOne, Sem.run_bind, Sem.run_pure, Result.andThen_ok, e1], LR.cons ?_ e2⟩
    rw [tmps_getD]; exact ht.getD i
  | .cell x ty :: r, K, hk => by
    obtain ⟨v, hk, ha⟩ := aload_run hk
    obtain ⟨vs, h1, h2⟩ := ares_sound (rs := r) hk
    refine ⟨_, h1, fun FB w0 μ a w s ht => ?_⟩
    obtain ⟨cvs, e1, e2⟩ := h2 FB w0 μ a w s ht
    obtain ⟨cv, q1, q2⟩ := ha FB w0 μ w (a.tmps.getD x undef) s (by rw [tmps_getD]; exact ht.getD x)
    exact ⟨cv :: cvs, by simp only [List.mapM_cons, resOne] at e1 ⊢; rw [Sem.run_bind, q1]; simp only [Result.andThen_ok, Sem.run_bind, e1, Sem.run_pure], LR.cons q2 e2⟩

theorem packed_VR {vs cvs : List Value} (e : LR μ vs cvs) : VR μ (packed vs) (if h : cvs.toArray.size = 1 then cvs.toArray[0] else .tuple cvs.toArray) := by
  have hl := e.1
  match vs, cvs, e, hl with
  | [], [], e, _ => exact .tuple _ _ rfl (fun j a => by simp at a)
  | [v], [c], e, _ => simpa [packed] using e.head
  | v :: v' :: r, c :: c' :: r', e, hl =>
    rw [dif_neg (by simp)]
    exact .tuple _ _ (by simpa using hl) (fun j a b => e.2 j (by simpa using a) (by simpa using b))

/-- What stands at a function's end. -/
def bodyQ (P : Program) (rs : List ResultVar) (R : Value → AH → Prop) (ex : Exit) (t : List Value) (h : AH) : Prop :=
  (ex = .normal ∨ ex = .ret) ∧ ares P h t rs fun vs => R (packed vs) h

/-- A function, out of the walk of its body. -/
theorem CE.of {f : FuncId} {fn : Func} {c : Code} {args : List Value} {R : Value → AH → Prop} (hf : P.funcs[f]? = some fn) (hb : fn.body = some c) 
    (hok : codeOK P.globals.size c = true) (hw : wpc P c (bodyQ P fn.results.toList R) (args ++ List.replicate (fn.ntmps - args.length) undef) h) : CE P f args h R := by
  intro FB w0 μ w cargs R' s ha hk
  refine calls_of_wp hf hb (wpc_sound hok hw FB w0 μ _ w _ s ?_ rfl (fun ex t' h' μ' a' w' q p ht hd => ?_))
  · simp only [Array.toList_append, Array.toList_replicate]
    have e : args.length = cargs.size := by simpa using ha.1
    rw [e]
    exact ha.append ⟨rfl, fun j a b => by simp; exact VR.undef μ⟩
  · obtain ⟨hex, hres⟩ := q
    obtain ⟨vs, hR, hvs⟩ := ares_sound hres
    obtain ⟨cvs, q1, q2⟩ := hvs FB w0 μ' a' w' p.sim ht
    have hrun : (results fn a'.tmps).run P w' = .ok (if h : cvs.toArray.size = 1 then cvs.toArray[0] else .tuple cvs.toArray) w' := by
      rw [results_eq, Array.mapM_eq_mapM_toList]
      simp only [Sem.run_bind, Sem.run_map, q1, Result.andThen_ok, Sem.run_pure]
    have hR' := hk _ h' μ' _ w' hR p (packed_VR q2)
    rcases hex with rfl | rfl <;> exact ⟨hd, _, hrun, hR'⟩

theorem CC.of {f : FuncId} {fn : Func} {c : Code} {args : List Value} {R : Value → AH → Prop} (hf : P.funcs[f]? = some fn) (hb : fn.body = some c) (hn : fn.name ≠ "runtime.NumGoroutine")
    (hok : codeOK P.globals.size c = true) (hw : wpc P c (bodyQ P fn.results.toList R) (args ++ List.replicate (fn.ntmps - args.length) undef) h) : CC P f args h R :=
  CE.call (by simp [callB, hf, hb, hn]) (CE.of hf hb hok hw)

end Go.Sim
