/- Parts of the proof of the row: the ground, contracts of the functions that it reaches (SimT, SimU, Lay2, Lay3, Lay4, SimV, SimW, P21, SimTab, U1, U2, P22, U3, U4, U5, U6, U7, SimT2, U8). Conditions: those that each theorem names. -/
import Derived.Shelf.Strings.IndexAnyAll
import Derived.Shelf.Small.Utf8
import Derived.WalkMore
import Derived.Shelf.RegionOpenPlain
import Derived.Sort.Row
import Derived.Sort.Grow
import Derived.Lib.ItoaNum
import Derived.Lib.TrimByte
import Derived.Lib.LaidTab
import Derived.Shelf.Strconv.Itoa3
import Derived.Shelf.Strings.Trim
import Derived.Test.YtcggnolnakgkeaaDoorB4
/- Regions that draw their order: a write that comes behind all that was read. Conditions: those that each theorem names. -/
set_option linter.unusedVariables false
set_option linter.unusedSimpArgs false
namespace Go.Sim
variable {P : Program} {FB : Nat → Prop} {w0 : World} {μ : Nat → Option Loc} {h : AH} {w : World} {ops : Array Oper}
/-- What reads memory. -/
def reads : Op → Bool
  | .load .. | .convert .. | .call _ => true
  | _ => false
theorem qid_reads {ρ : Operand → Value} {o : Op} {id : Nat} (e : qid ρ o = some id) : reads o = true := by
  cases o <;> first | rfl | (simp [qid] at e)
theorem ccall_reads {o : Op} {t : List Value} {X : Value → List Nat → Prop} (hk : ccall P o t h X) : reads o = true := by
  cases o <;> first | rfl | exact hk.elim
theorem cstep_reads {ds : List (Option Tmp)} {o : Oper} {t : List Value} {X : List Value → Value → List Nat → Prop} (hr : reads o.op = false) (hk : cstep P ds o t h X) : ∃ v, X t v [] := by
  unfold cstep at hk
  split at hk
  · exact absurd (ccall_reads hk) (by rw [hr]; decide)
  · rename_i j want hg
    rcases ag_cases hg hk with ⟨hw, hx⟩ | ⟨hw, hx⟩
    · exact absurd (ccall_reads hx) (by rw [hr]; decide)
    · exact ⟨_, hx⟩
/-- An operation that waits for all that read. -/
def lastR (ops : Array Oper) (i : Nat) : Bool :=
  match ops[i]? with
  | some o => (List.range ops.size).all fun k => k == i || !(match ops[k]? with | some x => reads x.op | none => false) || o.after.any fun e => Region.binds .any e && e.on == k
  | none => false
def planR (ops : Array Oper) : Nat → Plan → Array Bool → Bool
  | _, .done, l => (Region.ready .any ops l).isEmpty
  | n + 1, .q i p, l => (Region.ready .any ops l).contains i && Region.free .any ops l i && planR ops n p (l.setIfInBounds i true)
  | n + 1, .c i p, l => (Region.ready .any ops l).contains i && Region.free .any ops l i && (match ops[i]? with | some x => reads x.op | none => false) && planR ops n p (l.setIfInBounds i true)
  | n + 1, .a i fl p, l => (Region.ready .any ops l == [i]) && (!fl || lastR ops i) && planR ops n p (l.setIfInBounds i true)
  | n + 1, .b i p j p', l => (Region.ready .any ops l == [i, j]) && planR ops n p (l.setIfInBounds i true) && planR ops n p' (l.setIfInBounds j true)
  | 0, _, _ => false
def rdsAt (ops : Array Oper) (k : Nat) : Bool := match ops[k]? with | some x => reads x.op | none => false
theorem lastR_keep {i : Nat} {o : Oper} (ho : ops[i]? = some o) (hl : lastR ops i = true) (S : List (Nat × Nat)) (hS : ∀ p ∈ S, p.1 < ops.size ∧ p.1 ≠ i ∧ rdsAt ops p.1 = true) (h h' : AH) : keepS S o h h' := by
  intro p hp hn
  obtain ⟨h1, h2, h3⟩ := hS p hp
  simp only [lastR, ho, List.all_eq_true, List.mem_range, Bool.or_eq_true, beq_iff_eq] at hl
  rcases hl p.1 h1 with (e | e) | e
  · exact absurd e h2
  · exact absurd h3 (by unfold rdsAt; simpa using e)
  · obtain ⟨e, he, hb⟩ := Array.any_eq_true'.1 e
    simp only [Bool.and_eq_true, beq_iff_eq] at hb
    exact absurd ⟨e, he, hb.1, hb.2⟩ hn

theorem walk_treeR {Q : List Value → AH → Prop} : ∀ (n : Nat) (p : Plan) (listed : Array Bool) (S : List (Nat × Nat)) (t : List Value) (h : AH), planR ops n p listed = true → (∀ q ∈ S, q.1 < ops.size ∧ listed.getD q.1 true = true ∧ rdsAt ops q.1 = true) →
    walk P ops.toList (dsOf ops) p S t h Q → tree P ops S Q n listed t h
  | 0, .done, listed, S, t, h, hp, _, hw => by
    simp only [planR, List.isEmpty_iff] at hp
    exact ⟨hp, hw⟩
  | n + 1, .done, listed, S, t, h, hp, _, hw => by
    simp only [planR, List.isEmpty_iff] at hp
    exact ⟨fun _ => hw, fun i hi => by rw [hp] at hi; cases hi⟩
  | 0, .q .., listed, S, t, h, hp, _, hw => by simp [planR] at hp
  | 0, .a .., listed, S, t, h, hp, _, hw => by simp [planR] at hp
  | 0, .b .., listed, S, t, h, hp, _, hw => by simp [planR] at hp
  | n + 1, .q i p, listed, S, t, h, hp, hS, hw => by
    simp only [planR, Bool.and_eq_true] at hp
    obtain ⟨⟨hr, hf⟩, hp⟩ := hp
    have hr : i ∈ Region.ready .any ops listed := by simpa using hr
    obtain ⟨o, ho, hq, hv, hk⟩ := opAt_some hw
    have ho' : ops[i]? = some o := by simpa using ho
    have hk := one_a1 hk
    have hS' : ∀ q ∈ watch i o.op (aev t) S, q.1 < ops.size ∧ (listed.setIfInBounds i true).getD q.1 true = true ∧ rdsAt ops q.1 = true := by
      have old : ∀ q ∈ S, q.1 < ops.size ∧ (listed.setIfInBounds i true).getD q.1 true = true ∧ rdsAt ops q.1 = true := fun q hq => by
        refine ⟨(hS q hq).1, ?_, (hS q hq).2.2⟩
        by_cases e : i = q.1
        · subst e
          by_cases hlt : q.1 < listed.size <;> simp [hlt]
        · rw [getD_set_ne true e]; exact (hS q hq).2.1
      intro q hq
      unfold watch at hq
      split at hq
      · rcases List.mem_cons.1 hq with rfl | hq
        · refine ⟨(Array.getElem?_eq_some_iff.1 ho').1, ?_, by unfold rdsAt; rw [ho']; exact qid_reads (by assumption)⟩
          by_cases hlt : i < listed.size <;> simp [hlt]
        · exact old q hq
      · exact old q hq
    have main : ∃ v, walk P ops.toList (dsOf ops) p (watch i o.op (aev t) S) (put t o.dst v) h Q ∧ Qt P (dsOf ops) o t v (Kept (qid (aev t) o.op) h) := by
      unfold a1 at hk
      split at hk
      · rename_i hwant
        obtain ⟨v, hv1, hv2⟩ := aop_quiet hq hv hk
        exact ⟨v, hv1, by unfold Qt; rw [if_pos hwant]; exact fun h' hC K hK => aop_sound (hv2 h' hC K hK)⟩
      · rename_i hwant
        exact ⟨undef, hk, by unfold Qt; rw [if_neg hwant]⟩
    obtain ⟨v, hk', hqt⟩ := main
    refine tree_first (S2 := watch i o.op (aev t) S) (C := Kept (qid (aev t) o.op) h) ho' (fun p hp => ?_) (fun oj hnp h1 h2 hc hkeep id hid => ?_) n listed t h (Region.free_spec ho' hf) hr hqt (fun _ _ => rfl) (walk_treeR n p _ _ _ h hp hS' hk')
    · unfold watch; split
      · exact List.mem_cons_of_mem _ hp
      · exact hp
    · rw [← hc id hid]
      refine hkeep (i, id) ?_ hnp
      unfold watch; rw [hid]; simp
  | 0, .c .., listed, S, t, h, hp, _, hw => by simp [planR] at hp
  | n + 1, .c i p, listed, S, t, h, hp, hS, hw => by
    simp only [planR, Bool.and_eq_true] at hp
    obtain ⟨⟨⟨hr, hf⟩, hrd⟩, hp⟩ := hp
    have hr : i ∈ Region.ready .any ops listed := by simpa using hr
    obtain ⟨o, ho, hk⟩ := opAt_some hw
    have ho' : ops[i]? = some o := by simpa using ho
    obtain ⟨v, ids, hk', hqt⟩ := cstep_spec hk
    have hS' : ∀ q ∈ watchAll i ids S, q.1 < ops.size ∧ (listed.setIfInBounds i true).getD q.1 true = true ∧ rdsAt ops q.1 = true := by
      have old : ∀ q ∈ S, q.1 < ops.size ∧ (listed.setIfInBounds i true).getD q.1 true = true ∧ rdsAt ops q.1 = true := fun q hq => by
        refine ⟨(hS q hq).1, ?_, (hS q hq).2.2⟩
        by_cases e : i = q.1
        · subst e
          by_cases hlt : q.1 < listed.size <;> simp [hlt]
        · rw [getD_set_ne true e]; exact (hS q hq).2.1
      intro q hq
      unfold watchAll at hq
      rcases List.mem_append.1 hq with hq | hq
      · obtain ⟨id, _, rfl⟩ := List.mem_map.1 hq
        refine ⟨(Array.getElem?_eq_some_iff.1 ho').1, ?_, hrd⟩
        by_cases hlt : i < listed.size <;> simp [hlt]
      · exact old q hq
    refine tree_first (S2 := watchAll i ids S) (C := fun h' => ∀ id ∈ ids, h'.ob id = h.ob id) ho' (fun p hp => ?_) (fun oj hnp h1 h2 hc hkeep id hid => ?_) n listed t h (Region.free_spec ho' hf) hr hqt (fun _ _ => rfl) (walk_treeR n p _ _ _ h hp hS' hk')
    · exact List.mem_append_right _ hp
    · rw [← hc id hid]
      exact hkeep (i, id) (List.mem_append_left _ (List.mem_map.2 ⟨id, hid, rfl⟩)) hnp
  | n + 1, .a i fl p, listed, S, t, h, hp, hS, hw => by
    simp only [planR, Bool.and_eq_true, beq_iff_eq] at hp
    obtain ⟨⟨hr, hl⟩, hp⟩ := hp
    refine ⟨fun e => (by rw [e] at hr; cases hr), fun j hj oj hoj => ?_⟩
    have hjr := hj
    rw [hr] at hj
    obtain rfl : j = i := by simpa using hj
    obtain ⟨o, ho, hk⟩ := opAt_some hw
    have ho' : ops[j]? = some o := by simpa using ho
    obtain rfl : oj = o := by rw [hoj] at ho'; exact Option.some.inj ho'
    have hun := (mem_ready.1 hjr).1
    refine q1_mono (a1_q1 (one_a1 hk)) (fun t' h' q => ⟨?_, walk_treeR n p _ S t' h' hp (fun q hq => ⟨(hS q hq).1, ?_, (hS q hq).2.2⟩) q.2⟩)
    · cases fl with
      | true =>
        refine lastR_keep hoj (by simpa using hl) S (fun p hp => ⟨(hS p hp).1, (fun e => ?_), (hS p hp).2.2⟩) h h'
        have := (hS p hp).2.1
        rw [e, hun] at this; cases this
      | false => exact fun p hp _ => allKept_mem (by simpa using q.1) p hp
    · by_cases e : j = q.1
      · subst e
        by_cases hlt : q.1 < listed.size <;> simp [hlt]
      · rw [getD_set_ne true e]; exact (hS q hq).2.1
  | n + 1, .b i p j p', listed, S, t, h, hp, hS, hw => by
    simp only [planR, Bool.and_eq_true, beq_iff_eq] at hp
    obtain ⟨⟨hr, hp1⟩, hp2⟩ := hp
    have side : ∀ (k : Nat) (q : Plan), planR ops n q (listed.setIfInBounds k true) = true → (opAt ops.toList k fun o => aops P (dsOf ops) [o] t h fun t' h' => allKept S h h' ∧ walk P ops.toList (dsOf ops) q S t' h' Q) →
        ∀ o, ops[k]? = some o → q1 P (dsOf ops) o t h fun t' h' => keepS S o h h' ∧ tree P ops S Q n (listed.setIfInBounds k true) t' h' := by
      intro k q hq hk o ho
      obtain ⟨o', ho', hk⟩ := opAt_some hk
      have ho' : ops[k]? = some o' := by simpa using ho'
      obtain rfl : o = o' := by rw [ho] at ho'; exact Option.some.inj ho'
      refine q1_mono (a1_q1 (one_a1 hk)) (fun t' h' x => ⟨fun p hp _ => allKept_mem x.1 p hp, walk_treeR n q _ S t' h' hq (fun y hy => ⟨(hS y hy).1, ?_, (hS y hy).2.2⟩) x.2⟩)
      by_cases e : k = y.1
      · subst e
        by_cases hlt : y.1 < listed.size <;> simp [hlt]
      · rw [getD_set_ne true e]; exact (hS y hy).2.1
    refine ⟨fun e => (by rw [e] at hr; cases hr), fun k hk o ho => ?_⟩
    rw [hr] at hk
    simp only [List.mem_cons, List.not_mem_nil, or_false] at hk
    rcases hk with rfl | rfl
    · exact side _ p hp1 hw.1 o ho
    · exact side _ p' hp2 hw.2 o ho

/-- A region that draws its order: one walk by a plan. -/
theorem WC.drawR {id : Nat} {l : List Oper} {t : List Value} {Q : Exit → List Value → AH → Prop} (hm : P.follows .mixedOrders = true) (hok : codeOK P.globals.size (.region id l.toArray true) = true) (p : Plan)
    (hp : planR l.toArray l.toArray.size p (Array.replicate l.toArray.size false) = true) (hw : walk P l (dsts l) p [] t h (Q .normal)) : WC P (.region id l.toArray true) Q t h := by
  intro FB w0 μ a w Q' s ht hd hq
  have s' := s.drew
  refine wp_region_any hm (tree_sound (codeOK_ops hok) l.toArray.size _ t h μ a _ (walk_treeR l.toArray.size p _ [] t h hp (fun q hq => by cases hq) hw) s' ht hd (fun t' h' μ' a' w' q p' => hq .normal t' h' μ' a' w' q ⟨p'.sim, p'.ext, p'.unt⟩))
end Go.Sim
/- Patterns: what a reader's steps leave. Conditions: those that each theorem names. -/
set_option linter.unusedSimpArgs false
set_option linter.unusedVariables false
namespace Go.Sim
variable {P : Program} {h : AH} {C : Nat → Bool → Value → List Value} {s : ByteArray} {n0 p k : Nat} {out : List Pc}
theorem Rg.pre {h' : AH} (G : Rg C s n0 p h k out) (q : Pre h h') : Rg C s n0 p h' k out := by
  obtain ⟨v, L, e, w, hL⟩ := G.ex
  exact ⟨Nat.lt_of_lt_of_le G.lt q.n, G.le, G.hi, v, L, (q.ob p G.lt).trans e, w.keep q.n (fun i hi _ => q.ob i hi), hL⟩
theorem Rb.pre {h' : AH} {m : Nat} (G : Rb C s n0 p h m) (q : Pre h h') : Rb C s n0 p h' m := by
  obtain ⟨k, v, cs, j, a, b, c, d, e, f⟩ := G.ex
  exact ⟨Nat.lt_of_lt_of_le G.lt q.n, G.le, k, v, cs, j, a, (q.ob p G.lt).trans b, c.pre q, d, e, f⟩
theorem Rg.at {v : Value} {L : List (Pc × Value)} {k' : Nat} (hp : p < h.n) (hn : n0 ≤ p) (w : Pcs n0 p h v L) (hk : k' ≤ s.size) : Rg C s n0 p (h.set p (.cells (C k' false v) .solo p)) k' (L.map Prod.fst) :=
  ⟨hp, hn, hk, v, L, set_same _ _, w.keep (Nat.le_refl _) (fun i _ hi => set_ne _ hi), rfl⟩
theorem Rb.at {v : Value} {cs : List Value} {j m k' : Nat} (hp : p < h.n) (hn : n0 ≤ p) (g : Gr n0 h v 3 cs) (hc : cs.length = j * 3) (hj : j ≤ m) (vp : ∀ i, atBlock v i → i ≠ p) (hk : k' ≤ s.size) : Rb C s n0 p (h.set p (.cells (C k' true v) .solo p)) m :=
  ⟨hp, hn, k', v, cs, j, hk, set_same _ _, g.keep (Nat.le_refl _) (fun i hi => set_ne _ (vp i hi)), hc, hj, vp⟩
theorem flatP_len (L : List (Pc × Value)) : (L.map encP).flatten.length = L.length * 3 := flat_len (k := 3) L (fun _ => rfl)
theorem Rb.atP {v : Value} {L : List (Pc × Value)} {m k' : Nat} (hp : p < h.n) (hn : n0 ≤ p) (w : Pcs n0 p h v L) (hj : L.length ≤ m) (hk : k' ≤ s.size) : Rb C s n0 p (h.set p (.cells (C k' true v) .solo p)) m :=
  Rb.at hp hn w.gr (flatP_len L) hj w.vp hk
theorem Put.fr {h' : AH} {v v' kv : Value} {cs : List Value} {op : Nat} {text : ByteArray} {kids : List Nat} (q : Put n0 p h h' v v' kv cs op text kids) (hp : p < h.n) (hn : n0 ≤ p) (g : Gr n0 h v 3 cs) : Fr n0 h h' :=
  ⟨q.n, fun i hi => q.ob i (by omega) (by omega) (g.not_low hi)⟩
theorem Put.good {h' : AH} {v v' kv : Value} {L : List (Pc × Value)} {op : Nat} {text : ByteArray} {kids : List Nat} (q : Put n0 p h h' v v' kv (L.map encP).flatten op text kids) (hp : p < h.n) (hn : n0 ≤ p) (hk : k ≤ s.size) (w : Pcs n0 p h v L) (e : h'.ob p = .cells (C k false v') .solo p) :
    Rg C s n0 p h' k (L.map Prod.fst ++ [⟨op, text, kids⟩]) :=
  ⟨Nat.lt_of_lt_of_le hp q.n, hn, hk, v', _, e, w.put hp q, by simp⟩
theorem Put.bad {h' : AH} {v v' kv : Value} {cs : List Value} {j m : Nat} {op : Nat} {text : ByteArray} {kids : List Nat} (q : Put n0 p h h' v v' kv cs op text kids) (hp : p < h.n) (hn : n0 ≤ p) (hk : k ≤ s.size) (hc : cs.length = j * 3) (hj : j ≤ m) (e : h'.ob p = .cells (C k true v') .solo p) :
    Rb C s n0 p h' (m + 1) :=
  ⟨Nat.lt_of_lt_of_le hp q.n, hn, k, v', _, j + 1, hk, e, q.gr, by simp; omega, by omega, fun i hi => by have := q.new i hi; omega⟩
theorem Rg.cell {X : Prop} (G : Rg C s n0 p h k out) (f : ∀ v L, h.ob p = .cells (C k false v) .solo p → Pcs n0 p h v L → L.map Prod.fst = out → L.length = out.length → X) : X := by
  obtain ⟨v, L, e, w, hL⟩ := G.ex
  exact f v L e w hL (by rw [← hL]; simp)
theorem Rb.cell {X : Prop} {m : Nat} (G : Rb C s n0 p h m) (f : ∀ k v cs j, k ≤ s.size → h.ob p = .cells (C k true v) .solo p → Gr n0 h v 3 cs → cs.length = j * 3 → j ≤ m → (∀ i, atBlock v i → i ≠ p) → X) : X := by
  obtain ⟨k, v, cs, j, a, b, c, d, e, g⟩ := G.ex
  exact f k v cs j a b c d e g
theorem Ro.cases {X : Prop} {m : Nat} {res : PRes} {y : Value} {h' : AH} (R : Ro C s n0 p h m res y h') (good : ∀ k' o' (r : Nat), res = some (k', o', r) → y = .int .i64 (r : Nat) → Fr n0 h h' → Rg C s n0 p h' k' o' → X) (bad : res = none → ∀ r : Nat, y = .int .i64 (r : Nat) → Fr n0 h h' → Rb C s n0 p h' m → X) : X := by
  obtain ⟨f, ⟨k', o', r, a, b, c⟩ | ⟨a, ⟨r, b⟩, c⟩⟩ := R
  · exact good k' o' r a b f c
  · exact bad a r b f c
theorem Ro.some {m : Nat} {h' : AH} {k' : Nat} {o' : List Pc} {r : Nat} (f : Fr n0 h h') (g : Rg C s n0 p h' k' o') : Ro C s n0 p h m (some (k', o', r)) (.int .i64 (r : Nat)) h' := ⟨f, .inl ⟨_, _, _, rfl, rfl, g⟩⟩
theorem Ro.none {m : Nat} {h' : AH} {r : Nat} (f : Fr n0 h h') (g : Rb C s n0 p h' m) : Ro C s n0 p h m none (.int .i64 (r : Nat)) h' := ⟨f, .inr ⟨rfl, ⟨_, rfl⟩, g⟩⟩
theorem Ro.from {m m' : Nat} {h1 h' : AH} {res : PRes} {y : Value} (f : Fr n0 h h1) (R : Ro C s n0 p h1 m' res y h') (hm : m' ≤ m) : Ro C s n0 p h m res y h' :=
  R.cases (fun k' o' r a b c d => ⟨f.trans c, .inl ⟨k', o', r, a, b, d⟩⟩) (fun a r b c d => ⟨f.trans c, .inr ⟨a, ⟨r, b⟩, d.mono hm⟩⟩)
/-- Kids, laid down. -/
theorem RdV.lit (l : List Nat) (c : Nat) : RdV (h.alloc (.cells (l.map encNa).flatten .solo h.n)) (.slice (some ⟨h.n, 0, none⟩) l.length c) 1 encNa l := by
  have o : Own (h.alloc (.cells (l.map encNa).flatten .solo h.n)) h.n 0 l.length 1 (l.map encNa).flatten := Own.new _ _ _ (flat_len (k := 1) l (fun _ => rfl))
  exact .inr ⟨_, _, _, rfl, o.rdAll, o.lt⟩
/-- A pattern's pieces, read. -/
structure RdPat (h : AH) (v : Value) (L : List (Pc × Value)) : Prop where
  r : RdV h v 3 encP L
  kids : ∀ x ∈ L, RdV h x.2 1 encNa x.1.kids
theorem RdPat.pre {h' : AH} {v : Value} {L : List (Pc × Value)} (w : RdPat h v L) (q : Pre h h') : RdPat h' v L := ⟨w.r.pre q, fun x hx => (w.kids x hx).pre q⟩
theorem Pcs.pat {v : Value} {L : List (Pc × Value)} (w : Pcs n0 p h v L) : RdPat h v L := ⟨w.gr.rdv (by decide) encP_len, w.kids⟩
theorem brk_no (b : Nat) (hb : b ≤ s.size) (hn : ∀ i, b ≤ i → i < s.size → (byteAt s i).toNat ≠ 93) : brk s b = s.size := by
  induction e : s.size - b generalizing b with
  | zero => rw [brk, if_neg (by omega)]
  | succ n ih => rw [brk, if_pos (by omega), if_neg (hn b (by omega) (by omega))]; exact ih (b + 1) (by omega) (fun i h1 h2 => hn i (by omega) h2) (by omega)
theorem brk_yes (b e : Nat) (hb : b ≤ e) (he : e < s.size) (h93 : (byteAt s e).toNat = 93) (hn : ∀ i, b ≤ i → i < e → (byteAt s i).toNat ≠ 93) : brk s b = e := by
  induction ee : e - b generalizing b with
  | zero => rw [brk, if_pos (by omega), if_pos (by rw [show b = e by omega]; exact h93)]; omega
  | succ n ih => rw [brk, if_pos (by omega), if_neg (hn b (by omega) (by omega))]; exact ih (b + 1) (by omega) (fun i h1 h2 => hn i (by omega) h2) (by omega)
end Go.Sim
namespace Go.Sim
variable {P : Program} {h : AH}
@[congr] theorem acopy_congr {tk : Prop} (_ : tick = tk) {h h2 : AH} {t t2 : TypeId} {x x2 y y2 : Value} {K : Value → AH → Prop} (eh : h = h2) (et : t = t2) (ex : x = x2) (ey : y = y2) : acopy P h t x y K = acopy P h2 t2 x2 y2 K := by subst eh; subst et; subst ex; subst ey; rfl
theorem abuiltin_copy (t u : TypeId) (x y : Value) (K : Value → AH → Prop) : abuiltin P h .copy [t, u] [x, y] K = acopy P h t x y K := rfl
theorem acopy_sl (t : TypeId) (id off n k id2 off2 m k2 : Nat) (K : Value → AH → Prop) : acopy P h t (.slice (some ⟨id, off, none⟩) n k) (.slice (some ⟨id2, off2, none⟩) m k2) K =
    onS (si P t) fun p => p.2.size = 1 ∧ 0 < n ∧ 0 < m ∧ onS (rd h id2 off2 (Nat.min m n)) fun vs => onS (wr h id off vs) fun h' => K (.int .i64 (Nat.min m n : Nat)) h' := by
  unfold acopy onS
  cases si P t with
  | none => rfl
  | some p =>
    obtain ⟨e, i⟩ := p
    simp only
    cases rd h id2 off2 (Nat.min m n) with
    | none => rfl
    | some vs => dsimp only; cases wr h id off vs <;> rfl
attribute [push_cast] abuiltin_copy acopy_sl
end Go.Sim
/- Decoding at bytes above 127; strings.IndexRune and strings.IndexAny there. Conditions: those that each theorem names. -/
namespace Go.Proofs
open Go Go.Shelf Go.RowKit Go.Lib
set_option linter.unusedVariables false
set_option linter.unusedSimpArgs false
set_option maxRecDepth 100000
theorem get_at (s : ByteArray) (i : Nat) (h : i < s.size) : s.get! i = s[i]'h := by
  simp [ByteArray.get!, getElem!_pos, h]
  rfl
def dec (b0 b1 b2 b3 : Nat) (c1 c2 c3 : Bool) : Nat × Nat :=
  if b0 < 0x80 then (b0, 1)
  else if b0 / 32 == 6 && c1 then (if (b0 % 32) * 64 + b1 % 64 ≥ 0x80 then ((b0 % 32) * 64 + b1 % 64, 2) else (Utf8.runeError, 1))
  else if b0 / 16 == 14 && c1 && c2 then (if (b0 % 16) * 4096 + (b1 % 64) * 64 + b2 % 64 ≥ 0x800 && Utf8.valid ((b0 % 16) * 4096 + (b1 % 64) * 64 + b2 % 64 : Nat) then ((b0 % 16) * 4096 + (b1 % 64) * 64 + b2 % 64, 3) else (Utf8.runeError, 1))
  else if b0 / 8 == 30 && c1 && c2 && c3 then (if (b0 % 8) * 262144 + (b1 % 64) * 4096 + (b2 % 64) * 64 + b3 % 64 ≥ 0x10000 && Utf8.valid ((b0 % 8) * 262144 + (b1 % 64) * 4096 + (b2 % 64) * 64 + b3 % 64 : Nat) then ((b0 % 8) * 262144 + (b1 % 64) * 4096 + (b2 % 64) * 64 + b3 % 64, 4) else (Utf8.runeError, 1))
  else (Utf8.runeError, 1)
theorem decode_dec (s : ByteArray) (i : Nat) : Utf8.decode s i = dec (s.get! (i + 0)).toNat (s.get! (i + 1)).toNat (s.get! (i + 2)).toNat (s.get! (i + 3)).toNat (decide (i + 1 < s.size) && (s.get! (i + 1)).toNat / 64 == 2) (decide (i + 2 < s.size) && (s.get! (i + 2)).toNat / 64 == 2) (decide (i + 3 < s.size) && (s.get! (i + 3)).toNat / 64 == 2) := rfl
theorem dec_cases (b0 b1 b2 b3 : Nat) (c1 c2 c3 : Bool) (h : 128 ≤ b0) : ∃ r k, dec b0 b1 b2 b3 c1 c2 c3 = (r, k) ∧ 128 ≤ r ∧ r < 2147483648 ∧ 1 ≤ k ∧ k ≤ 4 ∧ (2 ≤ k → c1 = true) ∧ (3 ≤ k → c2 = true) ∧ (4 ≤ k → c3 = true) := by
  have m1 : b1 % 64 < 64 := Nat.mod_lt _ (by omega)
  have m2 : b2 % 64 < 64 := Nat.mod_lt _ (by omega)
  have m3 : b3 % 64 < 64 := Nat.mod_lt _ (by omega)
  have e : Utf8.runeError = 65533 := rfl
  have bad : ∃ r k, (Utf8.runeError, 1) = (r, k) ∧ 128 ≤ r ∧ r < 2147483648 ∧ 1 ≤ k ∧ k ≤ 4 ∧ (2 ≤ k → c1 = true) ∧ (3 ≤ k → c2 = true) ∧ (4 ≤ k → c3 = true) := ⟨_, _, rfl, by omega, by omega, by omega, by omega, fun x => by omega, fun x => by omega, fun x => by omega⟩
  unfold dec
  rw [if_neg (by omega)]
  split
  · rename_i c
    simp only [Bool.and_eq_true, beq_iff_eq] at c
    split
    · exact ⟨_, _, rfl, by omega, by omega, by omega, by omega, fun _ => c.2, fun x => by omega, fun x => by omega⟩
    · exact bad
  split
  · rename_i c
    simp only [Bool.and_eq_true, beq_iff_eq] at c
    split
    · rename_i d
      simp only [ge_iff_le, Bool.and_eq_true, decide_eq_true_eq] at d
      exact ⟨_, _, rfl, by omega, by omega, by omega, by omega, fun _ => c.1.2, fun _ => c.2, fun x => by omega⟩
    · exact bad
  split
  · rename_i c
    simp only [Bool.and_eq_true, beq_iff_eq] at c
    split
    · rename_i d
      simp only [ge_iff_le, Bool.and_eq_true, decide_eq_true_eq] at d
      exact ⟨_, _, rfl, by omega, by omega, by omega, by omega, fun _ => c.1.1.2, fun _ => c.1.2, fun _ => c.2⟩
    · exact bad
  · exact bad
theorem dec_hi (s : ByteArray) (pos : Nat) (h : pos < s.size) (ha : 128 ≤ (s[pos]'h).toNat) :
    ∃ r k, Utf8.decode s pos = (r, k) ∧ 128 ≤ r ∧ r < 2147483648 ∧ 1 ≤ k ∧ pos + k ≤ s.size ∧ ∀ j, j < k → ∀ b, s.data.toList[pos + j]? = some b → 128 ≤ b.toNat := by
  have e0 : (s.get! (pos + 0)).toNat = (s[pos]'h).toNat := by rw [Nat.add_zero, get_at s pos h]
  have hb : ∀ j b, s.data.toList[pos + j]? = some b → b.toNat = (s.get! (pos + j)).toNat := fun j b hj => by
    have hl : pos + j < s.size := by
      have := (List.getElem?_eq_some_iff.1 hj).1
      rw [Lib.size_eq]; exact this
    have := Lib.data_getElem? s (pos + j) hl
    rw [this] at hj
    rw [get_at s (pos + j) hl, Option.some.inj hj]
  have hcont : ∀ k, (decide (pos + k < s.size) && (s.get! (pos + k)).toNat / 64 == 2) = true → pos + k < s.size ∧ 128 ≤ (s.get! (pos + k)).toNat := fun k e => by
    simp only [Bool.and_eq_true, decide_eq_true_eq, beq_iff_eq] at e
    omega
  obtain ⟨r, k, e, h1, h2, h3, h4, k1, k2, k3⟩ := dec_cases (s.get! (pos + 0)).toNat (s.get! (pos + 1)).toNat (s.get! (pos + 2)).toNat (s.get! (pos + 3)).toNat (decide (pos + 1 < s.size) && (s.get! (pos + 1)).toNat / 64 == 2) (decide (pos + 2 < s.size) && (s.get! (pos + 2)).toNat / 64 == 2) (decide (pos + 3 < s.size) && (s.get! (pos + 3)).toNat / 64 == 2) (by rw [e0]; exact ha)
  have g1 := fun x => hcont 1 (k1 x)
  have g2 := fun x => hcont 2 (k2 x)
  have g3 := fun x => hcont 3 (k3 x)
  refine ⟨r, k, by rw [decode_dec]; exact e, h1, h2, h3, ?_, fun j hj b hjb => ?_⟩
  · rcases (show k = 1 ∨ k = 2 ∨ k = 3 ∨ k = 4 by omega) with rfl | rfl | rfl | rfl
    · omega
    · have := g1 (by omega); omega
    · have := g2 (by omega); omega
    · have := g3 (by omega); omega
  · rw [hb j b hjb]
    rcases (show j = 0 ∨ j = 1 ∨ j = 2 ∨ j = 3 by omega) with rfl | rfl | rfl | rfl
    · rw [e0]; exact ha
    · exact (g1 (by omega)).2
    · exact (g2 (by omega)).2
    · exact (g3 (by omega)).2
/-- A world with an iterator over s at block n. -/
theorem run_next_at {P : Program} (w : World) (n : Nat) (s : ByteArray) (pos : Nat) (ty : TypeId) (hw : w.heap[n]? = some (.stringIter s pos)) (h : pos < s.size) :
    (Instr.next (.pointer (some ⟨n, 0, none⟩)) true ty).run P w = .ok (.tuple #[.bool true, .int .i64 pos, .int .i32 (Utf8.decode s pos).1]) { w with heap := w.heap.setIfInBounds n (.stringIter s (pos + (Utf8.decode s pos).2)) } := by
  have hn : n < w.heap.size := (Array.getElem?_eq_some_iff.1 hw).1
  simp only [Instr.next, getObj, setObj, Sem.run_bind, Sem.run, hw, Result.andThen, h, if_true]
  simp [goInt, Sem.run, hw]
theorem run_next_over {P : Program} (w : World) (n : Nat) (s : ByteArray) (pos : Nat) (ty : TypeId) (hw : w.heap[n]? = some (.stringIter s pos)) (h : ¬ pos < s.size) :
    (Instr.next (.pointer (some ⟨n, 0, none⟩)) true ty).run P w = .ok (.tuple #[.bool false]) w := by
  simp [Instr.next, getObj, Sem.run, hw, h]
end Go.Proofs
/- strings.IndexRune at a rune above 127 in two ASCII bytes. Conditions: those that each theorem names. -/
namespace Go.Proofs
open Go Go.Shelf Go.RowKit Go.Lib
set_option linter.unusedVariables false
set_option linter.unusedSimpArgs false
variable {P : Program} {ρ : Ren}
def encB (c : Nat) : ByteArray :=
  if c < 0x80 then ⟨#[UInt8.ofNat c]⟩
  else if c < 0x800 then ⟨#[UInt8.ofNat (0xC0 + c / 64), UInt8.ofNat (0x80 + c % 64)]⟩
  else if c < 0x10000 then ⟨#[UInt8.ofNat (0xE0 + c / 4096), UInt8.ofNat (0x80 + c / 64 % 64), UInt8.ofNat (0x80 + c % 64)]⟩
  else ⟨#[UInt8.ofNat (0xF0 + c / 262144), UInt8.ofNat (0x80 + c / 4096 % 64), UInt8.ofNat (0x80 + c / 64 % 64), UInt8.ofNat (0x80 + c % 64)]⟩
theorem encode_encB (r : Int) : Utf8.encode r = encB (if Utf8.valid r then r.toNat else Utf8.runeError) := rfl
theorem ofNat_hi {n : Nat} (h : 128 ≤ n) (h2 : n < 256) : 128 ≤ (UInt8.ofNat n).toNat := by
  rw [UInt8.toNat_ofNat']; omega
theorem encB_hi (c : Nat) (h : 128 ≤ c) (h2 : c ≤ 1114111) : ((encB c).size = 2 ∧ ∃ a b, encB c = ⟨#[a, b]⟩ ∧ 128 ≤ b.toNat) ∨ (encB c).size = 3 ∨ (encB c).size = 4 := by
  unfold encB
  rw [if_neg (by omega)]
  split
  · exact .inl ⟨rfl, _, _, rfl, ofNat_hi (by omega) (by have : c % 64 < 64 := Nat.mod_lt _ (by omega); omega)⟩
  split
  · exact .inr (.inl rfl)
  · exact .inr (.inr rfl)
theorem enc_hi (r : Int) (h : 128 ≤ r) : ((Utf8.encode r).size = 2 ∧ ∃ a b, Utf8.encode r = ⟨#[a, b]⟩ ∧ 128 ≤ b.toNat) ∨ (Utf8.encode r).size = 3 ∨ (Utf8.encode r).size = 4 := by
  rw [encode_encB]
  have e : Utf8.runeError = 65533 := rfl
  split
  · rename_i hv
    simp only [Utf8.valid, Bool.or_eq_true, Bool.and_eq_true, decide_eq_true_eq] at hv
    exact encB_hi _ (by omega) (by omega)
  · exact encB_hi _ (by omega) (by omega)
theorem below_drew (w : World) : Below w.heap.size w w.drew.drew := ⟨rfl, rfl, rfl, Nat.le_refl _, fun _ _ => rfl⟩
set_option maxHeartbeats 8000000 in
set_option maxRecDepth 1000000 in
theorem Any.IndexRune_hi (L : Lays.n152 P ρ) (s : ByteArray) (r : Int) (w : World) (h0 : 128 ≤ r) (h1 : r < 2147483648) (hs : s.size = 2) (ha : ∀ j (hj : j < s.size), (s[j]'hj).toNat < 128) :
    Calls P (ρ.f 152) #[.string s, .int .i32 r] w fun e w' => e = .returned (.int .i64 (-1)) ∧ Below w.heap.size w w' := by
  have mixed := L.mixed
  have t3 := L.t3; have a3 := L.a3; have z3 := L.z3; have v3 := L.v3
  have t4 := L.t4; have a4 := L.a4; have z4 := L.z4; have v4 := L.v4
  have t5 := L.t5; have a5 := L.a5; have z5 := L.z5; have v5 := L.v5
  have t9 := L.t9; have a9 := L.a9; have z9 := L.z9; have v9 := L.v9
  have t21 := L.t21; have a21 := L.a21; have z21 := L.z21; have v21 := L.v21
  have t46 := L.t46; have a46 := L.a46; have z46 := L.z46; have v46 := L.v46
  have e119 : ∀ args w, (callFunc (ρ.f 119) args).run P w = .ok (.enter (ρ.f 119) args) w := enters_of L.f119 (by kernel_rfl) rfl
  have e137 : ∀ args w, (callFunc (ρ.f 137) args).run P w = .ok (.enter (ρ.f 137) args) w := enters_of L.f137 (by kernel_rfl) rfl
  have hr0 : (0 : Int) ≤ r := by omega
  have hr1 : ¬ (r < 128) := by omega
  by_cases hE : r = 65533
  · subst hE
    have HA : Aside (∀ j (hj : j < s.size), (s[j]'hj).toNat < 128) := ha
    clear ha hs
    go_enter L.f152, Body.n152_ntmps ρ
    go_wp2
    go_loopg [5, 6] s.size (fun g _ _ wx => ∃ i : Nat, i + g = s.size ∧ wx = w.iter s i)
    case atStart => exact ⟨0, by omega, rfl⟩
    case round =>
      obtain ⟨i, hig, rfl⟩ := hrel
      cases gk with
      | zero =>
        obtain rfl : i = s.size := by omega
        have hnx := run_next_end (P := P) w s s.size
        go_wp2
        go_ret
        exact ⟨rfl, (Below.refl _ _).alloc (Nat.le_refl _) _⟩
      | succ g =>
        have hi : i < s.size := by omega
        have hx := HA.out i hi
        have hnx := fun ty => run_next_ascii (P := P) w s i ty hi hx
        obtain ⟨x, hx2⟩ : ∃ x : UInt8, s[i]'hi = x := ⟨_, rfl⟩
        rw [hx2] at hnx hx
        have hne : ((x.toNat : Int) == 65533) = false := by
          rw [beq_eq_false_iff_ne]; omega
        go_wp2
        go_roundg g
        case measure => omega
        case rel => exact ⟨i + 1, by omega, rfl⟩
  have hE' : (r == 65533) = false := by simpa using hE
  have HA : Aside (∀ j (hj : j < s.size), (s[j]'hj).toNat < 128) := ha
  have HS : Aside (s.size = 2) := hs
  clear ha hs
  rcases enc_hi r h0 with ⟨e2, a, b, eab, hb⟩ | en | en
  · rw [eab] at e2
    go_enter L.f152, Body.n152_ntmps ρ
    go_wp2_with (go_at_fn (ρ.f 119); refine (Any.utf8_ValidRune { L with } _ _).mono ?_; rintro e w' ⟨rfl, hw⟩; rw [hw])
    · go_ret
      exact ⟨rfl, hw ▸ Below.refl _ _⟩
    subst hw
    go_step3
    go_wp2
    have hs1 : 1 < s.size := by rw [HS.out]; decide
    obtain ⟨x, hx⟩ : ∃ x : UInt8, s[1]'hs1 = x := ⟨_, rfl⟩
    have hx1 : x.toNat < 128 := by rw [← hx]; exact HA.out 1 hs1
    have hne : ((x.toNat : Int) != (b.toNat : Int)) = true := by
      rw [bne_iff_ne]; omega
    have hz1 : (1 : Int) < (s.size : Int) := by omega
    have hz2 : 0 ≤ IntKind.i64.wrap 2 ∧ IntKind.i64.wrap 2 ≤ (s.size : Int) := by rw [HS.out]; decide
    have hix : ∀ c, Lib.indexByte (List.take (s.size - 2) (List.drop 2 s.data.toList)) c = -1 := fun c => by rw [HS.out]; rfl
    have hz3 : (IntKind.i64.wrap 2).toNat = 2 := by decide
    go_loopg [9, 10, 11, 12] 1 (fun g s9 s10 s11 s12 wx => s9 = .int .i64 1 ∧ wx = w')
    case atStart => exact ⟨rfl, rfl⟩
    case round =>
      obtain ⟨rfl, rfl⟩ := hrel
      go_wp2
      go_step3
      go_wp2_with (go_at_fn (ρ.f 137); refine (Any.strings_IndexByte { L with } _ _ _).mono ?_; rintro e w' ⟨rfl, hw⟩; rw [hw])
      go_region_o
      rw [show (⟨#[a, b]⟩ : ByteArray)[1] = b from rfl, hne]
      go_wp2_with fail
      go_region_with_o (go_at_fn (ρ.f 137); refine (Any.strings_IndexByte { L with } _ _ _).mono ?_; rintro e w' ⟨rfl, hw⟩; rw [hw])
      go_wp2
      simp only [Exit.noGoto, Exit.inBlock, Exit.then]
      go_ret
      exact ⟨rfl, below_drew _⟩
  all_goals
    obtain ⟨m, hm, hm2⟩ : ∃ m : Int, (((Utf8.encode r).size : Int) - 1) = m ∧ (2 : Int) ≤ m := ⟨_, rfl, by rw [en]; decide⟩
    have hw1 : IntKind.i64.wrap (((Utf8.encode r).size : Int) - 1) = m := by rw [← hm, en]; decide
    have hlt : ¬ (m < (s.size : Int)) := by rw [HS.out]; omega
    clear hm en
    go_enter L.f152, Body.n152_ntmps ρ
    go_wp2_with (go_at_fn (ρ.f 119); refine (Any.utf8_ValidRune { L with } _ _).mono ?_; rintro e w' ⟨rfl, hw⟩; rw [hw])
    · go_ret
      exact ⟨rfl, hw ▸ Below.refl _ _⟩
    subst hw
    go_step3
    go_wp2
    go_loopg [9, 10, 11, 12] 1 (fun g s9 s10 s11 s12 wx => s9 = .int .i64 m ∧ wx = w')
    case atStart => exact ⟨rfl, rfl⟩
    case round =>
      obtain ⟨rfl, rfl⟩ := hrel
      go_wp2
      simp only [Exit.noGoto, Exit.inBlock, Exit.then]
      go_ret
      exact ⟨rfl, Below.refl _ _⟩
end Go.Proofs
/- strings.IndexAny and ContainsAny at whatever text and two ASCII bytes. Conditions: those that each theorem names. -/
namespace Go.Proofs
open Go Go.Shelf Go.RowKit Go.Lib
set_option linter.unusedVariables false
set_option linter.unusedSimpArgs false
variable {P : Program} {ρ : Ren}
theorem NoAny.hi {s chars : List UInt8} {i k : Nat} (h : Lib.NoAny s chars i) (hs : ∀ j, j < k → ∀ b, s[i + j]? = some b → 128 ≤ b.toNat) (hc : ∀ b ∈ chars, b.toNat < 128) : Lib.NoAny s chars (i + k) := fun j b hj hb => by
  by_cases hlt : j < i
  · exact h j b hlt hb
  · have h2 := hs (j - i) (by omega) b (by rw [show i + (j - i) = j by omega]; exact hb)
    cases hcc : chars.contains b with
    | false => rfl
    | true => have := hc b (by simpa using hcc); omega
theorem set_iter {n : Nat} {w wx : World} {o : Obj} (hb : Below n w wx) (hn : n < wx.heap.size) : Below n w { wx with heap := wx.heap.setIfInBounds n o } ∧ ({ wx with heap := wx.heap.setIfInBounds n o } : World).heap[n]? = some o ∧ n < ({ wx with heap := wx.heap.setIfInBounds n o } : World).heap.size := by
  refine ⟨⟨hb.os, hb.tape, hb.output, by simpa using hb.size, fun k hk => ?_⟩, by simp [hn], by simpa using hn⟩
  show (wx.heap.setIfInBounds n o)[k]? = _
  rw [Array.getElem?_setIfInBounds_ne (by omega)]
  exact hb.block k hk
set_option maxHeartbeats 8000000 in
set_option maxRecDepth 1000000 in
theorem Any.IndexAny_short2 (L : Lays.n153 P ρ) (s chars : ByteArray) (w : World) (h2 : chars.size = 2) (h8 : s.size ≤ 8) (hca : ∀ j (hj : j < chars.size), (chars[j]'hj).toNat < 128) (hcl : ∀ b ∈ chars.data.toList, b.toNat < 128) :
    Calls P (ρ.f 153) #[.string s, .string chars] w fun e w' => e = .returned (.int .i64 (Lib.indexAny s.data.toList chars.data.toList)) ∧ Below w.heap.size w w' := by
  have HA : Aside (∀ j (hj : j < chars.size), (chars[j]'hj).toNat < 128) := hca
  have HL : Aside (∀ b ∈ chars.data.toList, b.toNat < 128) := hcl
  have H2 : Aside (chars.size = 2) := h2
  have hemp : chars.toList.isEmpty = false := by
    rw [Lib.toList_data]
    cases h : chars.data.toList with
    | nil => have := Lib.size_eq chars; rw [h, List.length_nil] at this; omega
    | cons _ _ => rfl
  have hn1 : ((chars.size : Int) == 1) = false := beq_eq_false_iff_ne.2 (by omega)
  have h8z : decide ((8 : Int) < (s.size : Int)) = false := decide_eq_false (by omega)
  clear hca hcl h2
  have t3 := L.t3; have a3 := L.a3; have z3 := L.z3; have v3 := L.v3
  have t4 := L.t4; have a4 := L.a4; have z4 := L.z4; have v4 := L.v4
  have t5 := L.t5; have a5 := L.a5; have z5 := L.z5; have v5 := L.v5
  have t9 := L.t9; have a9 := L.a9; have z9 := L.z9; have v9 := L.v9
  have t21 := L.t21; have a21 := L.a21; have z21 := L.z21; have v21 := L.v21
  have e152 : ∀ args w, (callFunc (ρ.f 152) args).run P w = .ok (.enter (ρ.f 152) args) w := enters_of L.f152 (by kernel_rfl) rfl
  have e226 : ∀ args w, (callFunc (ρ.f 226) args).run P w = .ok (.enter (ρ.f 226) args) w := enters_of L.f226 (by kernel_rfl) rfl
  go_enter L.f153, Body.n153_ntmps ρ
  go_wp2_with (go_at_fn (ρ.f 226); refine (Any.strings_shouldUseASCIISet { L with } _ _).mono ?_; rintro e w' ⟨rfl, hw⟩; rw [hw, h8z])
  go_loopg [9, 10] s.size (fun g _ _ wx => ∃ i : Nat, i + g = s.size ∧ wx.heap[w.heap.size]? = some (.stringIter s i) ∧ Below w.heap.size w wx ∧ Lib.NoAny s.data.toList chars.data.toList i)
  case atStart => exact ⟨0, by omega, World.iter_heap w s 0, (Below.refl _ _).alloc (Nat.le_refl _) _, Lib.NoAny.zero _ _⟩
  case round =>
    obtain ⟨i, hig, hit, hbl, hno⟩ := hrel
    have HN : Aside (Lib.NoAny s.data.toList chars.data.toList i) := hno
    have HB : Aside (Below w.heap.size w wr) := hbl
    have HI : Aside (wr.heap[w.heap.size]? = some (.stringIter s i)) := hit
    clear hno hbl
    cases gk with
    | zero =>
      obtain rfl : i = s.size := by omega
      have hnx := fun ty => run_next_over (P := P) wr w.heap.size s s.size ty hit (by omega)
      clear hit
      go_wp2
      go_ret
      exact ⟨by rw [Lib.indexAny_none (by rw [← Lib.size_eq]; exact HN.out)]; rfl, HB.out⟩
    | succ g =>
      have hi : i < s.size := by omega
      have hnx := fun ty => run_next_at (P := P) wr w.heap.size s i ty hit hi
      have hlt : w.heap.size < wr.heap.size := (Array.getElem?_eq_some_iff.1 hit).1
      clear hit
      obtain ⟨x, hx⟩ : ∃ x : UInt8, s[i]'hi = x := ⟨_, rfl⟩
      have hxl : s.data.toList[i]? = some x := by rw [← hx]; exact Lib.data_getElem? s i hi
      by_cases hx128 : x.toNat < 128
      · have hdec := decode_ascii s i hi (by rw [hx]; exact hx128)
        rw [hx] at hdec
        rw [hdec] at hnx
        dsimp only at hnx
        have Hx : Aside (s.data.toList[i]? = some x) := hxl
        have hw3 := set_iter (o := .stringIter s (i + 1)) HB.out hlt
        generalize hwy : ({ wr with heap := wr.heap.setIfInBounds w.heap.size (.stringIter s (i + 1)) } : World) = wy at *
        have HW : Aside (Below w.heap.size w wy ∧ wy.heap[w.heap.size]? = some (.stringIter s (i + 1)) ∧ w.heap.size < wy.heap.size) := hw3
        clear hw3 hwy hxl hx hdec hlt
        have hcon := Lib.contains_iff_indexByte chars.data.toList x
        have hback : ((x.toNat : Int)).toNat.toUInt8 = x := by simp
        cases hin : chars.data.toList.contains x
        · rw [hin] at hcon
          have hlt : ¬ ((0 : Int) ≤ Lib.indexByte chars.data.toList x) := of_decide_eq_false hcon.symm
          clear hcon
          go_wp2_with (go_at_fn (ρ.f 152); refine (Any.strings_IndexRune_ascii { L with } _ _ _ (by omega) (by omega)).mono ?_; rintro e w' ⟨rfl, hw⟩; rw [hw, hback])
          go_roundg g
          case measure => omega
          case rel => exact ⟨i + 1, by omega, HW.out.2.1, HW.out.1, HN.out.succ Hx.out hin⟩
        · rw [hin] at hcon
          have hge : (0 : Int) ≤ Lib.indexByte chars.data.toList x := of_decide_eq_true hcon.symm
          clear hcon
          go_wp2_with (go_at_fn (ρ.f 152); refine (Any.strings_IndexRune_ascii { L with } _ _ _ (by omega) (by omega)).mono ?_; rintro e w' ⟨rfl, hw⟩; rw [hw, hback])
          go_ret
          exact ⟨by rw [Lib.indexAny_hit HN.out Hx.out hin]; rfl, HW.out.1⟩
      · obtain ⟨r, k, hdec, hr1, hr2, hk1, hk2, hk3⟩ := dec_hi s i hi (by rw [hx]; omega)
        rw [hdec] at hnx
        dsimp only at hnx
        have hw3 := set_iter (o := .stringIter s (i + k)) HB.out hlt
        generalize hwy : ({ wr with heap := wr.heap.setIfInBounds w.heap.size (.stringIter s (i + k)) } : World) = wy at *
        have HW : Aside (Below w.heap.size w wy ∧ wy.heap[w.heap.size]? = some (.stringIter s (i + k)) ∧ w.heap.size < wy.heap.size) := hw3
        have HK : Aside (∀ j, j < k → ∀ b, s.data.toList[i + j]? = some b → 128 ≤ b.toNat) := hk3
        clear hw3 hwy hxl hx hdec hlt hk3
        have hm1 : ¬ ((0 : Int) ≤ -1) := by decide
        go_wp2_with (go_at_fn (ρ.f 152); refine (Any.IndexRune_hi { L with } _ _ _ (by omega) (by omega) H2.out HA.out).mono ?_; rintro e w' ⟨rfl, hw⟩; have HX : Aside (Below wy.heap.size wy w') := hw; clear hw)
        go_roundg (s.size - (i + k))
        case measure => omega
        case rel => exact ⟨i + k, by omega, (HX.out.block _ HW.out.2.2).trans HW.out.2.1, HW.out.1.trans (HX.out.mono (Nat.le_of_lt HW.out.2.2)), NoAny.hi HN.out HK.out HL.out⟩
/-- strings.ContainsAny at whatever text and two ASCII bytes. -/
theorem Any.ContainsAny2 (L : Lays.n150 P ρ) (h116 : (P.info? (ρ.t 116)).map (fun i => (i.zero, i.size)) = some (some (.agg (Array.replicate 256 (.bool false))), 256)) (s chars : ByteArray) (w : World) (hs : s.size < 4294967281) (h2 : chars.size = 2) (hca : ∀ j (hj : j < chars.size), (chars[j]'hj).toNat < 128) (hcl : ∀ b ∈ chars.data.toList, b.toNat < 128) :
    Calls P (ρ.f 150) #[.string s, .string chars] w fun e w' => e = .returned (.bool (Lib.containsAny s.data.toList chars.data.toList)) ∧ Below w.heap.size w w' := by
  have c : Calls P (ρ.f 153) #[.string s, .string chars] w fun e w' => e = .returned (.int .i64 (Lib.indexAny s.data.toList chars.data.toList)) ∧ Below w.heap.size w w' := by
    by_cases h8 : s.size ≤ 8
    · exact Any.IndexAny_short2 { L with } s chars w h2 h8 hca hcl
    · refine (Any.strings_IndexAny_long { L with } (zero_of_info h116).1 (zero_of_info h116).2 s chars w (by omega) (by omega) hs (by omega) (fun j b hj => hcl b (List.mem_of_getElem? hj))).mono fun e w' ⟨h1, h2⟩ => ⟨h1, ?_⟩
      rw [h2]
      exact ((Below.refl _ _).alloc (Nat.le_refl _) _).alloc (by simp) _
  have t3 := L.t3; have a3 := L.a3; have z3 := L.z3; have v3 := L.v3
  have t4 := L.t4; have a4 := L.a4; have z4 := L.z4; have v4 := L.v4
  have t9 := L.t9; have a9 := L.a9; have z9 := L.z9; have v9 := L.v9
  have e153 : ∀ args w, (callFunc (ρ.f 153) args).run P w = .ok (.enter (ρ.f 153) args) w := enters_of L.f153 (by kernel_rfl) rfl
  go_enter L.f150, Body.n150_ntmps ρ
  go_wp2_with (go_at_fn (ρ.f 153); refine c.mono ?_; rintro e w' ⟨rfl, hw⟩)
  go_ret
  exact ⟨rfl, hw⟩
end Go.Proofs
/- Contracts of the library, told of the model's worlds: what they say of the abstract heap. Conditions: those that each theorem names. -/
set_option linter.unusedVariables false
set_option linter.unusedSimpArgs false
namespace Go.Sim
open Go.RowKit
variable {P : Program} {FB : Nat → Prop} {w0 : World} {μ : Nat → Option Loc} {h : AH} {w w' : World}
/-- A world that is as it was up to its old end. -/
theorem Sim.below (s : Sim P FB w0 μ h w) (b : Below w.heap.size w w') : Sim P FB w0 μ h w' where
  os := b.os.trans s.os
  tape := b.tape.trans s.tape
  out := b.output.trans s.out
  frame := fun k hk => by
    have := s.frame k hk
    exact ⟨Nat.lt_of_lt_of_le this.1 b.size, (b.block k this.1).trans this.2⟩
  dom := s.dom
  big := s.big
  glob := s.glob
  tab := s.tab
  cell := fun i l cs st ln hm ho j hj => by
    obtain ⟨cv, hc, hv⟩ := s.cell i l cs st ln hm ho j hj
    refine ⟨cv, ?_, hv⟩
    have hlt := World.block_lt_of_cell? w _ hc
    rw [b.cell hlt]
    exact hc
  blk := fun i l cs st ln hm ho hst => by
    obtain ⟨a1, ⟨arr, e, fz, e1, e2⟩, a3⟩ := s.blk i l cs st ln hm ho hst
    exact ⟨a1, ⟨arr, e, fz, (b.block _ (Array.getElem?_eq_some_iff.1 e1).1).trans e1, e2⟩, a3⟩
  rob := s.rob
  onec := s.onec
  sep := s.sep
  tip := s.tip
  tipu := s.tipu
  solo := s.solo
  lin := s.lin
  linc := s.linc
  mp := fun i l es hm ho => by
    obtain ⟨a1, ents, clock, e1, e2⟩ := s.mp i l es hm ho
    exact ⟨a1, ents, clock, (b.block _ (Array.getElem?_eq_some_iff.1 e1).1).trans e1, e2⟩
  mpu := s.mpu
/-- A contract of the library over texts and numbers. -/
theorem CD.bridge {f : FuncId} {args : List Value} {V : Value} (hb : callB P f = true) (hp : ∀ a ∈ args, isPlain a = true) (hv : isPlain V = true)
    (c : ∀ w : World, Calls P f args.toArray w fun e w' => e = .returned V ∧ Below w.heap.size w w') : CD P f args h V h := by
  refine CE.call hb ?_
  intro FB w0 μ w cargs R' s la hk
  have e : cargs = args.toArray := by
    apply Array.ext'
    rw [List.toList_toArray]
    apply List.ext_getElem la.1.symm
    intro j h1 h2
    have := la.2 j h2 h1
    have pj := hp _ (List.getElem_mem h2)
    generalize args[j] = x at this pj
    generalize cargs.toList[j] = y at this
    cases this <;> first
      | rfl
      | (simp [isPlain] at pj; done)
      | (rename_i a a' hs e; simp [isPlain] at pj; subst pj; exact congrArg Value.tuple (Array.eq_empty_of_size_eq_zero hs.symm))
  subst e
  refine (c w).mono fun e w' ⟨h1, h2⟩ => ?_
  subst h1
  exact hk V h μ V w' ⟨rfl, rfl⟩ ⟨s.below h2, Ext.refl _, Unt.refl _ _⟩ (.plain V hv)
/-- Is one of two bytes in a text? -/
def hasAny (s : ByteArray) (a b : Nat) : Bool := !(allAt s fun x => decide (x ≠ a) && decide (x ≠ b))
theorem hasAny_lib (s : ByteArray) (a b : UInt8) : Lib.containsAny s.data.toList [a, b] = hasAny s a.toNat b.toNat := by
  have key : ∀ l : List UInt8, Lib.containsAny l [a, b] = l.any fun x => x == a || x == b := by
    intro l
    induction l with
    | nil => rfl
    | cons x l ih =>
      unfold Lib.containsAny at ih ⊢
      have hge := Lib.indexAny_ge [a, b] l
      rw [List.any_cons, ← ih]
      show decide (0 ≤ (if [a, b].contains x then 0 else if Lib.indexAny l [a, b] == -1 then -1 else Lib.indexAny l [a, b] + 1)) = _
      have hc : [a, b].contains x = (x == a || x == b) := by rw [Bool.eq_iff_iff]; simp
      rw [hc]
      cases hx : (x == a || x == b) with
      | true => rfl
      | false =>
        simp only [Bool.false_eq_true, if_false, Bool.false_or]
        by_cases e : Lib.indexAny l [a, b] = -1
        · rw [e]; rfl
        · rw [if_neg (by simpa using e)]
          rw [Bool.eq_iff_iff, decide_eq_true_eq, decide_eq_true_eq]
          omega
  rw [key]
  unfold hasAny allAt
  rw [Bool.eq_iff_iff]
  simp only [List.any_eq_true, Bool.or_eq_true, beq_iff_eq, Bool.not_eq_true', List.all_eq_false, List.mem_range, Bool.and_eq_true, decide_eq_true_eq, not_and, Classical.not_not]
  constructor
  · rintro ⟨x, hx, e⟩
    obtain ⟨i, hi, rfl⟩ := List.getElem_of_mem hx
    have hi' : i < s.size := by rw [Lib.size_eq]; exact hi
    have hb : byteAt s i = s.data.toList[i] := by
      simp only [byteAt, Array.getD, show i < s.data.size from hi', dite_true]
      simp
    refine ⟨i, hi', fun n => ?_⟩
    rw [hb] at n ⊢
    rcases e with e | e
    · rw [e] at n; exact absurd rfl n
    · rw [e]
  · rintro ⟨i, hi, n⟩
    have hi2 : i < s.data.toList.length := by rw [← Lib.size_eq]; exact hi
    have hb : byteAt s i = s.data.toList[i] := by
      simp only [byteAt, Array.getD, show i < s.data.size from hi, dite_true]
      simp
    refine ⟨s.data.toList[i], List.getElem_mem hi2, ?_⟩
    rw [hb] at n
    by_cases e : s.data.toList[i].toNat = a.toNat
    · exact .inl (UInt8.toNat.inj e)
    · exact .inr (UInt8.toNat.inj (by have := n (by omega); omega))
end Go.Sim
/- Contracts of the library that write a slice in place: what they say of the abstract heap. Conditions: those that each theorem names. -/
set_option linter.unusedVariables false
set_option linter.unusedSimpArgs false
namespace Go.Sim
open Go.RowKit Go.Sort
variable {P : Program} {FB : Nat → Prop} {w0 : World} {μ : Nat → Option Loc} {h : AH} {w w' : World}
def setA (arr : Array Value) : Nat → List Value → Array Value
  | _, [] => arr
  | o, v :: r => setA (arr.setIfInBounds o v) (o + 1) r
theorem setA_get (k : Nat) : ∀ (vs : List Value) (arr : Array Value) (o : Nat), o + vs.length ≤ arr.size → (setA arr o vs)[k]? = if o ≤ k ∧ k < o + vs.length then vs[k - o]? else arr[k]?
  | [], arr, o, _ => by
    rw [setA, if_neg (by simp)]
  | v :: r, arr, o, hb => by
    simp only [List.length_cons] at hb
    rw [setA, setA_get k r _ _ (by rw [Array.size_setIfInBounds]; omega)]
    by_cases e : k = o
    · subst e
      rw [if_neg (by omega), if_pos (by simp), Nat.sub_self, Array.getElem?_setIfInBounds_self_of_lt (by omega)]
      rfl
    · by_cases h1 : o + 1 ≤ k ∧ k < o + 1 + r.length
      · rw [if_pos h1, if_pos (by simp only [List.length_cons]; omega), show k - o = (k - (o + 1)) + 1 by omega, List.getElem?_cons_succ]
      · rw [if_neg h1, if_neg (by simp only [List.length_cons]; omega), Array.getElem?_setIfInBounds_ne (Ne.symm e)]
theorem heap_setA (b : Nat) : ∀ (vs : List Value) (o : Nat) (w : World) (arr : Array Value) (e : TypeId) (fz : Nat × Nat), w.heap[b]? = some (.cells arr e fz) → (w.setCells b o vs).heap[b]? = some (.cells (setA arr o vs) e fz)
  | [], _, _, _, _, _, hb => hb
  | v :: r, o, w, arr, e, fz, hb => by
    rw [World.setCells, setA]
    refine heap_setA b r (o + 1) _ _ e fz ?_
    simp [World.setCell, Array.getElem?_modify, hb]
theorem putRow_heap {α : Type} [Inhabited α] (enc : α → Value) (w : World) (blk off : Nat) (ys : Array α) {arr : Array Value} {e : TypeId} {fz : Nat × Nat} (hb : w.heap[blk]? = some (.cells arr e fz)) (hsz : off + ys.size ≤ arr.size) :
    (putRow enc w blk off ys).heap = (w.setCells blk off (ys.toList.map enc)).heap := by
  have hlen : (ys.toList.map enc).length = ys.size := by simp
  apply Array.ext_getElem?
  intro k
  by_cases hk : k = blk
  · subst hk
    rw [heap_setA k _ _ _ _ _ _ hb]
    have : (putRow enc w k off ys).heap[k]? = some (.cells (putCells enc off ys arr) e fz) := by
      unfold putRow mapBlock
      simp [Array.getElem?_modify, hb, onCells]
    rw [this]
    congr 2
    apply Array.ext_getElem?
    intro j
    rw [setA_get j _ _ _ (by rw [hlen]; exact hsz), hlen]
    unfold putCells
    rw [Array.getElem?_mapIdx]
    by_cases hj : off ≤ j ∧ j < off + ys.size
    · rw [if_pos hj]
      have h1 : j < arr.size := by omega
      have h2 : j - off < ys.size := by omega
      rw [Array.getElem?_eq_getElem h1]
      simp only [Option.map_some, hj, and_self, if_true]
      rw [List.getElem?_map, Array.getElem?_toList, Array.getElem?_eq_getElem h2]
      simp [getElem!_pos, h2]
    · rw [if_neg hj]
      cases arr[j]? with
      | none => rfl
      | some v => simp [hj]
  · rw [heap_setCells_ne _ _ hk]
    unfold putRow mapBlock
    simp [Array.getElem?_modify, Ne.symm hk]
theorem Sim.grown (s : Sim P FB w0 μ h w) (os : Array Obj) : Sim P FB w0 μ h (grow w os) :=
  s.below ⟨rfl, rfl, rfl, by show w.heap.size ≤ (w.heap ++ os).size; rw [Array.size_append]; omega, fun k hk => by
    show (w.heap ++ os)[k]? = _
    rw [Array.getElem?_append_left hk]⟩
theorem VR.plain_eq {x y : Value} (v : VR μ x y) (hp : isPlain x = true) : y = x := by
  cases v <;> first
    | rfl
    | (simp [isPlain] at hp; done)
    | (rename_i a a' hs e; simp [isPlain] at hp; subst hp; exact congrArg Value.tuple (Array.eq_empty_of_size_eq_zero hs.symm))
theorem putL_all (cs vs : List Value) (h : vs.length = cs.length) : putL cs 0 vs = vs := by
  apply List.ext_getElem?
  intro m
  by_cases hm : m < vs.length
  · rw [putL_in' (by omega) (by omega) (by omega), Nat.sub_zero]
  · rw [List.getElem?_eq_none (by rw [putL_length]; omega), List.getElem?_eq_none (by omega)]
/-- A contract of the library over one slice of the caller's own, which it writes. -/
theorem CC.row {α : Type} [Inhabited α] {f : FuncId} (hb : callB P f = true) (enc : α → Value) (hp : ∀ a, isPlain (enc a) = true) (h1 : ∀ a, one (enc a) = true) (xs ys : List α) (hlen : ys.length = xs.length) (hn : 0 < xs.length) (V : Value) (rv : Nat → Nat → Nat → Value) (id off : Nat)
    (hV : ∀ μ l cap, μ id = some l → xs.length ≤ cap → off + cap * 1 ≤ l.room → VR μ (V) (rv l.b (l.o + off) cap))
    (c : ∀ (blk off cap : Nat) (w : World), Holds enc w blk off xs.toArray → blk < w.heap.size → xs.length ≤ cap → Calls P f #[.slice (some ⟨blk, off, none⟩) xs.length cap] w fun e w' => e = .returned (rv blk off cap) ∧ ∃ n os, w' = grow (putRow enc (Sort.ahead w n) blk off ys.toArray) os)
    (o : Own h id off xs.length 1 (xs.map enc)) : CC P f [.slice (some ⟨id, off, none⟩) xs.length 1] h (fun v h' => v = V ∧ Own h' id off xs.length 1 (ys.map enc) ∧ Wr h h' id) := by
  refine CE.call hb ?_
  intro FB w0 μ w cargs R' s la hk
  obtain ⟨all, st, ln, e, hs, hl, hd⟩ := o.ob
  have hvl : (ys.map enc).length = xs.length := by rw [List.length_map, hlen]
  have hst : st ≠ .ro := by rcases hs with rfl | rfl <;> simp
  have hw := o.wr (lo := 0) (vs := ys.map enc) (by rw [hvl]; omega) (K := fun h' => Own h' id off xs.length 1 (putL (xs.map enc) 0 (ys.map enc)) ∧ Wr h h' id) (fun h' a b => ⟨a, b⟩)
  rw [Nat.add_zero, ← wr_eq] at hw
  cases hr : wr h id off (ys.map enc) with
  | none => rw [hr] at hw; exact hw.elim
  | some h' =>
  rw [hr] at hw
  obtain ⟨hown, hwr⟩ := (show _ ∧ _ from hw)
  rw [show putL (xs.map enc) 0 (ys.map enc) = ys.map enc from putL_all _ _ (by simp [hlen])] at hown
  obtain ⟨cv, rfl⟩ : ∃ cv, cargs = #[cv] := by
    have h1 : cargs.toList.length = 1 := la.1.symm
    have h2 : cargs.size = 1 := by simpa using h1
    exact ⟨cargs[0], by apply Array.ext; · simp [h2]
                        · intro i a b; have : i = 0 := by omega
                          subst this; rfl⟩
  have hcv : VR μ (.slice (some ⟨id, off, none⟩) xs.length 1) cv := la.2 0 (by simp) (by simp)
  generalize hN : xs.length = N at hcv hn hvl
  cases hcv with
  | plain v hh => simp [isPlain] at hh
  | slz i off k l hm ho A' => omega
  | sl i off' n k cap l hm hn2 hroom =>
    subst hN
    obtain ⟨hfb, hblk, hro⟩ := s.blk id l all st ln hm e hst
    have hholds : Holds enc w l.b (l.o + off) xs.toArray := fun j hj => by
      have hj' : j < xs.length := by simpa using hj
      obtain ⟨c1, hc1, hv1⟩ := s.cell id l all st ln hm e (off + j) (by omega)
      have hx : all[off + j]'(by omega) = enc xs[j] := by
        have := congrArg (·[j]?) hd
        simp only [List.getElem?_drop, List.getElem?_map] at this
        rw [List.getElem?_eq_getElem (by omega), List.getElem?_eq_getElem hj'] at this
        exact Option.some.inj this
      rw [hx] at hv1
      have hc2 : c1 = enc xs[j] := by
        have := hp xs[j]
        generalize enc xs[j] = x at hv1 this
        exact VR.plain_eq hv1 this
      refine ⟨?_, ?_⟩
      · rw [Nat.add_assoc, hc1, hc2]
        simp [hj']
      · rw [Nat.add_assoc]; exact hblk.frozen (by omega)
    refine (c l.b (l.o + off) cap w hholds (s.lt hm e hst) hn2).mono fun e' w' ⟨h2, n, os, h3⟩ => ?_
    subst h2 h3
    have s1 : Sim P FB w0 μ h (Sort.ahead w n) := s.drawn (w.drawn + n)
    have hpost := (s1.write hm hr (cvs := ys.map enc) ⟨rfl, fun j a b => .plain _ (by rw [List.getElem_map]; exact hp _)⟩ (fun v hv => by obtain ⟨a, _, rfl⟩ := List.mem_map.1 hv; exact h1 a)).1
    obtain ⟨arr, ee, fz, b1, b2, b3⟩ := hblk
    have hheap := putRow_heap enc (Sort.ahead w n) l.b (l.o + off) ys.toArray (arr := arr) (e := ee) (fz := fz) b1 (by rw [b2]; simp only [List.size_toArray]; omega)
    rw [List.toList_toArray] at hheap
    have z := size_setCells l.b (ys.map enc) (l.o + off) (Sort.ahead w n)
    have sP : Sim P FB w0 μ h' (putRow enc (Sort.ahead w n) l.b (l.o + off) ys.toArray) := hpost.sim.same hheap (by rw [z.2.1]; rfl) (by rw [z.2.2.1]; rfl) (by rw [z.2.2.2]; rfl)
    exact hk V h' μ _ _ ⟨rfl, hown, hwr⟩ ⟨sP.grown os, hpost.ext, hpost.unt⟩ (hV μ l cap hm hn2 hroom)
theorem grow_nil (w : World) : grow w #[] = w := by unfold grow; rw [Array.append_empty]
end Go.Sim
/- Numbers in texts, and stores that are put together. Conditions: those that each theorem names. -/
set_option linter.unusedSimpArgs false
set_option linter.unusedVariables false
namespace Go.Sim
def figB (c : UInt8) : Bool := decide (48 ≤ c.toNat) && decide (c.toNat ≤ 57)
def numL : Nat → List UInt8 → Nat
  | n, [] => n
  | n, c :: r => if figB c = true then numL ((10 * n + (c.toNat - 48)) % 1000000) r else n
def numOf (s : ByteArray) : Nat := numL 0 (Lib.trimLeftB s.data.toList 32)
theorem numL_lt : ∀ (l : List UInt8) (n : Nat), n < 1000000 → numL n l < 1000000
  | [], n, h => h
  | c :: r, n, h => by
    rw [numL]
    split
    · exact numL_lt r _ (Nat.mod_lt _ (by decide))
    · exact h
theorem numOf_lt (s : ByteArray) : numOf s < 1000000 := numL_lt _ _ (by decide)
def decB (n : Nat) : ByteArray := ⟨(Lib.decDigits n).toArray⟩
theorem decDigits_len : ∀ (k u : Nat), u < 10 ^ (k + 1) → (Lib.decDigits u).length ≤ k + 1
  | 0, u, h => by
    rw [Lib.decDigits, dif_pos (by simpa using h)]; simp
  | k + 1, u, h => by
    rw [Lib.decDigits]
    split
    · simp
    · have := decDigits_len k (u / 10) (by rw [Nat.pow_succ] at h; omega)
      simp; omega
theorem decB_size {n : Nat} (h : n < 1000000) : (decB n).size ≤ 6 := by
  have := decDigits_len 5 n (by simpa using h)
  simpa [decB, ByteArray.size] using this
/-- What is left to be told behind the digits that are told. -/
def decR (n : Nat) : ByteArray := if n = 0 then ⟨#[]⟩ else decB n
theorem decR_step {n : Nat} (h : n ≠ 0) : decR n = decR (n / 10) ++ ⟨#[UInt8.ofNat (48 + n % 10)]⟩ := by
  unfold decR
  rw [if_neg h]
  by_cases h1 : n < 10
  · rw [if_pos (by omega), decB, Lib.decDigits, dif_pos h1, Nat.mod_eq_of_lt h1]
    rfl
  · rw [if_neg (by omega), decB, Lib.decDigits, dif_neg h1]
    apply ByteArray.ext
    simp [decB]
def addT (a b : ByteArray) : ByteArray := decB ((numOf a + numOf b) % 1000000)
theorem addT_size (a b : ByteArray) : (addT a b).size ≤ 6 := decB_size (Nat.mod_lt _ (by decide))
def varIn (n : ByteArray) : List Var → ByteArray
  | [] => ⟨#[]⟩
  | x :: r => if x.name = n then x.val else varIn n r
def cellIn (n k : ByteArray) : List Cell → ByteArray
  | [] => ⟨#[]⟩
  | x :: r => if x.name = n ∧ x.key = k then x.val else cellIn n k r
theorem varIn_size (n : ByteArray) {b : Nat} : ∀ {l : List Var}, (∀ x ∈ l, x.val.size ≤ b) → (varIn n l).size ≤ b
  | [], _ => Nat.zero_le _
  | x :: r, h => by
    rw [varIn]
    split
    · exact h x (by simp)
    · exact varIn_size n (fun y hy => h y (by simp [hy]))
theorem cellIn_size (n k : ByteArray) {b : Nat} : ∀ {l : List Cell}, (∀ x ∈ l, x.val.size ≤ b) → (cellIn n k l).size ≤ b
  | [], _ => Nat.zero_le _
  | x :: r, h => by
    rw [cellIn]
    split
    · exact h x (by simp)
    · exact cellIn_size n k (fun y hy => h y (by simp [hy]))
def stepV (s : Store) (x : Var) : Store := setV s x.name (addT (varIn x.name s.vars) x.val)
def stepC (s : Store) (x : Cell) : Store := setC s x.name x.key (addT (cellIn x.name (cutB x.key) s.cells) x.val)
def mergeV (s : Store) (l : List Var) : Store := l.foldl stepV s
def mergeC (s : Store) (l : List Cell) : Store := l.foldl stepC s
def mergeD (s d : Store) : Store := ⟨(mergeC (mergeV s d.vars) d.cells).vars, (mergeC (mergeV s d.vars) d.cells).cells, outB (s.out ++ d.out)⟩
theorem foldl_next {α β : Type} (f : β → α → β) (s : β) {l : List α} {i : Nat} (hi : i < l.length) : (l.take (i + 1)).foldl f s = f ((l.take i).foldl f s) l[i] := by
  rw [List.take_add_one, List.getElem?_eq_getElem hi, List.foldl_append]; rfl
theorem mergeV_next (s : Store) {l : List Var} {i : Nat} (hi : i < l.length) : mergeV s (l.take (i + 1)) = stepV (mergeV s (l.take i)) l[i] := foldl_next _ _ hi
theorem mergeC_next (s : Store) {l : List Cell} {i : Nat} (hi : i < l.length) : mergeC s (l.take (i + 1)) = stepC (mergeC s (l.take i)) l[i] := foldl_next _ _ hi
theorem setV_out (s : Store) (n v : ByteArray) : (setV s n v).out = s.out := by unfold setV; split <;> rfl
theorem setC_out (s : Store) (n k v : ByteArray) : (setC s n k v).out = s.out := by unfold setC; split <;> rfl
theorem mergeV_out (l : List Var) : ∀ s, (mergeV s l).out = s.out := by
  induction l with
  | nil => intro s; rfl
  | cons x r ih => intro s; exact (ih _).trans (setV_out _ _ _)
theorem mergeC_out (l : List Cell) : ∀ s, (mergeC s l).out = s.out := by
  induction l with
  | nil => intro s; rfl
  | cons x r ih => intro s; exact (ih _).trans (setC_out _ _ _ _)
theorem SzB.mergeV {l : List Var} : ∀ {s : Store}, SzB s → (∀ x ∈ l, x.name.size ≤ 2000000) → SzB (mergeV s l) := by
  induction l with
  | nil => intro s h _; exact h
  | cons x r ih => intro s h hx; exact ih (h.setV (hx x (by simp))) (fun y hy => hx y (by simp [hy]))
theorem SzB.mergeC {l : List Cell} : ∀ {s : Store}, SzB s → (∀ x ∈ l, x.name.size ≤ 2000000) → SzB (mergeC s l) := by
  induction l with
  | nil => intro s h _; exact h
  | cons x r ih => intro s h hx; exact ih (h.setC (hx x (by simp))) (fun y hy => hx y (by simp [hy]))
end Go.Sim
/- Numbers told in figures, blanks ahead taken off: strconv.Itoa and strings.TrimLeft told of the abstract heap. Conditions: none. -/
set_option linter.unusedVariables false
set_option linter.unusedSimpArgs false
namespace Go.Sim
open Go.RowKit Go.Proofs Go.Shelf
variable {P : Program} {FB : Nat → Prop} {w0 : World} {μ : Nat → Option Loc} {h : AH} {w : World}
/-- The table of powers of ten, as it was found. -/
def powC : List Value := Lib.pow10Tab.map (Value.int .u64)
def Pow (g : Nat) (h : AH) : Prop := h.ob g = .cells powC .ro g
theorem Sim.table (s : Sim P FB w0 μ h w) {g : Nat} {nm : String} {zs : List Int} {k : IntKind} {n : Nat} (hg : P.globalNamed nm = some g) (hgs : g < P.globals.size) (e : h.ob g = .cells (zs.map (Value.int k)) .ro n) : Lib.TabIs P w nm k zs := by
  obtain ⟨l, hl, hb, ho⟩ := s.glob g hgs
  obtain ⟨arr, et, fz, h1, h2⟩ := s.tab g _ n hgs e
  have hF := s.rob g l _ n hl e
  rw [hb] at hF
  have hw : w.heap[g]? = some (.cells arr et fz) := (s.frame g hF).2.trans h1
  have ea : arr = (zs.map (Value.int k)).toArray := by
    apply Array.ext
    · simpa using h2
    · intro j a b
      have b' : j < zs.length := by simpa using b
      obtain ⟨cv, hc, hv⟩ := s.cell g l _ _ n hl e j (by simpa using b')
      rw [hb, ho, Nat.zero_add] at hc
      simp only [World.cell?, hw, Option.isSome_none, Bool.false_eq_true, if_false] at hc
      rw [Array.getElem?_eq_getElem a] at hc
      have hv' := VR.plain_eq (by simpa using hv) rfl
      simp only [Option.some.injEq] at hc
      simpa [hc] using hv'
  unfold Lib.TabIs World.var?
  rw [hg]
  simp only [Option.bind_some, hw, ea]
theorem below_grow_drew (w : World) (k : Nat) (os : Array Obj) : Below w.heap.size w (Sort.grow (w.drewN k) os) :=
  ⟨rfl, rfl, rfl, by rw [Sort.size_grow]; exact Nat.le_add_right _ _, fun b hb => Sort.heap_grow_old (w.drewN k) os hb⟩
theorem cargs_one {a : Value} {cargs : Array Value} (la : LR μ [a] cargs.toList) (hp : isPlain a = true) : cargs = #[a] := by
  have hsz : cargs.size = 1 := by have : cargs.toList.length = 1 := la.1.symm; simpa using this
  have h0 := la.2 0 (by simp) (by simpa using (by omega : 0 < cargs.size))
  have := VR.plain_eq h0 hp
  apply Array.ext
  · simpa using hsz
  · intro i a b
    have : i = 0 := by have : i < 1 := by simpa using b
                       omega
    subst this
    simpa using this
theorem CD.itoa {f : FuncId} {ρ : Ren} (hb : callB P f = true) (hf : ρ.f 171 = f) (L : LaysM.n171 P ρ) {g : Nat} (hg : P.globalNamed "internal/strconv.uint64pow10" = some g) (hgs : g < P.globals.size) (n : Nat) (hn : n < 1000000) (ht : Pow g h) :
    CD P f [.int .i64 (n : Nat)] h (.string (decB n)) h := by
  subst hf
  refine CE.call hb ?_
  intro FB w0 μ w cargs R' s la hk
  obtain rfl := cargs_one la rfl
  refine (Any.strconv_Itoa L (n : Int) (by omega) (by omega) w (s.table hg hgs ht)).mono fun e' w' h12 => ?_
  obtain ⟨h1, k, os, h2⟩ := h12
  subst h1 h2
  refine hk (.string (decB n)) h μ _ _ ⟨rfl, rfl⟩ ⟨s.below (below_grow_drew w k os), Ext.refl _, Unt.refl _ _⟩ ?_
  have : (Lib.itoa (n : Int)).toArray = (Lib.decDigits n).toArray := by rw [Lib.itoa, if_neg (by omega)]; simp
  rw [this]
  exact .plain _ rfl
theorem CD.trimL {f : FuncId} {ρ : Ren} (hb : callB P f = true) (hf : ρ.f 161 = f) (L : Lays.n161 P ρ) (s : ByteArray) : CD P f [.string s, .string ⟨#[32]⟩] h (.string ⟨(Lib.trimLeftB s.data.toList 32).toArray⟩) h := by
  subst hf
  refine CE.call hb ?_
  intro FB w0 μ w cargs R' si la hk
  have hsz : cargs.size = 2 := by have : cargs.toList.length = 2 := la.1.symm; simpa using this
  have h0 := VR.plain_eq (la.2 0 (by simp) (by simpa using (by omega : 0 < cargs.size))) rfl
  have h1 := VR.plain_eq (la.2 1 (by simp) (by simpa using (by omega : 1 < cargs.size))) rfl
  obtain rfl : cargs = #[.string s, .string ⟨#[32]⟩] := by
    apply Array.ext
    · simp [hsz]
    · intro i a b
      have : i = 0 ∨ i = 1 := by have : i < 2 := by simpa using b
                                 omega
      rcases this with rfl | rfl
      · simpa using h0
      · simpa using h1
  refine (Any.strings_TrimLeft_one L s 32 (by decide) w).mono fun e' w' h12 => ?_
  obtain ⟨h1, h2⟩ := h12
  subst h1 h2
  exact hk _ h μ _ _ ⟨rfl, rfl⟩ ⟨si, Ext.refl _, Unt.refl _ _⟩ (.plain _ rfl)
end Go.Sim
namespace Go.Proofs.YtcggnolnakgkeaaDoor
open Go Go.Sim Go.Proofs
set_option linter.unusedSimpArgs false
set_option linter.unusedVariables false
set_option maxRecDepth 100000
set_option maxHeartbeats 1000000
theorem drop_byte (s : ByteArray) {i : Nat} (hi : i < s.size) : s.data.toList.drop i = byteAt s i :: s.data.toList.drop (i + 1) := by
  rw [List.drop_eq_getElem_cons (by simpa using hi)]
  congr 1
  simp [byteAt, hi]
theorem app_nil (s : ByteArray) : s ++ ⟨#[]⟩ = s := ByteArray.append_empty
theorem nil_app (s : ByteArray) : ⟨#[]⟩ ++ s = s := ByteArray.empty_append
theorem Itoa_c (n : Nat) (hn : n < 1000000) (h : AH) (ht : Pow 3 h) : CD Tryd.prog 81 [.int .i64 (n : Nat)] h (.string (decB n)) h :=
  CD.itoa (ρ := ren8) (by kernel_rfl) rfl lays171 (by kernel_rfl) (of_decide_eq_true (by kernel_rfl)) n hn ht
theorem TrimLeft_c (s : ByteArray) (h : AH) : CD Tryd.prog 77 [.string s, .string ⟨#[32]⟩] h (.string ⟨(Lib.trimLeftB s.data.toList 32).toArray⟩) h :=
  CD.trimL (ρ := ren9) (by kernel_rfl) rfl lays161 s
theorem Decimal_i (n : Nat) (hn : n < 1000000) (h : AH) (ht : Pow 3 h) : CD Tryd.prog 76 [.int .i64 (n : Nat)] h (.string (decB n)) h := by
  refine CD.quiet ?_ (low_string _ _)
  refine CC.ofN Tryd.func76 Tryd.ntmps76 Tryd.results76 rfl (by decide) (by kernel_rfl) ?_
  simp (maxSteps := 1000000) -implicitDefEqProofs only [push_cast, seval]
  with_reducible refine CD.to (Itoa_c n hn _ ht) ?_
  simp (maxSteps := 1000000) -implicitDefEqProofs only [push_cast, seval]
  exact Keep.refl _ _
theorem tmodN (n m : Nat) : Int.tmod (n : Int) (m : Int) = ((n % m : Nat) : Int) := rfl
theorem NumText_i (n : Nat) (hn : n < 4000000) (h : AH) (ht : Pow 3 h) : CD Tryd.prog 60 [.int .i64 (n : Nat)] h (.string (decB (n % 1000000))) h := by
  refine CD.quiet ?_ (low_string _ _)
  have e : (IntKind.i64.wrap ((n : Int).tmod 1000000 + 1000000)).tmod 1000000 = ((n % 1000000 : Nat) : Int) := by
    rw [show (n : Int).tmod 1000000 = ((n % 1000000 : Nat) : Int) from tmodN n 1000000, w64 (by omega) (by omega)]
    have := tmodN (n % 1000000 + 1000000) 1000000
    rw [show ((n % 1000000 + 1000000 : Nat) : Int) = ((n % 1000000 : Nat) : Int) + 1000000 by omega] at this
    refine this.trans ?_
    omega
  have hm : n % 1000000 < 1000000 := Nat.mod_lt _ (by decide)
  generalize n % 1000000 = m at e hm
  refine CC.ofN Tryd.func60 Tryd.ntmps60 Tryd.results60 rfl (by decide) (by kernel_rfl) ?_
  simp (maxSteps := 1000000) -implicitDefEqProofs only [push_cast, seval]
  rw [e]
  with_reducible refine CD.to (Decimal_i m hm _ ht) ?_
  simp (maxSteps := 1000000) -implicitDefEqProofs only [push_cast, seval]
  exact Keep.refl _ _
theorem isFigure_c (c : UInt8) (h : AH) : CD Tryd.prog 78 [.int .u8 (c.toNat : Nat)] h (.bool (figB c)) h := by
  refine CD.quiet ?_ (low_bool _ _)
  have := c.toNat_lt
  refine CC.ofN Tryd.func78 Tryd.ntmps78 Tryd.results78 rfl (by decide) (by kernel_rfl) ?_
  simp (maxSteps := 1000000) -implicitDefEqProofs only [push_cast, seval]
  rw [w64 (by omega) (by omega)]
  repeat' (first | with_reducible (first | exact Keep.refl _ _ | assumption | exact byte_lt _ _ | apply Keep.alloc | (refine Keep.set ?_ ?_; rotate_left; · omega) | apply Pre.alloc | apply Pre.set | exact Pre.refl _ | exact le_alloc _ | (refine Pre.keep ?_; assumption) | (refine Pre.n ?_; assumption)) | ((with_reducible (first | refine CD.to (within_c _ _ _ _) ?_ | refine CQ.pure (fun _ => within_c _ _ _ _) ?_ | refine bcase_d (fun hb => ?_) (fun hb => ?_) | refine bcase_mk (fun hb => ?_) (fun hb => ?_))) <;> try simp (maxSteps := 1000000) -implicitDefEqProofs only [push_cast, seval]) | with_reducible refine And.intro ?_ ?_ | omega | (simp only [alloc_n, set_n, kill_n]; omega) | (exfalso; omega))
  congr 1
  simp only [inB, figB]
  rw [Bool.eq_iff_iff]
  simp
  omega
theorem l01Figure_c (n : Nat) (z : Int) (hz : z = (n : Nat)) (hn : n < 10) (h : AH) : CD Tryd.prog 79 [.int .i64 z] h (.int .u8 ((UInt8.ofNat (48 + n)).toNat : Nat)) h := by
  refine CD.quiet ?_ (low_int _ _ _)
  refine CC.ofN Tryd.func79 Tryd.ntmps79 Tryd.results79 rfl (by decide) (by kernel_rfl) ?_
  simp (maxSteps := 1000000) -implicitDefEqProofs only [push_cast, seval]
  repeat' (first | with_reducible (first | exact Keep.refl _ _ | assumption | exact byte_lt _ _ | apply Keep.alloc | (refine Keep.set ?_ ?_; rotate_left; · omega) | apply Pre.alloc | apply Pre.set | exact Pre.refl _ | exact le_alloc _ | (refine Pre.keep ?_; assumption) | (refine Pre.n ?_; assumption)) | ((with_reducible (first | refine bcase_d (fun hb => ?_) (fun hb => ?_) | refine bcase_mk (fun hb => ?_) (fun hb => ?_))) <;> try simp (maxSteps := 1000000) -implicitDefEqProofs only [push_cast, seval]) | with_reducible refine And.intro ?_ ?_ | omega | (simp only [alloc_n, set_n, kill_n]; omega) | (exfalso; omega))
  rw [hz, w64 (by omega) (by omega)]
  congr 1
theorem Decimal_s (n : Nat) (hn : n < 1000000) (h : AH) : CD Tryd.prog 64 [.int .i64 (n : Nat)] h (.string (decB n)) h := by
  refine CD.quiet ?_ (low_string _ _)
  have hz := decB_size hn
  have hm := maxLen_eq
  have hneg : decide ((n : Int) < 0) = false := by simp
  refine CC.ofN Tryd.func64 Tryd.ntmps64 Tryd.results64 rfl (by decide) (by kernel_rfl) ?_
  simp (maxSteps := 1000000) -implicitDefEqProofs only [push_cast, seval]
  with_reducible refine bcase_d (fun hb => ?_) (fun hb => ?_)
  · obtain rfl : n = 0 := by omega
    simp (maxSteps := 1000000) -implicitDefEqProofs only [push_cast, seval]
    exact ⟨by rw [decB, Lib.decDigits]; rfl, Keep.refl _ _⟩
  · simp (maxSteps := 1000000) -implicitDefEqProofs only [push_cast, seval]
    refine WC.loopA (by kernel_rfl) [0, 4] [5, 10, 11, 12, 13, 14, 15, 16, 17, 18, 19, 20, 21, 22, 23, 24, 25] (fun a : Nat × ByteArray => [.int .i64 (a.1 : Nat), .string a.2]) (fun a h' => (a.1 < 1000000 ∧ decB n = decR a.1 ++ a.2) ∧ Keep h.n h h' ∧ h.n ≤ h'.n) (fun a => a.1) (n, ⟨#[]⟩) (by kernel_rfl) ⟨⟨hn, by show decB n = decR n ++ ⟨#[]⟩; rw [decR, if_neg (by omega), app_nil]⟩, Keep.refl _ _, Nat.le_refl _⟩ ?_
    intro a g h1 hJ
    have ha := hJ.1.1
    have he := hJ.1.2
    have hk := hJ.2.1
    have hl := hJ.2.2
    clear hJ
    simp (maxSteps := 1000000) -implicitDefEqProofs only [push_cast, seval]
    with_reducible refine bcase_d (fun hb1 => ?_) (fun hb1 => ?_)
    · simp (maxSteps := 1000000) -implicitDefEqProofs only [push_cast, seval, hneg]
      have e0 : a.1 = 0 := by omega
      rw [he, e0, decR, if_pos rfl, nil_app]
      exact ⟨rfl, hk⟩
    · simp (maxSteps := 1000000) -implicitDefEqProofs only [push_cast, seval]
      with_reducible refine bcase_d (fun hb2 => ?_) (fun hb2 => ?_)
      · have : (a.1 : Int).tmod 10 = ((a.1 % 10 : Nat) : Int) := tmodN a.1 10
        omega
      · simp (maxSteps := 1000000) -implicitDefEqProofs only [push_cast, seval]
        have hd := decR_step (n := a.1) (by omega)
        have hsz := congrArg ByteArray.size he
        rw [hd, ByteArray.append_assoc] at he
        have h1z : (⟨#[UInt8.ofNat (48 + a.1 % 10)]⟩ : ByteArray).size = 1 := rfl
        rw [ByteArray.size_append] at hsz
        with_reducible refine CD.to (l01Figure_c (a.1 % 10) _ (tmodN a.1 10) (Nat.mod_lt _ (by decide)) _) ?_
        simp (maxSteps := 1000000) -implicitDefEqProofs only [push_cast, seval]
        rw [UInt8.ofNat_toNat]
        refine And.intro (by omega) ?_
        have e10 : IntKind.i64.wrap ((a.1 : Int).tdiv 10) = ((a.1 / 10 : Nat) : Int) := by
          rw [show (a.1 : Int).tdiv 10 = ((a.1 / 10 : Nat) : Int) from rfl, w64 (by omega) (by omega)]
        rw [e10]
        exact ⟨(a.1 / 10, ⟨#[UInt8.ofNat (48 + a.1 % 10)]⟩ ++ a.2), by kernel_rfl, ⟨⟨by show a.1 / 10 < 1000000; omega, he⟩, hk.alloc hl, by show h.n ≤ h1.n + 1; omega⟩, by show a.1 / 10 < a.1; omega⟩
theorem NumText_s (n : Nat) (hn : n < 4000000) (h : AH) : CD Tryd.prog 31 [.int .i64 (n : Nat)] h (.string (decB (n % 1000000))) h := by
  refine CD.quiet ?_ (low_string _ _)
  have e : (n : Int).tmod 1000000 = ((n % 1000000 : Nat) : Int) := tmodN n 1000000
  have hm : n % 1000000 < 1000000 := Nat.mod_lt _ (by decide)
  generalize n % 1000000 = m at e hm
  refine CC.ofN Tryd.func31 Tryd.ntmps31 Tryd.results31 rfl (by decide) (by kernel_rfl) ?_
  simp (maxSteps := 1000000) -implicitDefEqProofs only [push_cast, seval]
  rw [e]
  with_reducible refine bcase_d (fun hb => ?_) (fun hb => ?_)
  · omega
  · simp (maxSteps := 1000000) -implicitDefEqProofs only [push_cast, seval]
    with_reducible refine CD.to (Decimal_s m hm _) ?_
    simp (maxSteps := 1000000) -implicitDefEqProofs only [push_cast, seval]
    exact Keep.refl _ _
theorem trim_step (s : ByteArray) {i : Nat} (hi : i < s.size) (e : (byteAt s i).toNat = 32) : Lib.trimLeftB (s.data.toList.drop (i + 1)) 32 = Lib.trimLeftB (s.data.toList.drop i) 32 := by
  have : byteAt s i = 32 := UInt8.toNat_inj.1 e
  rw [drop_byte s hi, this]
  simp [Lib.trimLeftB]
theorem trim_end (s : ByteArray) {i : Nat} (hi : i < s.size) (e : (byteAt s i).toNat ≠ 32) : Lib.trimLeftB (s.data.toList.drop i) 32 = s.data.toList.drop i := by
  have : byteAt s i ≠ 32 := fun c => e (by rw [c]; rfl)
  rw [drop_byte s hi]
  simp [Lib.trimLeftB, this]
theorem numL_fig (s : ByteArray) {i n : Nat} (hi : i < s.size) (h1 : 48 ≤ (byteAt s i).toNat) (h2 : (byteAt s i).toNat ≤ 57) : numL n (s.data.toList.drop i) = numL ((10 * n + ((byteAt s i).toNat - 48)) % 1000000) (s.data.toList.drop (i + 1)) := by
  rw [drop_byte s hi, numL, if_pos (by simp [figB, h1, h2])]
theorem numL_non (s : ByteArray) {i n : Nat} (hi : i < s.size) (h1 : ¬ (48 ≤ (byteAt s i).toNat ∧ (byteAt s i).toNat ≤ 57)) : numL n (s.data.toList.drop i) = n := by
  rw [drop_byte s hi, numL, if_neg (by simp only [figB, Bool.and_eq_true, decide_eq_true_eq]; exact h1)]
theorem numL_end (s : ByteArray) {i n : Nat} (hi : s.size ≤ i) : numL n (s.data.toList.drop i) = n := by
  rw [List.drop_eq_nil_of_le (by simpa using hi), numL]
theorem num_step {n b : Nat} (hn : n < 1000000) (h1 : 48 ≤ b) (h2 : b < 256) : (IntKind.i64.wrap (IntKind.i64.wrap (10 * (n : Int)) + IntKind.i64.wrap (IntKind.u8.wrap ((b : Int) - 48)))).tmod 1000000 = (((10 * n + (b - 48)) % 1000000 : Nat) : Int) := by
  have e1 : IntKind.u8.wrap ((b : Int) - 48) = ((b - 48 : Nat) : Int) := by rw [w8 (by omega) (by omega)]; omega
  have e2 : IntKind.i64.wrap (10 * (n : Int)) = 10 * (n : Int) := w64 (by omega) (by omega)
  have e3 : IntKind.i64.wrap ((b - 48 : Nat) : Int) = ((b - 48 : Nat) : Int) := w64 (by omega) (by omega)
  rw [e1, e2, e3, w64 (by omega) (by omega)]
  have := tmodN (10 * n + (b - 48)) 1000000
  rw [show ((10 * n + (b - 48) : Nat) : Int) = 10 * (n : Int) + ((b - 48 : Nat) : Int) by omega] at this
  exact this
theorem NumOf_s (s : ByteArray) (hs : s.size ≤ maxLen) (h : AH) : CD Tryd.prog 32 [.string s] h (.int .i64 (numOf s : Nat)) h := by
  refine CD.quiet ?_ (low_int _ _ _)
  have hm := maxLen_eq
  refine CC.ofN Tryd.func32 Tryd.ntmps32 Tryd.results32 rfl (by decide) (by kernel_rfl) ?_
  simp (maxSteps := 1000000) -implicitDefEqProofs only [push_cast, seval]
  refine WC.loopA (by kernel_rfl) [3] [5, 6, 7, 8, 9, 10, 11, 12, 13, 14, 15, 16] (fun i : Nat => [.int .i64 (i : Nat)]) (fun i h' => (i ≤ s.size ∧ Lib.trimLeftB (s.data.toList.drop i) 32 = Lib.trimLeftB s.data.toList 32) ∧ h' = h) (fun i => s.size - i) 0 (by kernel_rfl) ⟨⟨Nat.zero_le _, rfl⟩, rfl⟩ ?_
  intro i g h' hJ
  have hi := hJ.1.1
  have hj := hJ.1.2
  have e := hJ.2
  clear hJ
  subst e
  simp (maxSteps := 1000000) -implicitDefEqProofs only [push_cast, seval]
  repeat' (first | with_reducible (first | exact Keep.refl _ _ | assumption | exact byte_lt _ _ | apply Keep.alloc | (refine Keep.set ?_ ?_; rotate_left; · omega) | apply Pre.alloc | apply Pre.set | exact Pre.refl _ | exact le_alloc _ | (refine Pre.keep ?_; assumption) | (refine Pre.n ?_; assumption)) | ((with_reducible (first | refine bcase_d (fun hb => ?_) (fun hb => ?_) | refine bcase_mk (fun hb => ?_) (fun hb => ?_))) <;> try simp (maxSteps := 1000000) -implicitDefEqProofs only [push_cast, seval]) | with_reducible refine And.intro ?_ ?_ | omega | (simp only [alloc_n, set_n, kill_n]; omega) | (exfalso; omega))
  · rename_i hb1
    have hlt : i < s.size := by omega
    rw [wrapSucc (by omega)]
    exact ⟨i + 1, by kernel_rfl, ⟨by omega, (trim_step s hlt (by omega)).trans hj⟩, by omega⟩
  all_goals
    have hv : numOf s = numL 0 (s.data.toList.drop i) := by
      first
      | exact congrArg (numL 0) (hj.symm.trans (trim_end s (by omega) (by omega)))
      | exact congrArg (numL 0) (hj.symm.trans (by rw [List.drop_eq_nil_of_le (by simp; omega)]; rfl))
    clear hj
    refine WC.loopA (by kernel_rfl) [3, 4] [17, 18, 19, 20, 21, 22, 23, 24, 25, 26, 27, 28, 29, 30, 31, 32, 33, 34, 35, 36, 37, 38, 39, 40, 41, 42, 43] (fun c : Nat × Nat => [.int .i64 (c.1 : Nat), .int .i64 (c.2 : Nat)]) (fun c h2 => (c.1 ≤ s.size ∧ c.2 < 1000000 ∧ numOf s = numL c.2 (s.data.toList.drop c.1)) ∧ h2 = h') (fun c => s.size - c.1) (i, 0) (by kernel_rfl) ⟨⟨hi, by show 0 < 1000000; omega, hv⟩, rfl⟩ ?_
    intro c g2 h2 hJ
    have hc := hJ.1.1
    have hn := hJ.1.2.1
    have hw := hJ.1.2.2
    have e := hJ.2
    clear hJ
    subst e
    simp (maxSteps := 1000000) -implicitDefEqProofs only [push_cast, seval]
    repeat' (first | with_reducible (first | exact Keep.refl _ _ | assumption | exact byte_lt _ _ | apply Keep.alloc | (refine Keep.set ?_ ?_; rotate_left; · omega) | apply Pre.alloc | apply Pre.set | exact Pre.refl _ | exact le_alloc _ | (refine Pre.keep ?_; assumption) | (refine Pre.n ?_; assumption)) | ((with_reducible (first | refine bcase_d (fun hb => ?_) (fun hb => ?_) | refine bcase_mk (fun hb => ?_) (fun hb => ?_))) <;> try simp (maxSteps := 1000000) -implicitDefEqProofs only [push_cast, seval]) | with_reducible refine And.intro ?_ ?_ | omega | (simp only [alloc_n, set_n, kill_n]; omega) | (exfalso; omega))
    all_goals
      first
      | (have hlt : c.1 < s.size := by omega
         have hf := numL_fig s (n := c.2) hlt (by omega) (by omega)
         rw [wrapSucc (by omega), num_step hn (by omega) (byteAt s c.1).toNat_lt]
         exact ⟨(c.1 + 1, (10 * c.2 + ((byteAt s c.1).toNat - 48)) % 1000000), by kernel_rfl, ⟨by show c.1 + 1 ≤ s.size; omega, Nat.mod_lt _ (by decide), hw.trans hf⟩, by show s.size - (c.1 + 1) < s.size - c.1; omega⟩)
      | (rw [hw, numL_non s (by omega) (by omega)])
      | (rw [hw, numL_end s (by omega)])
theorem NumOf_i (s : ByteArray) (hs : s.size ≤ maxLen) (h : AH) : CD Tryd.prog 61 [.string s] h (.int .i64 (numOf s : Nat)) h := by
  refine CD.quiet ?_ (low_int _ _ _)
  have hm := maxLen_eq
  have hL : (Lib.trimLeftB s.data.toList 32).length ≤ s.data.toList.length := (List.dropWhile_sublist _).length_le
  have hv : numOf s = numL 0 (Lib.trimLeftB s.data.toList 32) := rfl
  refine CC.ofN Tryd.func61 Tryd.ntmps61 Tryd.results61 rfl (by decide) (by kernel_rfl) ?_
  simp (maxSteps := 1000000) -implicitDefEqProofs only [push_cast, seval]
  with_reducible refine CD.to (TrimLeft_c s _) ?_
  generalize hT : (⟨(Lib.trimLeftB s.data.toList 32).toArray⟩ : ByteArray) = T
  have hv2 : numOf s = numL 0 T.data.toList := by rw [hv, ← hT]
  have hz : T.size ≤ s.size := by
    rw [← hT]
    show (List.toArray _).size ≤ s.data.size
    rw [List.size_toArray]
    rw [Array.length_toList] at hL
    exact hL
  clear hT hv hL
  simp (maxSteps := 1000000) -implicitDefEqProofs only [push_cast, seval]
  refine WC.loopA (by kernel_rfl) [3, 10] [5, 11, 12, 13, 14, 15, 16, 17, 18, 19, 20, 21, 22, 23, 24] (fun c : Nat × Nat => [.int .i64 (c.2 : Nat), .int .i64 (c.1 : Nat)]) (fun c h2 => (c.1 ≤ T.size ∧ c.2 < 1000000 ∧ numOf s = numL c.2 (T.data.toList.drop c.1)) ∧ h2.ob h.n = .cells (bytesV T) .solo h.n ∧ Keep h.n h h2 ∧ h.n < h2.n) (fun c => T.size - c.1) (0, 0) (by kernel_rfl) ⟨⟨Nat.zero_le _, by show 0 < 1000000; omega, hv2⟩, alloc_same _, (Keep.refl _ _).alloc (Nat.le_refl _), lt_alloc _⟩ ?_
  intro c g2 h2 hJ
  have hc := hJ.1.1
  have hn := hJ.1.2.1
  have hw := hJ.1.2.2
  have e := hJ.2.1
  have hk := hJ.2.2.1
  have hl := hJ.2.2.2
  clear hJ
  simp (maxSteps := 1000000) -implicitDefEqProofs only [push_cast, seval]
  with_reducible refine bcase_d (fun hb => ?_) (fun hb => ?_)
  · have hlt : c.1 < T.size := by omega
    have r : rd1 h2 h.n (c.1 * 1) = some (.int .u8 (byteAt T c.1).toNat) := by
      rw [rd1_of e, Nat.mul_one]
      simp [rd1O, bytesV, byteAt, hlt]
    simp (maxSteps := 1000000) -implicitDefEqProofs only [push_cast, seval, r, hl]
    repeat' (first | with_reducible (first | exact Keep.refl _ _ | assumption | exact byte_lt _ _ | apply Keep.alloc | (refine Keep.set ?_ ?_; rotate_left; · omega) | apply Pre.alloc | apply Pre.set | exact Pre.refl _ | exact le_alloc _ | (refine Pre.keep ?_; assumption) | (refine Pre.n ?_; assumption)) | ((with_reducible (first | refine CD.to (isFigure_c _ _) ?_ | refine CQ.pure (fun _ => isFigure_c _ _) ?_ | refine bcase_d (fun hb => ?_) (fun hb => ?_) | refine bcase_mk (fun hb => ?_) (fun hb => ?_))) <;> try simp (maxSteps := 1000000) -implicitDefEqProofs only [push_cast, seval, r, hl]) | with_reducible refine And.intro ?_ ?_ | omega | (simp only [alloc_n, set_n, kill_n]; omega) | (exfalso; omega))
    · have hfb : 48 ≤ (byteAt T c.1).toNat ∧ (byteAt T c.1).toNat ≤ 57 := by simpa [figB] using hb
      have hf := numL_fig T (n := c.2) hlt hfb.1 hfb.2
      rw [wrapSucc (by omega), num_step hn hfb.1 (byteAt T c.1).toNat_lt]
      exact ⟨(c.1 + 1, (10 * c.2 + ((byteAt T c.1).toNat - 48)) % 1000000), by kernel_rfl, ⟨⟨by show c.1 + 1 ≤ T.size; omega, Nat.mod_lt _ (by decide), hw.trans hf⟩, e, hk⟩, by show T.size - (c.1 + 1) < T.size - c.1; omega⟩
    · have hfb : ¬ (48 ≤ (byteAt T c.1).toNat ∧ (byteAt T c.1).toNat ≤ 57) := fun x => by
        have : figB (byteAt T c.1) = true := by simpa [figB] using x
        rw [hb] at this; cases this
      simp (maxSteps := 1000000) -implicitDefEqProofs only [push_cast, seval]
      simp (maxSteps := 1000000) -implicitDefEqProofs only [push_cast, seval]
      refine ⟨Or.inr rfl, ?_⟩
      simp (maxSteps := 1000000) -implicitDefEqProofs only [push_cast, seval]
      rw [hw, numL_non T hlt hfb]
      exact ⟨rfl, hk⟩
  · simp (maxSteps := 1000000) -implicitDefEqProofs only [push_cast, seval]
    rw [hw, numL_end T (by omega)]
    exact ⟨rfl, hk⟩
end Go.Proofs.YtcggnolnakgkeaaDoor
namespace Go.Proofs.YtcggnolnakgkeaaDoor
open Go Go.Sim Go.Proofs
set_option linter.unusedSimpArgs false
set_option linter.unusedVariables false
set_option maxRecDepth 100000
set_option maxHeartbeats 1000000
theorem varIn_at (n : ByteArray) (l : List Var) {i : Nat} (hi : i < l.length) : varIn n (l.drop i) = if l[i].name = n then l[i].val else varIn n (l.drop (i + 1)) := by
  rw [List.drop_eq_getElem_cons hi, varIn]
theorem varIn_end (n : ByteArray) (l : List Var) {i : Nat} (hi : l.length ≤ i) : varIn n (l.drop i) = ⟨#[]⟩ := by
  rw [List.drop_eq_nil_of_le hi, varIn]
theorem cellIn_at (n k : ByteArray) (l : List Cell) {i : Nat} (hi : i < l.length) : cellIn n k (l.drop i) = if l[i].name = n ∧ l[i].key = k then l[i].val else cellIn n k (l.drop (i + 1)) := by
  rw [List.drop_eq_getElem_cons hi, cellIn]
theorem cellIn_end (n k : ByteArray) (l : List Cell) {i : Nat} (hi : l.length ≤ i) : cellIn n k (l.drop i) = ⟨#[]⟩ := by
  rw [List.drop_eq_nil_of_le hi, cellIn]
theorem Cut_i (s : ByteArray) (hs : s.size ≤ maxLen) (h : AH) : CD Tryd.prog 58 [.string s] h (.string (cutB s)) h := by
  refine CD.quiet ?_ (low_string _ _)
  have hm := maxLen_eq
  refine CC.ofN Tryd.func58 Tryd.ntmps58 Tryd.results58 rfl (by decide) (by kernel_rfl) ?_
  simp (maxSteps := 1000000) -implicitDefEqProofs only [push_cast, seval]
  refine ⟨by omega, by omega, ?_, Keep.refl _ _⟩
  unfold cutB
  split
  · rw [show (min (s.size : Int) 40).toNat = 40 by omega]
  · rw [show (min (s.size : Int) 40).toNat = s.size by omega]
    rw [ByteArray.extract_zero_size]
theorem byName_i (a b : Var) (h : AH) : CD Tryd.prog 59 [.agg #[.string a.name, .string a.val], .agg #[.string b.name, .string b.val]] h (.int .i64 (cmpB a.name b.name)) h := by
  refine CD.quiet ?_ (low_int _ _ _)
  refine CC.ofN Tryd.func59 Tryd.ntmps59 Tryd.results59 rfl (by decide) (by kernel_rfl) ?_
  simp (maxSteps := 1000000) -implicitDefEqProofs only [push_cast, seval]
  repeat' (first | with_reducible (first | exact Keep.refl _ _ | assumption | exact byte_lt _ _ | apply Keep.alloc | (refine Keep.set ?_ ?_; rotate_left; · omega) | apply Pre.alloc | apply Pre.set | exact Pre.refl _ | exact le_alloc _ | (refine Pre.keep ?_; assumption) | (refine Pre.n ?_; assumption)) | ((with_reducible (first | refine CD.to (Compare_c _ _ _) ?_ | refine CQ.pure (fun _ => Compare_c _ _ _) ?_ | refine bcase_d (fun hb => ?_) (fun hb => ?_) | refine bcase_mk (fun hb => ?_) (fun hb => ?_))) <;> try simp (maxSteps := 1000000) -implicitDefEqProofs only [push_cast, seval]) | with_reducible refine And.intro ?_ ?_ | omega | (simp only [alloc_n, set_n, kill_n]; omega) | (exfalso; omega))
theorem added_i (a b : ByteArray) (ha : a.size ≤ maxLen) (hb : b.size ≤ maxLen) (h : AH) (ht : Pow 3 h) : CD Tryd.prog 25 [.string a, .string b] h (.string (addT a b)) h := by
  refine CD.quiet ?_ (low_string _ _)
  have h1 := numOf_lt a
  have h2 := numOf_lt b
  refine CC.ofN Tryd.func25 Tryd.ntmps25 Tryd.results25 rfl (by decide) (by kernel_rfl) ?_
  simp (maxSteps := 1000000) -implicitDefEqProofs only [push_cast, seval]
  with_reducible refine CD.to (NumOf_i a ha _) ?_
  simp (maxSteps := 1000000) -implicitDefEqProofs only [push_cast, seval]
  with_reducible refine CD.to (NumOf_i b hb _) ?_
  have e : IntKind.i64.wrap ((numOf a : Int) + (numOf b : Int)) = ((numOf a + numOf b : Nat) : Int) := by
    rw [w64 (by omega) (by omega)]; omega
  unfold addT
  generalize numOf a + numOf b = m at e
  have hm : m < 4000000 := by
    have e' := e
    rw [w64 (by omega) (by omega)] at e'
    omega
  simp (maxSteps := 1000000) -implicitDefEqProofs only [push_cast, seval]
  rw [e]
  with_reducible refine CD.to (NumText_i m hm _ ht) ?_
  simp (maxSteps := 1000000) -implicitDefEqProofs only [push_cast, seval]
  exact Keep.refl _ _
theorem VarOf_s (s : Store) (name : ByteArray) (vA vB : Value) (h : AH) (r : RdT h vA vB s) (zn : s.vars.length ≤ 2000000) : CD Tryd.prog 33 [.agg #[vA, vB, .string s.out], .string name] h (.string (varIn name s.vars)) h := by
  refine CD.withBig (fun big => CD.quiet ?_ (low_string _ _))
  have y1 := r.vars.one
  have y2 := r.cells.one
  obtain ⟨A, ca, rfl, hR⟩ := r.vars.rde (fun _ => rfl)
  have hm := maxLen_eq
  refine CC.ofN Tryd.func33 Tryd.ntmps33 Tryd.results33 rfl (by decide) (by kernel_rfl) ?_
  simp (maxSteps := 1000000) -implicitDefEqProofs only [push_cast, seval, y1, y2]
  have p0 := (Pre.refl h).alloc (AOb.cells [.slice A s.vars.length ca, vB, .string s.out] .solo h.n)
  refine WC.loopA (by kernel_rfl) [5] [4, 6, 7, 8, 9, 10, 11, 12, 13, 14, 15, 16, 17, 18, 19, 20, 21, 22, 23, 24, 25, 26] (fun i : Nat => [.int .i64 (i : Nat)]) (fun i h' => (i ≤ s.vars.length ∧ varIn name (s.vars.drop i) = varIn name s.vars) ∧ h'.ob h.n = AOb.cells [.slice A s.vars.length ca, vB, .string s.out] .solo h.n ∧ Pre h h' ∧ h.n < h'.n) (fun i => s.vars.length - i) 0 (by kernel_rfl) ⟨⟨Nat.zero_le _, rfl⟩, alloc_same _, p0, lt_alloc _⟩ ?_
  intro i g h1 hJ
  have hi := hJ.1.1
  have hv := hJ.1.2
  have e0 := hJ.2.1
  have p1 := hJ.2.2.1
  have l0 := hJ.2.2.2
  clear hJ
  simp (maxSteps := 1000000) -implicitDefEqProofs only [push_cast, seval, e0, rd_of e0, rd1_of e0, l0]
  with_reducible refine bcase_d (fun hb => ?_) (fun hb => ?_)
  · have hi' : i < s.vars.length := by omega
    with_reducible refine hR.use big p1 hi' (fun id off eA hlt hr => ?_)
    subst eA
    simp only [Var.enc] at hr
    have r0 := (rd_2 hr).1
    have r1 := (rd_2 hr).2
    rw [varIn_at name s.vars hi'] at hv
    simp (maxSteps := 1000000) -implicitDefEqProofs only [push_cast, seval, e0, rd_of e0, rd1_of e0, l0, hr, r0, r1, hlt]
    repeat (with_reducible refine And.intro ?_ ?_; · (first | omega | decide))
    with_reducible refine bcase_d (fun hb1 => ?_) (fun hb1 => ?_)
    · rw [if_pos hb1] at hv
      simp (maxSteps := 1000000) -implicitDefEqProofs only [push_cast, seval, e0, rd_of e0, rd1_of e0, l0, hr, r0, r1, hlt]
      exact ⟨by omega, by omega, by rw [hv], p1.ob⟩
    · rw [if_neg hb1] at hv
      simp (maxSteps := 1000000) -implicitDefEqProofs only [push_cast, seval]
      rw [wrapSucc (by omega)]
      exact ⟨i + 1, by kernel_rfl, ⟨⟨by omega, hv⟩, e0, p1, l0⟩, by omega⟩
  · simp (maxSteps := 1000000) -implicitDefEqProofs only [push_cast, seval]
    rw [← hv, varIn_end name s.vars (by omega)]
    exact ⟨rfl, p1.ob⟩
theorem VarOf_i (s : Store) (name : ByteArray) (vA vB : Value) (h : AH) (r : RdT h vA vB s) (zn : s.vars.length ≤ 2000000) : CD Tryd.prog 26 [.agg #[vA, vB, .string s.out], .string name] h (.string (varIn name s.vars)) h := by
  refine CD.withBig (fun big => CD.quiet ?_ (low_string _ _))
  have y1 := r.vars.one
  have y2 := r.cells.one
  obtain ⟨A, ca, rfl, hR⟩ := r.vars.rde (fun _ => rfl)
  have hm := maxLen_eq
  refine CC.ofN Tryd.func26 Tryd.ntmps26 Tryd.results26 rfl (by decide) (by kernel_rfl) ?_
  simp (maxSteps := 1000000) -implicitDefEqProofs only [push_cast, seval, y1, y2]
  have p0 := (Pre.refl h).alloc (AOb.cells [.slice A s.vars.length ca, vB, .string s.out] .solo h.n)
  refine WC.loopA (by kernel_rfl) [10] [4, 6, 11, 12, 13, 14, 15, 16, 17, 18, 19, 20] (fun i : Nat => [.int .i64 (i : Nat)]) (fun i h' => (i ≤ s.vars.length ∧ varIn name (s.vars.drop i) = varIn name s.vars) ∧ h'.ob h.n = AOb.cells [.slice A s.vars.length ca, vB, .string s.out] .solo h.n ∧ Pre h h' ∧ h.n < h'.n) (fun i => s.vars.length - i) 0 (by kernel_rfl) ⟨⟨Nat.zero_le _, rfl⟩, alloc_same _, p0, lt_alloc _⟩ ?_
  intro i g h1 hJ
  have hi := hJ.1.1
  have hv := hJ.1.2
  have e0 := hJ.2.1
  have p1 := hJ.2.2.1
  have l0 := hJ.2.2.2
  clear hJ
  simp (maxSteps := 1000000) -implicitDefEqProofs only [push_cast, seval, e0, rd_of e0, rd1_of e0, l0]
  with_reducible refine bcase_d (fun hb => ?_) (fun hb => ?_)
  · have hi' : i < s.vars.length := by omega
    with_reducible refine hR.use big p1 hi' (fun id off eA hlt hr => ?_)
    subst eA
    simp only [Var.enc] at hr
    have r0 := (rd_2 hr).1
    have r1 := (rd_2 hr).2
    rw [varIn_at name s.vars hi'] at hv
    simp (maxSteps := 1000000) -implicitDefEqProofs only [push_cast, seval, e0, rd_of e0, rd1_of e0, l0, hr, r0, r1, hlt]
    repeat (with_reducible refine And.intro ?_ ?_; · (first | omega | decide))
    with_reducible refine bcase_d (fun hb1 => ?_) (fun hb1 => ?_)
    · rw [if_pos hb1] at hv
      simp (maxSteps := 1000000) -implicitDefEqProofs only [push_cast, seval, e0, rd_of e0, rd1_of e0, l0, hr, r0, r1, hlt]
      exact ⟨by rw [hv], ((p1.alloc _).set (by omega) _).ob⟩
    · rw [if_neg hb1] at hv
      simp (maxSteps := 1000000) -implicitDefEqProofs only [push_cast, seval]
      rw [wrapSucc (by omega)]
      exact ⟨i + 1, by kernel_rfl, ⟨⟨by omega, hv⟩, (set_ne _ (by omega)).trans ((alloc_lt _ l0).trans e0), (p1.alloc _).set (by omega) _, by show h.n < h1.n + 1; omega⟩, by omega⟩
  · simp (maxSteps := 1000000) -implicitDefEqProofs only [push_cast, seval]
    rw [← hv, varIn_end name s.vars (by omega)]
    exact ⟨rfl, p1.ob⟩
theorem CellOf_s (s : Store) (name key : ByteArray) (vA vB : Value) (h : AH) (r : RdT h vA vB s) (zn : s.cells.length ≤ 2000000) (zk : key.size ≤ maxLen) : CD Tryd.prog 35 [.agg #[vA, vB, .string s.out], .string name, .string key] h (.string (cellIn name (cutB key) s.cells)) h := by
  refine CD.withBig (fun big => CD.quiet ?_ (low_string _ _))
  have y1 := r.vars.one
  have y2 := r.cells.one
  obtain ⟨A, ca, rfl, hR⟩ := r.cells.rde (fun _ => rfl)
  have hm := maxLen_eq
  refine CC.ofN Tryd.func35 Tryd.ntmps35 Tryd.results35 rfl (by decide) (by kernel_rfl) ?_
  simp (maxSteps := 1000000) -implicitDefEqProofs only [push_cast, seval, y1, y2]
  with_reducible refine CD.to (Cut_s key zk _) ?_
  generalize cutB key = ky
  simp (maxSteps := 1000000) -implicitDefEqProofs only [push_cast, seval, y1, y2]
  have p0 := (Pre.refl h).alloc (AOb.cells [vA, .slice A s.cells.length ca, .string s.out] .solo h.n)
  refine WC.loopA (by kernel_rfl) [7] [6, 10, 11, 12, 13, 14, 15, 16, 17, 18, 19, 20, 21, 22, 23, 24, 25, 26, 27, 28, 29, 30, 31, 32, 33, 34, 35, 36, 37, 38, 39, 40] (fun i : Nat => [.int .i64 (i : Nat)]) (fun i h' => (i ≤ s.cells.length ∧ cellIn name ky (s.cells.drop i) = cellIn name ky s.cells) ∧ h'.ob h.n = AOb.cells [vA, .slice A s.cells.length ca, .string s.out] .solo h.n ∧ Pre h h' ∧ h.n < h'.n) (fun i => s.cells.length - i) 0 (by kernel_rfl) ⟨⟨Nat.zero_le _, rfl⟩, alloc_same _, p0, lt_alloc _⟩ ?_
  intro i g h1 hJ
  have hi := hJ.1.1
  have hv := hJ.1.2
  have e0 := hJ.2.1
  have p1 := hJ.2.2.1
  have l0 := hJ.2.2.2
  clear hJ
  simp (maxSteps := 1000000) -implicitDefEqProofs only [push_cast, seval, e0, rd_of e0, rd1_of e0, l0]
  with_reducible refine bcase_d (fun hb => ?_) (fun hb => ?_)
  · have hi' : i < s.cells.length := by omega
    with_reducible refine hR.use big p1 hi' (fun id off eA hlt hr => ?_)
    subst eA
    simp only [Cell.enc] at hr
    have r0 := (rd_3 hr).1
    have r1 := (rd_3 hr).2.1
    have r2 := (rd_3 hr).2.2
    rw [cellIn_at name ky s.cells hi'] at hv
    simp (maxSteps := 1000000) -implicitDefEqProofs only [push_cast, seval, e0, rd_of e0, rd1_of e0, l0, hr, r0, r1, r2, hlt]
    repeat (with_reducible refine And.intro ?_ ?_; · (first | omega | decide))
    with_reducible refine bcase_d (fun hb1 => ?_) (fun hb1 => ?_)
    · simp (maxSteps := 1000000) -implicitDefEqProofs only [push_cast, seval, e0, rd_of e0, rd1_of e0, l0, hr, r0, r1, r2, hlt]
      repeat (with_reducible refine And.intro ?_ ?_; · (first | omega | decide))
      with_reducible refine bcase_d (fun hb2 => ?_) (fun hb2 => ?_)
      · rw [if_pos ⟨hb1, hb2⟩] at hv
        simp (maxSteps := 1000000) -implicitDefEqProofs only [push_cast, seval, e0, rd_of e0, rd1_of e0, l0, hr, r0, r1, r2, hlt]
        exact ⟨by omega, by omega, by rw [hv], p1.ob⟩
      · rw [if_neg (fun x => hb2 x.2)] at hv
        simp (maxSteps := 1000000) -implicitDefEqProofs only [push_cast, seval]
        rw [wrapSucc (by omega)]
        exact ⟨i + 1, by kernel_rfl, ⟨⟨by omega, hv⟩, e0, p1, l0⟩, by omega⟩
    · rw [if_neg (fun x => hb1 x.1)] at hv
      simp (maxSteps := 1000000) -implicitDefEqProofs only [push_cast, seval]
      rw [wrapSucc (by omega)]
      exact ⟨i + 1, by kernel_rfl, ⟨⟨by omega, hv⟩, e0, p1, l0⟩, by omega⟩
  · simp (maxSteps := 1000000) -implicitDefEqProofs only [push_cast, seval]
    rw [← hv, cellIn_end name ky s.cells (by omega)]
    exact ⟨rfl, p1.ob⟩
theorem CellOf_i (s : Store) (name key : ByteArray) (vA vB : Value) (h : AH) (r : RdT h vA vB s) (zn : s.cells.length ≤ 2000000) (zk : key.size ≤ maxLen) : CD Tryd.prog 28 [.agg #[vA, vB, .string s.out], .string name, .string key] h (.string (cellIn name (cutB key) s.cells)) h := by
  refine CD.withBig (fun big => CD.quiet ?_ (low_string _ _))
  have y1 := r.vars.one
  have y2 := r.cells.one
  obtain ⟨A, ca, rfl, hR⟩ := r.cells.rde (fun _ => rfl)
  have hm := maxLen_eq
  refine CC.ofN Tryd.func28 Tryd.ntmps28 Tryd.results28 rfl (by decide) (by kernel_rfl) ?_
  simp (maxSteps := 1000000) -implicitDefEqProofs only [push_cast, seval, y1, y2]
  have p0 := (Pre.refl h).alloc (AOb.cells [vA, .slice A s.cells.length ca, .string s.out] .solo h.n)
  have hC := fun (h : AH) => Cut_i key zk h
  generalize cutB key = ky at hC
  refine WC.loopA (by kernel_rfl) [12] [6, 8, 13, 14, 15, 16, 17, 18, 19, 20, 21, 22, 23, 24, 25, 26, 27, 28, 29] (fun i : Nat => [.int .i64 (i : Nat)]) (fun i h' => (i ≤ s.cells.length ∧ cellIn name ky (s.cells.drop i) = cellIn name ky s.cells) ∧ h'.ob h.n = AOb.cells [vA, .slice A s.cells.length ca, .string s.out] .solo h.n ∧ Pre h h' ∧ h.n < h'.n) (fun i => s.cells.length - i) 0 (by kernel_rfl) ⟨⟨Nat.zero_le _, rfl⟩, alloc_same _, p0, lt_alloc _⟩ ?_
  intro i g h1 hJ
  have hi := hJ.1.1
  have hv := hJ.1.2
  have e0 := hJ.2.1
  have p1 := hJ.2.2.1
  have l0 := hJ.2.2.2
  clear hJ
  simp (maxSteps := 1000000) -implicitDefEqProofs only [push_cast, seval, e0, rd_of e0, rd1_of e0, l0]
  with_reducible refine bcase_d (fun hb => ?_) (fun hb => ?_)
  · have hi' : i < s.cells.length := by omega
    with_reducible refine hR.use big p1 hi' (fun id off eA hlt hr => ?_)
    subst eA
    simp only [Cell.enc] at hr
    have r0 := (rd_3 hr).1
    have r1 := (rd_3 hr).2.1
    have r2 := (rd_3 hr).2.2
    rw [cellIn_at name ky s.cells hi'] at hv
    simp (maxSteps := 1000000) -implicitDefEqProofs only [push_cast, seval, e0, rd_of e0, rd1_of e0, l0, hr, r0, r1, r2, hlt]
    repeat (with_reducible refine And.intro ?_ ?_; · (first | omega | decide))
    refine WC.draw' (by kernel_rfl) (by kernel_rfl) (.q 0 (.q 1 (.q 2 (.q 3 (.q 4 (.q 5 (.q 6 (.q 7 (.c 8 (.q 9 (.q 10 (.done)))))))))))) (by kernel_rfl) ?_
    simp (maxSteps := 1000000) -implicitDefEqProofs only [push_cast, seval, e0, rd_of e0, rd1_of e0, l0, hr, r0, r1, r2, hlt]
    have lN : h.n < h1.n + 1 := by omega
    have eN : ((h1.alloc (AOb.cells [Value.string ⟨#[]⟩, Value.string ⟨#[]⟩, Value.string ⟨#[]⟩] .solo h1.n)).set h1.n (AOb.cells [Value.string s.cells[i].name, Value.string s.cells[i].key, Value.string s.cells[i].val] .solo h1.n)).ob h.n = AOb.cells [vA, .slice (some ⟨id, off, none⟩) s.cells.length ca, .string s.out] .solo h.n := (set_ne _ (by omega)).trans ((alloc_lt _ l0).trans e0)
    with_reducible refine bcase_d (fun hb1 => ?_) (fun hb1 => ?_)
    · simp (maxSteps := 1000000) -implicitDefEqProofs only [push_cast, seval, e0, rd_of e0, rd1_of e0, l0, hr, r0, r1, r2, hlt]
      with_reducible refine CQ.pure (fun h' => hC h') ?_
      simp (maxSteps := 1000000) -implicitDefEqProofs only [push_cast, seval, e0, rd_of e0, rd1_of e0, l0, hr, r0, r1, r2, hlt]
      with_reducible refine bcase_d (fun hb2 => ?_) (fun hb2 => ?_)
      · rw [if_pos ⟨hb1, hb2⟩] at hv
        simp (maxSteps := 1000000) -implicitDefEqProofs only [push_cast, seval, e0, rd_of e0, rd1_of e0, l0, hr, r0, r1, r2, hlt]
        exact ⟨by rw [hv], ((p1.alloc _).set (by omega) _).ob⟩
      · rw [if_neg (fun x => hb2 x.2)] at hv
        simp (maxSteps := 1000000) -implicitDefEqProofs only [push_cast, seval]
        rw [wrapSucc (by omega)]
        exact ⟨i + 1, by kernel_rfl, ⟨⟨by omega, hv⟩, eN, (p1.alloc _).set (by omega) _, lN⟩, by omega⟩
    · rw [if_neg (fun x => hb1 x.1)] at hv
      simp (maxSteps := 1000000) -implicitDefEqProofs only [push_cast, seval]
      rw [wrapSucc (by omega)]
      exact ⟨i + 1, by kernel_rfl, ⟨⟨by omega, hv⟩, eN, (p1.alloc _).set (by omega) _, lN⟩, by omega⟩
  · simp (maxSteps := 1000000) -implicitDefEqProofs only [push_cast, seval]
    rw [← hv, cellIn_end name ky s.cells (by omega)]
    exact ⟨rfl, p1.ob⟩
end Go.Proofs.YtcggnolnakgkeaaDoor
/- Lists with one in its place. Conditions: none. -/
set_option linter.unusedSimpArgs false
set_option linter.unusedVariables false
namespace Go.Sim
theorem cmpL_gt : ∀ a b : List UInt8, (0 < Lib.compareBytes a b) ↔ (Lib.compareBytes b a < 0)
  | [], [] => by simp [Lib.compareBytes]
  | [], _ :: _ => by simp [Lib.compareBytes]
  | _ :: _, [] => by simp [Lib.compareBytes]
  | x :: a, y :: b => by
    simp only [Lib.compareBytes]
    have ih := cmpL_gt a b
    by_cases h1 : x < y
    · have h2 : ¬ y < x := fun h => UInt8.lt_irrefl _ (UInt8.lt_trans h1 h)
      simp [h1, h2]
    · by_cases h2 : y < x
      · simp [h1, h2]
      · simp [h1, h2, ih]
theorem cmp_gt (a b : ByteArray) : (0 < cmpB a b) ↔ ltB b a = true := by
  rw [← cmp_lt]; exact cmpL_gt _ _
theorem cellCmp_gt (a b : Cell) : (0 < cellCmp a b) ↔ cellCmp b a < 0 := by
  unfold cellCmp
  by_cases e : a.name = b.name
  · rw [if_pos e, if_pos e.symm]; exact cmpL_gt _ _
  · rw [if_neg e, if_neg (fun x => e x.symm)]; exact cmpL_gt _ _
def plV (l : List Var) (x : Var) : List Var := l.filter (vLt x.name) ++ [x] ++ l.filter (vGt x.name)
def plC (l : List Cell) (x : Cell) : List Cell := l.filter (cLt x) ++ [x] ++ l.filter (cGt x)
theorem vLt_cmp (n : ByteArray) (x : Var) : decide (cmpB x.name n < 0) = vLt n x := by
  unfold vLt
  cases h : ltB x.name n
  · exact decide_eq_false (fun c => by rw [cmp_lt, h] at c; cases c)
  · exact decide_eq_true ((cmp_lt _ _).2 h)
theorem vGt_cmp (n : ByteArray) (x : Var) : decide (0 < cmpB x.name n) = vGt n x := by
  unfold vGt
  cases h : ltB n x.name
  · exact decide_eq_false (fun c => by rw [cmp_gt, h] at c; cases c)
  · exact decide_eq_true ((cmp_gt _ _).2 h)
theorem cLt_cmp (y x : Cell) : decide (cellCmp x y < 0) = cLt y x := rfl
theorem cGt_cmp (y x : Cell) : decide (0 < cellCmp x y) = cGt y x := by
  unfold cGt
  exact decide_eq_decide.2 (cellCmp_gt x y)
end Go.Sim
namespace Go.Proofs.YtcggnolnakgkeaaDoor
open Go Go.Sim Go.Proofs
set_option linter.unusedSimpArgs false
set_option linter.unusedVariables false
set_option maxRecDepth 100000
set_option maxHeartbeats 1000000
theorem placedV_c (l : List Var) (x : Var) (vA : Value) (h : AH) (r : RdV h vA 2 Var.enc l) (zn : l.length ≤ 2000000) :
    CC Tryd.prog 57 [vA, .agg #[.string x.name, .string x.val], .func (.func 59) #[] #[], .int .i64 60] h (fun v h' => Pre h h' ∧ ((v = vA ∧ 60 < (plV l x).length) ∨ ((plV l x).length ≤ 60 ∧ Gr h.n h' v 2 ((plV l x).map Var.enc).flatten))) := by
  have y1 := r.one
  have hm := maxLen_eq
  obtain ⟨A, ca, rfl, hR⟩ := r.rde (fun _ => rfl)
  refine CC.withBig (fun big => ?_)
  refine CC.ofN Tryd.func57 Tryd.ntmps57 Tryd.results57 rfl (by decide) (by kernel_rfl) ?_
  simp (maxSteps := 1000000) -implicitDefEqProofs only [push_cast, seval, y1]
  refine And.intro (by rw [wrapSucc (by omega)]; omega) (And.intro (by rw [wrapSucc (by omega)]; omega) ?_)
  refine WC.loopA (by kernel_rfl) [9, 20] [11, 21, 22, 23, 24, 25, 26, 27, 28, 29, 30, 31, 32, 33] (fun a : Nat × Value => [a.2, .int .i64 (a.1 : Nat)]) (fun a h' => a.1 ≤ l.length ∧ Gr (h.n + 1) h' a.2 2 ((((l.take a.1).filter (vLt x.name)).map Var.enc).flatten) ∧ h'.ob h.n = (AOb.cells [.string x.name, .string x.val] .solo h.n) ∧ Pre h h' ∧ h.n + 1 < h'.n) (fun a => l.length - a.1) (0, .slice (some ⟨h.n + 1, 0, none⟩) 0 2) (by kernel_rfl) ⟨Nat.zero_le _, ?_, ?_, ?_, ?_⟩ ?_
  · exact .inr ⟨h.n + 1, 0, 0, rfl, Nat.le_refl _, Own.zero rfl 2⟩
  · exact (alloc_lt _ (by show h.n < h.n + 1; omega)).trans (alloc_same _)
  · exact ((Pre.refl h).alloc _).alloc _
  · show h.n + 1 < h.n + 2
    omega
  intro a g h2 hJ
  have hi := hJ.1
  have hg := hJ.2.1
  have u1 := hJ.2.2.1
  have p2 := hJ.2.2.2.1
  have n2 := hJ.2.2.2.2
  clear hJ
  have hlen := filter_len (vLt x.name) l a.1
  have lw : h.n < h2.n := by omega
  simp (maxSteps := 1000000) -implicitDefEqProofs only [push_cast, seval]
  with_reducible refine bcase_d (fun hb => ?_) (fun hb => ?_)
  · have hi' : a.1 < l.length := by omega
    with_reducible refine hR.use big p2 hi' (fun id off eA hlt hr => ?_)
    subst eA
    simp only [Var.enc] at hr
    have r0 := (rd_2 hr).1
    have r1 := (rd_2 hr).2
    have hfl := filter_next (vLt x.name) hi'
    have hcl : ((((l.take a.1).filter (vLt x.name)).map Var.enc).flatten).length = ((l.take a.1).filter (vLt x.name)).length * 2 := flat_len (k := 2) _ (fun _ => rfl)
    simp (maxSteps := 1000000) -implicitDefEqProofs only [push_cast, seval, hr, r0, r1, hlt, u1, rd_of u1, rd1_of u1, lw]
    repeat (with_reducible refine And.intro ?_ ?_; · (first | omega | decide))
    with_reducible refine CD.to (byName_i l[a.1] x _) ?_
    have q2 : Pre h2 ((h2.alloc (AOb.cells [Value.string ⟨#[]⟩, Value.string ⟨#[]⟩] .solo h2.n)).set h2.n (AOb.cells [Value.string l[a.1].name, Value.string l[a.1].val] .solo h2.n)) := ((Pre.refl h2).alloc _).set (Nat.le_refl _) _
    have cmp := vLt_cmp x.name l[a.1]
    simp (maxSteps := 1000000) -implicitDefEqProofs only [push_cast, seval, hr, r0, r1, hlt, u1, rd_of u1, rd1_of u1, lw]
    with_reducible refine bcase_d (fun hb2 => ?_) (fun hb2 => ?_)
    · rw [decide_eq_true hb2] at cmp
      simp (maxSteps := 1000000) -implicitDefEqProofs only [push_cast, seval, hr, r0, r1, hlt, u1, rd_of u1, rd1_of u1, lw]
      refine Gr.app1 (h0 := h) si24 (by decide) (by decide) (notInt_sl und24) ((hg.pre q2).mono (Nat.le_succ h.n)) (p2.trans q2) rfl (by rw [hcl]; omega) (by decide) (fun h' gr ow p' hn' he => ?_)
      have w1 : h'.ob h.n = _ := (he h.n (by show h.n < h2.n + 1; omega) ((hg.pre q2).not_low (Nat.lt_succ_self _))).trans ((q2.ob _ lw).trans u1)
      have hn2 : h'.n = h2.n + 3 := hn'
      simp (maxSteps := 1000000) -implicitDefEqProofs only [push_cast, seval]
      rw [wrapSucc (n := a.1) (by omega)]
      refine ⟨(a.1 + 1, .slice (some ⟨h2.n + 1 + 1, 0, none⟩) ((((l.take a.1).filter (vLt x.name)).map Var.enc).flatten.length / 2 + 1) 2), by kernel_rfl, ⟨by show a.1 + 1 ≤ l.length; omega, ?_, w1, p', by omega⟩, by show l.length - (a.1 + 1) < l.length - a.1; omega⟩
      have e : (((l.take (a.1 + 1)).filter (vLt x.name)).map Var.enc).flatten = (((l.take a.1).filter (vLt x.name)).map Var.enc).flatten ++ [.string l[a.1].name, .string l[a.1].val] := by
        rw [hfl, if_pos cmp.symm, flat_snoc]; rfl
      show Gr (h.n + 1) h' _ 2 (((l.take (a.1 + 1)).filter (vLt x.name)).map Var.enc).flatten
      rw [e]
      exact .inr ⟨_, _, _, rfl, by show h.n + 1 ≤ h2.n + 1 + 1; omega, ow⟩
    · rw [decide_eq_false hb2] at cmp
      simp (maxSteps := 1000000) -implicitDefEqProofs only [push_cast, seval]
      rw [wrapSucc (n := a.1) (by omega)]
      refine ⟨(a.1 + 1, a.2), by kernel_rfl, ⟨by show a.1 + 1 ≤ l.length; omega, ?_, (q2.ob _ lw).trans u1, p2.trans q2, by show h.n + 1 < h2.n + 1; omega⟩, by show l.length - (a.1 + 1) < l.length - a.1; omega⟩
      show Gr (h.n + 1) _ a.2 2 (((l.take (a.1 + 1)).filter (vLt x.name)).map Var.enc).flatten
      rw [hfl, if_neg (by rw [← cmp]; decide), List.append_nil]
      exact hg.pre q2
  · have ea : a.1 = l.length := by omega
    rw [ea, List.take_length] at hg
    have hcl : ((((l.filter (vLt x.name)).map Var.enc).flatten)).length = (l.filter (vLt x.name)).length * 2 := flat_len (k := 2) _ (fun _ => rfl)
    have hlen2 := filter_len2 (vLt x.name) l
    simp (maxSteps := 1000000) -implicitDefEqProofs only [push_cast, seval, u1, rd_of u1, rd1_of u1, lw]
    refine Gr.app1 (h0 := h) si24 (by decide) (by decide) (notInt_sl und24) (hg.mono (Nat.le_succ h.n)) p2 rfl (by rw [hcl]; omega) (by decide) (fun h3 gr3 ow3 p3 hn3 he3 => ?_)
    have w1 : h3.ob h.n = _ := (he3 h.n lw (hg.not_low (Nat.lt_succ_self _))).trans u1
    have ec : ((l.filter (vLt x.name)).map Var.enc).flatten ++ [.string x.name, .string x.val] = ((l.filter (vLt x.name) ++ [x]).map Var.enc).flatten := by
      rw [flat_snoc]; rfl
    rw [ec] at gr3 ow3
    generalize hF : l.filter (vLt x.name) ++ [x] = F at gr3 ow3
    have hFl : F.length = (l.filter (vLt x.name)).length + 1 := by rw [← hF]; simp
    simp (maxSteps := 1000000) -implicitDefEqProofs only [push_cast, seval]
    rw [hcl, Nat.mul_div_cancel _ (by decide : 0 < 2), ← hFl]
    rw [hcl, Nat.mul_div_cancel _ (by decide : 0 < 2), ← hFl] at gr3 ow3
    refine WC.loopA (by kernel_rfl) [9, 40] [13, 41, 42, 43, 44, 45, 46, 47, 48, 49, 50, 51, 52, 53] (fun a : Nat × Value => [a.2, .int .i64 (a.1 : Nat)]) (fun a h' => a.1 ≤ l.length ∧ Gr (h.n + 1) h' a.2 2 ((F ++ (l.take a.1).filter (vGt x.name)).map Var.enc).flatten ∧ h'.ob h.n = (AOb.cells [.string x.name, .string x.val] .solo h.n) ∧ Pre h h' ∧ h.n + 1 < h'.n) (fun a => l.length - a.1) (0, .slice (some ⟨h2.n + 1, 0, none⟩) F.length 2) (by kernel_rfl) ⟨Nat.zero_le _, ?_, w1, p3, ?_⟩ ?_
    · show Gr (h.n + 1) h3 _ 2 ((F ++ (l.take 0).filter (vGt x.name)).map Var.enc).flatten
      rw [List.take_zero, List.filter_nil, List.append_nil]
      exact .inr ⟨_, _, _, rfl, by omega, ow3⟩
    · omega
    clear gr3 ow3 he3 p2 n2 lw u1 hg hlen
    intro b g' h4 hJ
    have hi4 := hJ.1
    have hg4 := hJ.2.1
    have u4 := hJ.2.2.1
    have p4 := hJ.2.2.2.1
    have n4 := hJ.2.2.2.2
    clear hJ
    have hlen4 := filter_len (vGt x.name) l b.1
    have lw4 : h.n < h4.n := by omega
    simp (maxSteps := 1000000) -implicitDefEqProofs only [push_cast, seval]
    with_reducible refine bcase_d (fun hb4 => ?_) (fun hb4 => ?_)
    · have hi' : b.1 < l.length := by omega
      with_reducible refine hR.use big p4 hi' (fun id off eA hlt hr => ?_)
      subst eA
      simp only [Var.enc] at hr
      have r0 := (rd_2 hr).1
      have r1 := (rd_2 hr).2
      have hfl := filter_next (vGt x.name) hi'
      have hcl4 : (((F ++ (l.take b.1).filter (vGt x.name)).map Var.enc).flatten).length = (F.length + ((l.take b.1).filter (vGt x.name)).length) * 2 := by rw [← List.length_append]; exact flat_len (k := 2) _ (fun _ => rfl)
      simp (maxSteps := 1000000) -implicitDefEqProofs only [push_cast, seval, hr, r0, r1, hlt, u4, rd_of u4, rd1_of u4, lw4]
      repeat (with_reducible refine And.intro ?_ ?_; · (first | omega | decide))
      with_reducible refine CD.to (byName_i l[b.1] x _) ?_
      have q4 : Pre h4 ((h4.alloc (AOb.cells [Value.string ⟨#[]⟩, Value.string ⟨#[]⟩] .solo h4.n)).set h4.n (AOb.cells [Value.string l[b.1].name, Value.string l[b.1].val] .solo h4.n)) := ((Pre.refl h4).alloc _).set (Nat.le_refl _) _
      have cmp := vGt_cmp x.name l[b.1]
      simp (maxSteps := 1000000) -implicitDefEqProofs only [push_cast, seval, hr, r0, r1, hlt, u4, rd_of u4, rd1_of u4, lw4]
      with_reducible refine bcase_d (fun hb2 => ?_) (fun hb2 => ?_)
      · rw [decide_eq_true hb2] at cmp
        simp (maxSteps := 1000000) -implicitDefEqProofs only [push_cast, seval, hr, r0, r1, hlt, u4, rd_of u4, rd1_of u4, lw4]
        refine Gr.app1 (h0 := h) si24 (by decide) (by decide) (notInt_sl und24) ((hg4.pre q4).mono (Nat.le_succ h.n)) (p4.trans q4) rfl (by rw [hcl4]; omega) (by decide) (fun h' gr ow p' hn' he => ?_)
        have w1 : h'.ob h.n = _ := (he h.n (by show h.n < h4.n + 1; omega) ((hg4.pre q4).not_low (Nat.lt_succ_self _))).trans ((q4.ob _ lw4).trans u4)
        have hn2 : h'.n = h4.n + 3 := hn'
        simp (maxSteps := 1000000) -implicitDefEqProofs only [push_cast, seval]
        rw [wrapSucc (n := b.1) (by omega)]
        refine ⟨(b.1 + 1, .slice (some ⟨h4.n + 1 + 1, 0, none⟩) (((F ++ (l.take b.1).filter (vGt x.name)).map Var.enc).flatten.length / 2 + 1) 2), by kernel_rfl, ⟨by show b.1 + 1 ≤ l.length; omega, ?_, w1, p', by omega⟩, by show l.length - (b.1 + 1) < l.length - b.1; omega⟩
        have e : ((F ++ (l.take (b.1 + 1)).filter (vGt x.name)).map Var.enc).flatten = ((F ++ (l.take b.1).filter (vGt x.name)).map Var.enc).flatten ++ [.string l[b.1].name, .string l[b.1].val] := by
          rw [hfl, if_pos cmp.symm, ← List.append_assoc, flat_snoc]; rfl
        show Gr (h.n + 1) h' _ 2 ((F ++ (l.take (b.1 + 1)).filter (vGt x.name)).map Var.enc).flatten
        rw [e]
        exact .inr ⟨_, _, _, rfl, by show h.n + 1 ≤ h4.n + 1 + 1; omega, ow⟩
      · rw [decide_eq_false hb2] at cmp
        simp (maxSteps := 1000000) -implicitDefEqProofs only [push_cast, seval]
        rw [wrapSucc (n := b.1) (by omega)]
        refine ⟨(b.1 + 1, b.2), by kernel_rfl, ⟨by show b.1 + 1 ≤ l.length; omega, ?_, (q4.ob _ lw4).trans u4, p4.trans q4, by show h.n + 1 < h4.n + 1; omega⟩, by show l.length - (b.1 + 1) < l.length - b.1; omega⟩
        show Gr (h.n + 1) _ b.2 2 ((F ++ (l.take (b.1 + 1)).filter (vGt x.name)).map Var.enc).flatten
        rw [hfl, if_neg (by rw [← cmp]; decide), List.append_nil]
        exact hg4.pre q4
    · have eb : b.1 = l.length := by omega
      rw [eb, List.take_length, ← hF] at hg4
      have hgN : Gr (h.n + 1) h4 b.2 2 ((plV l x).map Var.enc).flatten := hg4
      obtain ⟨B, cB, eB, rB4⟩ := hgN.read (by decide) (fun _ => rfl)
      simp (maxSteps := 1000000) -implicitDefEqProofs only [push_cast, seval, eB]
      with_reducible refine bcase_d (fun hb5 => ?_) (fun hb5 => ?_)
      · simp (maxSteps := 1000000) -implicitDefEqProofs only [push_cast, seval]
        exact ⟨p4, .inl (by omega)⟩
      · simp (maxSteps := 1000000) -implicitDefEqProofs only [push_cast, seval]
        rw [← eB]
        exact ⟨p4, .inr ⟨by omega, hgN.mono (Nat.le_succ _)⟩⟩
end Go.Proofs.YtcggnolnakgkeaaDoor
namespace Go.Proofs.YtcggnolnakgkeaaDoor
open Go Go.Sim Go.Proofs
set_option linter.unusedSimpArgs false
set_option linter.unusedVariables false
set_option maxRecDepth 100000
set_option maxHeartbeats 1000000
theorem placedC_c (l : List Cell) (x : Cell) (vA : Value) (h : AH) (r : RdV h vA 3 Cell.enc l) (zn : l.length ≤ 2000000) :
    CC Tryd.prog 62 [vA, .agg #[.string x.name, .string x.key, .string x.val], .func (.func 38) #[] #[], .int .i64 2000] h (fun v h' => Pre h h' ∧ ((v = vA ∧ 2000 < (plC l x).length) ∨ ((plC l x).length ≤ 2000 ∧ Gr h.n h' v 3 ((plC l x).map Cell.enc).flatten))) := by
  have y1 := r.one
  have hm := maxLen_eq
  obtain ⟨A, ca, rfl, hR⟩ := r.rde (fun _ => rfl)
  refine CC.withBig (fun big => ?_)
  refine CC.ofN Tryd.func62 Tryd.ntmps62 Tryd.results62 rfl (by decide) (by kernel_rfl) ?_
  simp (maxSteps := 1000000) -implicitDefEqProofs only [push_cast, seval, y1]
  refine And.intro (by rw [wrapSucc (by omega)]; omega) (And.intro (by rw [wrapSucc (by omega)]; omega) ?_)
  refine WC.loopA (by kernel_rfl) [9, 20] [11, 21, 22, 23, 24, 25, 26, 27, 28, 29, 30, 31, 32, 33] (fun a : Nat × Value => [a.2, .int .i64 (a.1 : Nat)]) (fun a h' => a.1 ≤ l.length ∧ Gr (h.n + 1) h' a.2 3 ((((l.take a.1).filter (cLt x)).map Cell.enc).flatten) ∧ h'.ob h.n = (AOb.cells [.string x.name, .string x.key, .string x.val] .solo h.n) ∧ Pre h h' ∧ h.n + 1 < h'.n) (fun a => l.length - a.1) (0, .slice (some ⟨h.n + 1, 0, none⟩) 0 3) (by kernel_rfl) ⟨Nat.zero_le _, ?_, ?_, ?_, ?_⟩ ?_
  · exact .inr ⟨h.n + 1, 0, 0, rfl, Nat.le_refl _, Own.zero rfl 3⟩
  · exact (alloc_lt _ (by show h.n < h.n + 1; omega)).trans (alloc_same _)
  · exact ((Pre.refl h).alloc _).alloc _
  · show h.n + 1 < h.n + 2
    omega
  intro a g h2 hJ
  have hi := hJ.1
  have hg := hJ.2.1
  have u1 := hJ.2.2.1
  have p2 := hJ.2.2.2.1
  have n2 := hJ.2.2.2.2
  clear hJ
  have hlen := filter_len (cLt x) l a.1
  have lw : h.n < h2.n := by omega
  simp (maxSteps := 1000000) -implicitDefEqProofs only [push_cast, seval]
  with_reducible refine bcase_d (fun hb => ?_) (fun hb => ?_)
  · have hi' : a.1 < l.length := by omega
    with_reducible refine hR.use big p2 hi' (fun id off eA hlt hr => ?_)
    subst eA
    simp only [Cell.enc] at hr
    have r0 := (rd_3 hr).1
    have r1 := (rd_3 hr).2.1
    have r2 := (rd_3 hr).2.2
    have hfl := filter_next (cLt x) hi'
    have hcl : ((((l.take a.1).filter (cLt x)).map Cell.enc).flatten).length = ((l.take a.1).filter (cLt x)).length * 3 := flat_len (k := 3) _ (fun _ => rfl)
    simp (maxSteps := 1000000) -implicitDefEqProofs only [push_cast, seval, hr, r0, r1, r2, hlt, u1, rd_of u1, rd1_of u1, lw]
    repeat (with_reducible refine And.intro ?_ ?_; · (first | omega | decide))
    with_reducible refine CD.to (byKey_c l[a.1] x _) ?_
    have q2 : Pre h2 ((h2.alloc (AOb.cells [Value.string ⟨#[]⟩, Value.string ⟨#[]⟩, Value.string ⟨#[]⟩] .solo h2.n)).set h2.n (AOb.cells [Value.string l[a.1].name, Value.string l[a.1].key, Value.string l[a.1].val] .solo h2.n)) := ((Pre.refl h2).alloc _).set (Nat.le_refl _) _
    have cmp := cLt_cmp x l[a.1]
    simp (maxSteps := 1000000) -implicitDefEqProofs only [push_cast, seval, hr, r0, r1, r2, hlt, u1, rd_of u1, rd1_of u1, lw]
    with_reducible refine bcase_d (fun hb2 => ?_) (fun hb2 => ?_)
    · rw [decide_eq_true hb2] at cmp
      simp (maxSteps := 1000000) -implicitDefEqProofs only [push_cast, seval, hr, r0, r1, r2, hlt, u1, rd_of u1, rd1_of u1, lw]
      refine Gr.app1 (h0 := h) si25 (by decide) (by decide) (notInt_sl und25) ((hg.pre q2).mono (Nat.le_succ h.n)) (p2.trans q2) rfl (by rw [hcl]; omega) (by decide) (fun h' gr ow p' hn' he => ?_)
      have w1 : h'.ob h.n = _ := (he h.n (by show h.n < h2.n + 1; omega) ((hg.pre q2).not_low (Nat.lt_succ_self _))).trans ((q2.ob _ lw).trans u1)
      have hn2 : h'.n = h2.n + 3 := hn'
      simp (maxSteps := 1000000) -implicitDefEqProofs only [push_cast, seval]
      rw [wrapSucc (n := a.1) (by omega)]
      refine ⟨(a.1 + 1, .slice (some ⟨h2.n + 1 + 1, 0, none⟩) ((((l.take a.1).filter (cLt x)).map Cell.enc).flatten.length / 3 + 1) 3), by kernel_rfl, ⟨by show a.1 + 1 ≤ l.length; omega, ?_, w1, p', by omega⟩, by show l.length - (a.1 + 1) < l.length - a.1; omega⟩
      have e : (((l.take (a.1 + 1)).filter (cLt x)).map Cell.enc).flatten = (((l.take a.1).filter (cLt x)).map Cell.enc).flatten ++ [.string l[a.1].name, .string l[a.1].key, .string l[a.1].val] := by
        rw [hfl, if_pos cmp.symm, flat_snoc]; rfl
      show Gr (h.n + 1) h' _ 3 (((l.take (a.1 + 1)).filter (cLt x)).map Cell.enc).flatten
      rw [e]
      exact .inr ⟨_, _, _, rfl, by show h.n + 1 ≤ h2.n + 1 + 1; omega, ow⟩
    · rw [decide_eq_false hb2] at cmp
      simp (maxSteps := 1000000) -implicitDefEqProofs only [push_cast, seval]
      rw [wrapSucc (n := a.1) (by omega)]
      refine ⟨(a.1 + 1, a.2), by kernel_rfl, ⟨by show a.1 + 1 ≤ l.length; omega, ?_, (q2.ob _ lw).trans u1, p2.trans q2, by show h.n + 1 < h2.n + 1; omega⟩, by show l.length - (a.1 + 1) < l.length - a.1; omega⟩
      show Gr (h.n + 1) _ a.2 3 (((l.take (a.1 + 1)).filter (cLt x)).map Cell.enc).flatten
      rw [hfl, if_neg (by rw [← cmp]; decide), List.append_nil]
      exact hg.pre q2
  · have ea : a.1 = l.length := by omega
    rw [ea, List.take_length] at hg
    have hcl : ((((l.filter (cLt x)).map Cell.enc).flatten)).length = (l.filter (cLt x)).length * 3 := flat_len (k := 3) _ (fun _ => rfl)
    have hlen2 := filter_len2 (cLt x) l
    simp (maxSteps := 1000000) -implicitDefEqProofs only [push_cast, seval, u1, rd_of u1, rd1_of u1, lw]
    refine Gr.app1 (h0 := h) si25 (by decide) (by decide) (notInt_sl und25) (hg.mono (Nat.le_succ h.n)) p2 rfl (by rw [hcl]; omega) (by decide) (fun h3 gr3 ow3 p3 hn3 he3 => ?_)
    have w1 : h3.ob h.n = _ := (he3 h.n lw (hg.not_low (Nat.lt_succ_self _))).trans u1
    have ec : ((l.filter (cLt x)).map Cell.enc).flatten ++ [.string x.name, .string x.key, .string x.val] = ((l.filter (cLt x) ++ [x]).map Cell.enc).flatten := by
      rw [flat_snoc]; rfl
    rw [ec] at gr3 ow3
    generalize hF : l.filter (cLt x) ++ [x] = F at gr3 ow3
    have hFl : F.length = (l.filter (cLt x)).length + 1 := by rw [← hF]; simp
    simp (maxSteps := 1000000) -implicitDefEqProofs only [push_cast, seval]
    rw [hcl, Nat.mul_div_cancel _ (by decide : 0 < 3), ← hFl]
    rw [hcl, Nat.mul_div_cancel _ (by decide : 0 < 3), ← hFl] at gr3 ow3
    refine WC.loopA (by kernel_rfl) [9, 40] [13, 41, 42, 43, 44, 45, 46, 47, 48, 49, 50, 51, 52, 53] (fun a : Nat × Value => [a.2, .int .i64 (a.1 : Nat)]) (fun a h' => a.1 ≤ l.length ∧ Gr (h.n + 1) h' a.2 3 ((F ++ (l.take a.1).filter (cGt x)).map Cell.enc).flatten ∧ h'.ob h.n = (AOb.cells [.string x.name, .string x.key, .string x.val] .solo h.n) ∧ Pre h h' ∧ h.n + 1 < h'.n) (fun a => l.length - a.1) (0, .slice (some ⟨h2.n + 1, 0, none⟩) F.length 3) (by kernel_rfl) ⟨Nat.zero_le _, ?_, w1, p3, ?_⟩ ?_
    · show Gr (h.n + 1) h3 _ 3 ((F ++ (l.take 0).filter (cGt x)).map Cell.enc).flatten
      rw [List.take_zero, List.filter_nil, List.append_nil]
      exact .inr ⟨_, _, _, rfl, by omega, ow3⟩
    · omega
    clear gr3 ow3 he3 p2 n2 lw u1 hg hlen
    intro b g' h4 hJ
    have hi4 := hJ.1
    have hg4 := hJ.2.1
    have u4 := hJ.2.2.1
    have p4 := hJ.2.2.2.1
    have n4 := hJ.2.2.2.2
    clear hJ
    have hlen4 := filter_len (cGt x) l b.1
    have lw4 : h.n < h4.n := by omega
    simp (maxSteps := 1000000) -implicitDefEqProofs only [push_cast, seval]
    with_reducible refine bcase_d (fun hb4 => ?_) (fun hb4 => ?_)
    · have hi' : b.1 < l.length := by omega
      with_reducible refine hR.use big p4 hi' (fun id off eA hlt hr => ?_)
      subst eA
      simp only [Cell.enc] at hr
      have r0 := (rd_3 hr).1
      have r1 := (rd_3 hr).2.1
      have r2 := (rd_3 hr).2.2
      have hfl := filter_next (cGt x) hi'
      have hcl4 : (((F ++ (l.take b.1).filter (cGt x)).map Cell.enc).flatten).length = (F.length + ((l.take b.1).filter (cGt x)).length) * 3 := by rw [← List.length_append]; exact flat_len (k := 3) _ (fun _ => rfl)
      simp (maxSteps := 1000000) -implicitDefEqProofs only [push_cast, seval, hr, r0, r1, r2, hlt, u4, rd_of u4, rd1_of u4, lw4]
      repeat (with_reducible refine And.intro ?_ ?_; · (first | omega | decide))
      with_reducible refine CD.to (byKey_c l[b.1] x _) ?_
      have q4 : Pre h4 ((h4.alloc (AOb.cells [Value.string ⟨#[]⟩, Value.string ⟨#[]⟩, Value.string ⟨#[]⟩] .solo h4.n)).set h4.n (AOb.cells [Value.string l[b.1].name, Value.string l[b.1].key, Value.string l[b.1].val] .solo h4.n)) := ((Pre.refl h4).alloc _).set (Nat.le_refl _) _
      have cmp := cGt_cmp x l[b.1]
      simp (maxSteps := 1000000) -implicitDefEqProofs only [push_cast, seval, hr, r0, r1, r2, hlt, u4, rd_of u4, rd1_of u4, lw4]
      with_reducible refine bcase_d (fun hb2 => ?_) (fun hb2 => ?_)
      · rw [decide_eq_true hb2] at cmp
        simp (maxSteps := 1000000) -implicitDefEqProofs only [push_cast, seval, hr, r0, r1, r2, hlt, u4, rd_of u4, rd1_of u4, lw4]
        refine Gr.app1 (h0 := h) si25 (by decide) (by decide) (notInt_sl und25) ((hg4.pre q4).mono (Nat.le_succ h.n)) (p4.trans q4) rfl (by rw [hcl4]; omega) (by decide) (fun h' gr ow p' hn' he => ?_)
        have w1 : h'.ob h.n = _ := (he h.n (by show h.n < h4.n + 1; omega) ((hg4.pre q4).not_low (Nat.lt_succ_self _))).trans ((q4.ob _ lw4).trans u4)
        have hn2 : h'.n = h4.n + 3 := hn'
        simp (maxSteps := 1000000) -implicitDefEqProofs only [push_cast, seval]
        rw [wrapSucc (n := b.1) (by omega)]
        refine ⟨(b.1 + 1, .slice (some ⟨h4.n + 1 + 1, 0, none⟩) (((F ++ (l.take b.1).filter (cGt x)).map Cell.enc).flatten.length / 3 + 1) 3), by kernel_rfl, ⟨by show b.1 + 1 ≤ l.length; omega, ?_, w1, p', by omega⟩, by show l.length - (b.1 + 1) < l.length - b.1; omega⟩
        have e : ((F ++ (l.take (b.1 + 1)).filter (cGt x)).map Cell.enc).flatten = ((F ++ (l.take b.1).filter (cGt x)).map Cell.enc).flatten ++ [.string l[b.1].name, .string l[b.1].key, .string l[b.1].val] := by
          rw [hfl, if_pos cmp.symm, ← List.append_assoc, flat_snoc]; rfl
        show Gr (h.n + 1) h' _ 3 ((F ++ (l.take (b.1 + 1)).filter (cGt x)).map Cell.enc).flatten
        rw [e]
        exact .inr ⟨_, _, _, rfl, by show h.n + 1 ≤ h4.n + 1 + 1; omega, ow⟩
      · rw [decide_eq_false hb2] at cmp
        simp (maxSteps := 1000000) -implicitDefEqProofs only [push_cast, seval]
        rw [wrapSucc (n := b.1) (by omega)]
        refine ⟨(b.1 + 1, b.2), by kernel_rfl, ⟨by show b.1 + 1 ≤ l.length; omega, ?_, (q4.ob _ lw4).trans u4, p4.trans q4, by show h.n + 1 < h4.n + 1; omega⟩, by show l.length - (b.1 + 1) < l.length - b.1; omega⟩
        show Gr (h.n + 1) _ b.2 3 ((F ++ (l.take (b.1 + 1)).filter (cGt x)).map Cell.enc).flatten
        rw [hfl, if_neg (by rw [← cmp]; decide), List.append_nil]
        exact hg4.pre q4
    · have eb : b.1 = l.length := by omega
      rw [eb, List.take_length, ← hF] at hg4
      have hgN : Gr (h.n + 1) h4 b.2 3 ((plC l x).map Cell.enc).flatten := hg4
      obtain ⟨B, cB, eB, rB4⟩ := hgN.read (by decide) (fun _ => rfl)
      simp (maxSteps := 1000000) -implicitDefEqProofs only [push_cast, seval, eB]
      with_reducible refine bcase_d (fun hb5 => ?_) (fun hb5 => ?_)
      · simp (maxSteps := 1000000) -implicitDefEqProofs only [push_cast, seval]
        exact ⟨p4, .inl (by omega)⟩
      · simp (maxSteps := 1000000) -implicitDefEqProofs only [push_cast, seval]
        rw [← eB]
        exact ⟨p4, .inr ⟨by omega, hgN.mono (Nat.le_succ _)⟩⟩
end Go.Proofs.YtcggnolnakgkeaaDoor
namespace Go.Proofs.YtcggnolnakgkeaaDoor
open Go Go.Sim Go.Proofs
set_option linter.unusedSimpArgs false
set_option linter.unusedVariables false
set_option maxRecDepth 100000
set_option maxHeartbeats 1000000
theorem copyStore_c (s : Store) (vA vB : Value) (h : AH) (r : RdT h vA vB s) (zs : Sz s) :
    CC Tryd.prog 23 [.agg #[vA, vB, .string s.out]] h (fun v h' => ∃ rA rB, v = .agg #[rA, rB, .string s.out] ∧ OwnT h h' rA rB s ∧ Pre h h') := by
  have y1 := r.vars.one
  have y2 := r.cells.one
  refine CC.ofN Tryd.func23 Tryd.ntmps23 Tryd.results23 rfl (by decide) (by kernel_rfl) ?_
  simp (maxSteps := 1000000) -implicitDefEqProofs only [push_cast, seval, y1, y2]
  refine WC.drawR (by kernel_rfl) (by kernel_rfl) (.q 1 (.q 2 (.q 5 (.q 6 (.b 0 (.b 3 (.q 8 (.a 4 false (.a 7 false (.a 9 true (.q 10 (.a 11 true (.done))))))) 4 (.a 3 false (.q 8 (.a 7 false (.a 9 true (.q 10 (.a 11 true (.done)))))))) 4 (.a 0 false (.a 3 false (.q 8 (.a 7 false (.a 9 true (.q 10 (.a 11 true (.done))))))))))))) (by kernel_rfl) ?_
  simp (maxSteps := 1000000) -implicitDefEqProofs only [push_cast, seval, y1, y2]
  have nv := zs.nv
  have nc := zs.nc
  refine And.intro (And.intro ?_ ?_) ?_
  · refine app_copy si24 (by decide) (by decide) (notInt_sl und24) (by (try simp (maxSteps := 1000000) -implicitDefEqProofs only [push_cast, seval, rdOb]); try rfl) (by simp only [alloc_n]; omega) (r.vars.pre ((((Pre.refl h).alloc _).alloc _).alloc _)) (fun _ => rfl) nv (fun h1 a1 n1 f1 => ?_)
    simp only [alloc_n, Nat.add_assoc, Nat.reduceAdd] at a1 n1 f1
    have f0 : h1.ob h.n = AOb.cells [vA, vB, Value.string s.out] .solo h.n := (f1 h.n (by omega) (by omega)).trans (by (try simp (maxSteps := 1000000) -implicitDefEqProofs only [push_cast, seval, rdOb]); try rfl)
    have l0 : h.n < h1.n := by omega
    simp (maxSteps := 1000000) -implicitDefEqProofs only [push_cast, seval, f0, l0, n1]
    refine app_copy si25 (by decide) (by decide) (notInt_sl und25) (alloc_eq _ (by omega)) (by simp only [alloc_n]; omega) (r.cells.keep (by simp only [alloc_n]; omega) (fun i hi => ?_)) (fun _ => rfl) nc (fun h2 a2 n2 f2 => ?_)
    · have := r.cells.lt hi
      rw [alloc_lt _ (by omega), f1 i (by omega) (by omega)]
      simp (maxSteps := 1000000) -implicitDefEqProofs only [push_cast, seval, this]
    simp only [alloc_n, n1, Nat.add_assoc, Nat.reduceAdd] at a2 n2 f2
    have g0 : h2.ob h.n = AOb.cells [vA, vB, Value.string s.out] .solo h.n := (f2 h.n (by omega) (by omega)).trans ((alloc_lt _ (by omega)).trans f0)
    have g1 : h2.ob (h.n + 1) = AOb.cells [.slice none 0 0, .slice none 0 0, .string ⟨#[]⟩] .solo (h.n + 1) := (f2 _ (by omega) (by omega)).trans ((alloc_lt _ (by omega)).trans ((f1 _ (by omega) (by omega)).trans (by (try simp (maxSteps := 1000000) -implicitDefEqProofs only [push_cast, seval, rdOb]); try rfl)))
    have e2 : h2.ob (h.n + 3) = h1.ob (h.n + 3) := (f2 _ (by omega) (by omega)).trans (alloc_lt _ (by omega))
    have ee : ∀ i, i < h.n → h2.ob i = h.ob i := fun i hi => (f2 i (by omega) (by omega)).trans ((alloc_lt _ (by omega)).trans ((f1 i (by omega) (by omega)).trans (by simp (maxSteps := 1000000) -implicitDefEqProofs only [push_cast, seval, hi])))
    have k1 : h.n + 1 < h2.n := by omega
    simp (maxSteps := 1000000) -implicitDefEqProofs only [push_cast, seval, g0, g1, k1, f0, l0, n1, n2]
    refine ⟨_, _, rfl, ⟨.inr ⟨_, _, _, rfl, by omega, (a1.same e2 (by omega)).same (by repeat rw [set_ne _ (by omega)]) (Nat.le_refl _)⟩, .inr ⟨_, _, _, rfl, by omega, a2.same (by repeat rw [set_ne _ (by omega)]) (Nat.le_refl _)⟩, fun i e e' => ?_⟩, ⟨by show h.n ≤ h2.n; omega, fun i hi => Eq.trans (by repeat rw [set_ne _ (by omega)]) (ee i hi)⟩⟩
    simp only [atBlock] at e e'
    omega
  · refine app_copy si24 (by decide) (by decide) (notInt_sl und24) (by (try simp (maxSteps := 1000000) -implicitDefEqProofs only [push_cast, seval, rdOb]); try rfl) (by simp only [alloc_n]; omega) (r.vars.pre (((((Pre.refl h).alloc _).alloc _).alloc _).alloc _)) (fun _ => rfl) nv (fun h1 a1 n1 f1 => ?_)
    simp only [alloc_n, Nat.add_assoc, Nat.reduceAdd] at a1 n1 f1
    have f0 : h1.ob h.n = AOb.cells [vA, vB, Value.string s.out] .solo h.n := (f1 h.n (by omega) (by omega)).trans (by (try simp (maxSteps := 1000000) -implicitDefEqProofs only [push_cast, seval, rdOb]); try rfl)
    have l0 : h.n < h1.n := by omega
    simp (maxSteps := 1000000) -implicitDefEqProofs only [push_cast, seval, f0, l0, n1]
    refine app_copy si25 (by decide) (by decide) (notInt_sl und25) ((f1 _ (by omega) (by omega)).trans (by (try simp (maxSteps := 1000000) -implicitDefEqProofs only [push_cast, seval, rdOb]); try rfl)) (by omega) (r.cells.keep (by omega) (fun i hi => ?_)) (fun _ => rfl) nc (fun h2 a2 n2 f2 => ?_)
    · have := r.cells.lt hi
      rw [f1 i (by omega) (by omega)]
      simp (maxSteps := 1000000) -implicitDefEqProofs only [push_cast, seval, this]
    simp only [n1, Nat.add_assoc, Nat.reduceAdd] at a2 n2 f2
    have g0 : h2.ob h.n = AOb.cells [vA, vB, Value.string s.out] .solo h.n := (f2 h.n (by omega) (by omega)).trans f0
    have g1 : h2.ob (h.n + 1) = AOb.cells [.slice none 0 0, .slice none 0 0, .string ⟨#[]⟩] .solo (h.n + 1) := (f2 _ (by omega) (by omega)).trans ((f1 _ (by omega) (by omega)).trans (by (try simp (maxSteps := 1000000) -implicitDefEqProofs only [push_cast, seval, rdOb]); try rfl))
    have e2 : h2.ob (h.n + 4) = h1.ob (h.n + 4) := f2 _ (by omega) (by omega)
    have ee : ∀ i, i < h.n → h2.ob i = h.ob i := fun i hi => (f2 i (by omega) (by omega)).trans ((f1 i (by omega) (by omega)).trans (by simp (maxSteps := 1000000) -implicitDefEqProofs only [push_cast, seval, hi]))
    have k1 : h.n + 1 < h2.n := by omega
    simp (maxSteps := 1000000) -implicitDefEqProofs only [push_cast, seval, g0, g1, k1, f0, l0, n1, n2]
    refine ⟨_, _, rfl, ⟨.inr ⟨_, _, _, rfl, by omega, (a1.same e2 (by omega)).same (by repeat rw [set_ne _ (by omega)]) (Nat.le_refl _)⟩, .inr ⟨_, _, _, rfl, by omega, a2.same (by repeat rw [set_ne _ (by omega)]) (Nat.le_refl _)⟩, fun i e e' => ?_⟩, ⟨by show h.n ≤ h2.n; omega, fun i hi => Eq.trans (by repeat rw [set_ne _ (by omega)]) (ee i hi)⟩⟩
    simp only [atBlock] at e e'
    omega
  · refine app_copy si24 (by decide) (by decide) (notInt_sl und24) (by (try simp (maxSteps := 1000000) -implicitDefEqProofs only [push_cast, seval, rdOb]); try rfl) (by simp only [alloc_n]; omega) (r.vars.pre (((((Pre.refl h).alloc _).alloc _).alloc _).alloc _)) (fun _ => rfl) nv (fun h1 a1 n1 f1 => ?_)
    simp only [alloc_n, Nat.add_assoc, Nat.reduceAdd] at a1 n1 f1
    have f0 : h1.ob h.n = AOb.cells [vA, vB, Value.string s.out] .solo h.n := (f1 h.n (by omega) (by omega)).trans (by (try simp (maxSteps := 1000000) -implicitDefEqProofs only [push_cast, seval, rdOb]); try rfl)
    have l0 : h.n < h1.n := by omega
    simp (maxSteps := 1000000) -implicitDefEqProofs only [push_cast, seval, f0, l0, n1]
    refine app_copy si25 (by decide) (by decide) (notInt_sl und25) ((f1 _ (by omega) (by omega)).trans (by (try simp (maxSteps := 1000000) -implicitDefEqProofs only [push_cast, seval, rdOb]); try rfl)) (by omega) (r.cells.keep (by omega) (fun i hi => ?_)) (fun _ => rfl) nc (fun h2 a2 n2 f2 => ?_)
    · have := r.cells.lt hi
      rw [f1 i (by omega) (by omega)]
      simp (maxSteps := 1000000) -implicitDefEqProofs only [push_cast, seval, this]
    simp only [n1, Nat.add_assoc, Nat.reduceAdd] at a2 n2 f2
    have g0 : h2.ob h.n = AOb.cells [vA, vB, Value.string s.out] .solo h.n := (f2 h.n (by omega) (by omega)).trans f0
    have g1 : h2.ob (h.n + 1) = AOb.cells [.slice none 0 0, .slice none 0 0, .string ⟨#[]⟩] .solo (h.n + 1) := (f2 _ (by omega) (by omega)).trans ((f1 _ (by omega) (by omega)).trans (by (try simp (maxSteps := 1000000) -implicitDefEqProofs only [push_cast, seval, rdOb]); try rfl))
    have e2 : h2.ob (h.n + 4) = h1.ob (h.n + 4) := f2 _ (by omega) (by omega)
    have ee : ∀ i, i < h.n → h2.ob i = h.ob i := fun i hi => (f2 i (by omega) (by omega)).trans ((f1 i (by omega) (by omega)).trans (by simp (maxSteps := 1000000) -implicitDefEqProofs only [push_cast, seval, hi]))
    have k1 : h.n + 1 < h2.n := by omega
    simp (maxSteps := 1000000) -implicitDefEqProofs only [push_cast, seval, g0, g1, k1, f0, l0, n1, n2]
    refine ⟨_, _, rfl, ⟨.inr ⟨_, _, _, rfl, by omega, (a1.same e2 (by omega)).same (by repeat rw [set_ne _ (by omega)]) (Nat.le_refl _)⟩, .inr ⟨_, _, _, rfl, by omega, a2.same (by repeat rw [set_ne _ (by omega)]) (Nat.le_refl _)⟩, fun i e e' => ?_⟩, ⟨by show h.n ≤ h2.n; omega, fun i hi => Eq.trans (by repeat rw [set_ne _ (by omega)]) (ee i hi)⟩⟩
    simp only [atBlock] at e e'
    omega
end Go.Proofs.YtcggnolnakgkeaaDoor
namespace Go.Proofs.YtcggnolnakgkeaaDoor
open Go Go.Sim Go.Proofs
set_option linter.unusedSimpArgs false
set_option linter.unusedVariables false
set_option maxRecDepth 100000
set_option maxHeartbeats 1000000
theorem RdV_sl {α : Type} {h : AH} {v : Value} {k : Nat} {enc : α → List Value} {l : List α} (r : RdV h v k enc l) : ∃ A n c, v = .slice A n c := by
  rcases r with ⟨c, e, _⟩ | ⟨id, off, c, e, _, _⟩
  · exact ⟨_, _, _, e⟩
  · exact ⟨_, _, _, e⟩
theorem setVar_i (p : Nat) (s : Store) (name val : ByteArray) (vA vB : Value) (h : AH) (e : h.ob p = .cells [vA, vB, .string s.out] .solo p) (hp : p < h.n) (r : RdV h vA 2 Var.enc s.vars) (zn : s.vars.length ≤ 2000000) (hvl : val.size ≤ maxLen) :
    CC Tryd.prog 24 [.pointer (some ⟨p, 0, none⟩), .string name, .string val] h (fun v h' => ∃ rA, h'.ob p = .cells [rA, vB, .string s.out] .solo p ∧ (∀ i, i < h.n → i ≠ p → h'.ob i = h.ob i) ∧ h.n ≤ h'.n ∧ ((rA = vA ∧ setV s name val = s) ∨ (setV s name val = ⟨plV s.vars ⟨name, cutB val⟩, s.cells, s.out⟩ ∧ Gr h.n h' rA 2 ((plV s.vars ⟨name, cutB val⟩).map Var.enc).flatten))) := by
  have y1 := r.one
  refine CC.ofN Tryd.func24 Tryd.ntmps24 Tryd.results24 rfl (by decide) (by kernel_rfl) ?_
  refine WC.drawR (by kernel_rfl) (by kernel_rfl) (.q 0 (.q 1 (.q 2 (.q 3 (.q 4 (.q 5 (.q 6 (.c 7 (.q 8 (.a 9 true (.q 10 (.q 11 (.a 12 true (.done)))))))))))))) (by kernel_rfl) ?_
  simp (maxSteps := 1000000) -implicitDefEqProofs only [push_cast, seval, e, rd_of e, rd1_of e, hp, y1]
  with_reducible refine CQ.pure (fun h' => Cut_i val hvl h') ?_
  simp (maxSteps := 1000000) -implicitDefEqProofs only [push_cast, seval, e, rd_of e, rd1_of e, hp, y1]
  with_reducible refine CC.mono (placedV_c s.vars ⟨name, cutB val⟩ vA _ r zn) (fun v h1 hv => ?_)
  have p1 := hv.1
  have hv2 := hv.2
  clear hv
  have n1 := p1.n
  have e1 : h1.ob p = AOb.cells [vA, vB, .string s.out] .solo p := (p1.ob p hp).trans e
  have hp1 : p < h1.n := by omega
  have y3 : one v = true := by
    rcases hv2 with ⟨c, _⟩ | ⟨_, c⟩
    · rw [c]; exact y1
    · exact (c.rdv (by decide) (fun _ => rfl)).one
  have hs : ∃ A n c, v = .slice A n c := by
    rcases hv2 with ⟨c, _⟩ | ⟨_, c⟩
    · rw [c]; exact RdV_sl r
    · exact RdV_sl (c.rdv (by decide) (fun _ => rfl))
  have hS : (60 < (plV s.vars ⟨name, cutB val⟩).length → setV s name val = s) ∧ ((plV s.vars ⟨name, cutB val⟩).length ≤ 60 → setV s name val = ⟨plV s.vars ⟨name, cutB val⟩, s.cells, s.out⟩) :=
    ⟨fun a => if_neg (show ¬ (plV s.vars ⟨name, cutB val⟩).length ≤ 60 by omega), fun a => if_pos (show (plV s.vars ⟨name, cutB val⟩).length ≤ 60 from a)⟩
  with_reducible refine Exists.elim hs (fun A hs => ?_)
  with_reducible refine Exists.elim hs (fun n hs => ?_)
  with_reducible refine Exists.elim hs (fun c hs => ?_)
  subst hs
  simp (maxSteps := 1000000) -implicitDefEqProofs only [push_cast, seval, e1, rd_of e1, rd1_of e1, hp1, y3]
  refine ⟨.slice A n c, rfl, fun i hi hne => (set_ne _ hne).trans (p1.ob i hi), n1, ?_⟩
  rcases hv2 with ⟨c, d⟩ | ⟨d, c⟩
  · exact .inl ⟨c, hS.1 d⟩
  · exact .inr ⟨hS.2 d, c.keep (Nat.le_refl _) (fun i hi => set_ne _ (by have := c.range hi; omega))⟩
theorem setCell_i (p : Nat) (s : Store) (name key val : ByteArray) (vA vB : Value) (h : AH) (e : h.ob p = .cells [vA, vB, .string s.out] .solo p) (hp : p < h.n) (r : RdV h vB 3 Cell.enc s.cells) (zn : s.cells.length ≤ 2000000) (hkl : key.size ≤ maxLen) (hvl : val.size ≤ maxLen) :
    CC Tryd.prog 27 [.pointer (some ⟨p, 0, none⟩), .string name, .string key, .string val] h (fun v h' => ∃ rB, h'.ob p = .cells [vA, rB, .string s.out] .solo p ∧ (∀ i, i < h.n → i ≠ p → h'.ob i = h.ob i) ∧ h.n ≤ h'.n ∧ ((rB = vB ∧ setC s name key val = s) ∨ (setC s name key val = ⟨s.vars, plC s.cells (mkC name key val), s.out⟩ ∧ Gr h.n h' rB 3 ((plC s.cells (mkC name key val)).map Cell.enc).flatten))) := by
  have y1 := r.one
  refine CC.ofN Tryd.func27 Tryd.ntmps27 Tryd.results27 rfl (by decide) (by kernel_rfl) ?_
  simp (maxSteps := 1000000) -implicitDefEqProofs only [push_cast, seval, e, rd_of e, rd1_of e, hp, y1]
  with_reducible refine CD.to (Cut_i key hkl _) ?_
  simp (maxSteps := 1000000) -implicitDefEqProofs only [push_cast, seval, e, rd_of e, rd1_of e, hp, y1]
  with_reducible refine CD.to (Cut_i val hvl _) ?_
  simp (maxSteps := 1000000) -implicitDefEqProofs only [push_cast, seval, e, rd_of e, rd1_of e, hp, y1]
  refine WC.drawR (by kernel_rfl) (by kernel_rfl) (.q 0 (.q 1 (.q 2 (.q 3 (.q 4 (.q 5 (.a 6 true (.q 7 (.q 8 (.a 9 true (.done))))))))))) (by kernel_rfl) ?_
  simp (maxSteps := 1000000) -implicitDefEqProofs only [push_cast, seval, e, rd_of e, rd1_of e, hp, y1]
  have q0 : Pre h ((h.alloc (AOb.cells [Value.string ⟨#[]⟩, Value.string ⟨#[]⟩, Value.string ⟨#[]⟩] .solo h.n)).set h.n (AOb.cells [Value.string name, Value.string (cutB key), Value.string (cutB val)] .solo h.n)) := ((Pre.refl h).alloc _).set (Nat.le_refl _) _
  with_reducible refine CC.mono (placedC_c s.cells ⟨name, cutB key, cutB val⟩ vB _ (r.pre q0) zn) (fun v h1 hv => ?_)
  have p1 := q0.trans hv.1
  have n1 : h.n + 1 ≤ h1.n := hv.1.n
  have hv2 := hv.2
  clear hv
  have e1 : h1.ob p = AOb.cells [vA, vB, .string s.out] .solo p := (p1.ob p hp).trans e
  have hp1 : p < h1.n := by omega
  have y3 : one v = true := by
    rcases hv2 with ⟨c, _⟩ | ⟨_, c⟩
    · rw [c]; exact y1
    · exact (c.rdv (by decide) (fun _ => rfl)).one
  have hs : ∃ A n c, v = .slice A n c := by
    rcases hv2 with ⟨c, _⟩ | ⟨_, c⟩
    · rw [c]; exact RdV_sl r
    · exact RdV_sl (c.rdv (by decide) (fun _ => rfl))
  have hS : (2000 < (plC s.cells ⟨name, cutB key, cutB val⟩).length → setC s name key val = s) ∧ ((plC s.cells ⟨name, cutB key, cutB val⟩).length ≤ 2000 → setC s name key val = ⟨s.vars, plC s.cells ⟨name, cutB key, cutB val⟩, s.out⟩) :=
    ⟨fun a => if_neg (show ¬ (plC s.cells ⟨name, cutB key, cutB val⟩).length ≤ 2000 by omega), fun a => if_pos (show (plC s.cells ⟨name, cutB key, cutB val⟩).length ≤ 2000 from a)⟩
  with_reducible refine Exists.elim hs (fun A hs => ?_)
  with_reducible refine Exists.elim hs (fun n hs => ?_)
  with_reducible refine Exists.elim hs (fun c hs => ?_)
  subst hs
  simp (maxSteps := 1000000) -implicitDefEqProofs only [push_cast, seval, e1, rd_of e1, rd1_of e1, hp1, y3]
  refine ⟨.slice A n c, rfl, fun i hi hne => (set_ne _ hne).trans (p1.ob i hi), by omega, ?_⟩
  rcases hv2 with ⟨c, d⟩ | ⟨d, c⟩
  · exact .inl ⟨c, hS.1 d⟩
  · refine .inr ⟨hS.2 d, (c.mono (Nat.le_succ _)).keep (Nat.le_refl _) (fun i hi => set_ne _ ?_)⟩
    have : h.n + 1 ≤ i := (c.range hi).1
    omega
end Go.Proofs.YtcggnolnakgkeaaDoor
namespace Go.Proofs.YtcggnolnakgkeaaDoor
open Go Go.Sim Go.Proofs
set_option linter.unusedSimpArgs false
set_option linter.unusedVariables false
set_option maxRecDepth 100000
set_option maxHeartbeats 1000000
def idsOf (v : Value) : List Nat := match v with | .slice (some a) _ _ => [a.block] | _ => []
theorem mem_idsOf {v : Value} {i : Nat} (e : atBlock v i) : i ∈ idsOf v := by
  unfold atBlock at e
  unfold idsOf
  split at e
  · subst e; exact List.mem_singleton.2 rfl
  · exact e.elim
theorem idsOf_at {v : Value} {i : Nat} (e : i ∈ idsOf v) : atBlock v i := by
  unfold idsOf at e
  unfold atBlock
  split at e
  · exact (List.mem_singleton.1 e).symm
  · cases e
theorem RdV_look {α : Type} {h h' : AH} {v : Value} {k : Nat} {enc : α → List Value} {l : List α} (r : RdV h v k enc l) (big : Big h') (e : ∀ i, atBlock v i → h'.ob i = h.ob i) : RdV h' v k enc l := by
  rcases r with r | ⟨id, off, c, rfl, r, hl⟩
  · exact .inl r
  · obtain ⟨cs, st, ln, ec⟩ : ∃ cs st ln, h.ob id = .cells cs st ln := by
      unfold rd at r
      split at r
      · exact ⟨_, _, _, by assumption⟩
      · cases r
    refine .inr ⟨id, off, c, rfl, by rw [← r, rd_eq, rd_eq, e id rfl], ?_⟩
    by_cases q : id < h'.n
    · exact q
    · have := big id (by omega)
      rw [e id rfl, ec] at this
      cases this
theorem RdT_look {h h' : AH} {vA vB : Value} {s : Store} (r : RdT h vA vB s) (big : Big h') (e : ∀ i ∈ idsOf vA ++ idsOf vB, h'.ob i = h.ob i) : RdT h' vA vB s :=
  ⟨RdV_look r.vars big (fun i hi => e i (List.mem_append_left _ (mem_idsOf hi))), RdV_look r.cells big (fun i hi => e i (List.mem_append_right _ (mem_idsOf hi)))⟩
theorem allKept_of {h h' : AH} : ∀ {S : List (Nat × Nat)}, (∀ q ∈ S, h'.ob q.2 = h.ob q.2) → allKept S h h'
  | [], _ => trivial
  | p :: r, e => ⟨e p (by simp), allKept_of (fun q hq => e q (by simp [hq]))⟩
theorem kp_pre {S : List (Nat × Nat)} {h h' : AH} {X : Prop} (p : Pre h h') (hS : ∀ q ∈ S, q.2 < h.n) (hx : X) : kp S h h' X := ⟨allKept_of (fun q hq => p.ob _ (hS q hq)), hx⟩
theorem watch_lt {i n : Nat} {ids : List Nat} {S : List (Nat × Nat)} (h1 : ∀ j ∈ ids, j < n) (h2 : ∀ q ∈ S, q.2 < n) : ∀ q ∈ watchAll i ids S, q.2 < n := by
  intro q hq
  unfold watchAll at hq
  rcases List.mem_append.1 hq with hq | hq
  · obtain ⟨j, hj, rfl⟩ := List.mem_map.1 hq
    exact h1 j hj
  · exact h2 q hq
theorem ids_lt {h0 h : AH} {vA vB : Value} {st : Store} (o : OwnT h0 h vA vB st) : ∀ j ∈ idsOf vA ++ idsOf vB, j < h.n := by
  intro j hj
  rcases List.mem_append.1 hj with e | e
  · exact (o.range (.inl (idsOf_at e))).2
  · exact (o.range (.inr (idsOf_at e))).2
theorem MergeDelta_s (s d : Store) (vA vB wA wB : Value) (h : AH) (r : RdT h vA vB s) (q : RdT h wA wB d) (zs : SzB s) (zd : SzB d) :
    CC Tryd.prog 11 [.agg #[vA, vB, .string s.out], .agg #[wA, wB, .string d.out]] h (fun v h' => ∃ rA rB, v = .agg #[rA, rB, .string (mergeD s d).out] ∧ OwnT h h' rA rB (mergeD s d) ∧ Pre h h') := by
  have y1 := r.vars.one
  have y2 := r.cells.one
  have x1 := q.vars.one
  have x2 := q.cells.one
  have znv := zd.nv
  have znc := zd.nc
  have hm := maxLen_eq
  obtain ⟨A, ca, rfl, qR⟩ := q.vars.rde (fun _ => rfl)
  obtain ⟨B, cb, rfl, qC⟩ := q.cells.rde (fun _ => rfl)
  refine CC.withBig (fun big => ?_)
  refine CC.ofN Tryd.func11 Tryd.ntmps11 Tryd.results11 rfl (by decide) (by kernel_rfl) ?_
  simp (maxSteps := 1000000) -implicitDefEqProofs only [push_cast, seval, y1, y2, x1, x2]
  have p0 := (((Pre.refl h).alloc (AOb.cells [vA, vB, Value.string s.out] .solo h.n)).alloc (AOb.cells [.slice A d.vars.length ca, .slice B d.cells.length cb, Value.string d.out] .solo (h.n + 1))).alloc (AOb.cells [.slice none 0 0, .slice none 0 0, .string ⟨#[]⟩] .solo (h.n + 2))
  with_reducible refine CC.mono (l08Copy_c s vA vB _ (r.pre p0) zs.sz) (fun v h1 hv => ?_)
  with_reducible refine Exists.elim hv (fun rA hv => ?_)
  with_reducible refine Exists.elim hv (fun rB hv => ?_)
  have e1 := hv.1
  have o1 := hv.2.1
  have p1 := hv.2.2
  clear hv
  subst e1
  have y3 := o1.one.1
  have y4 := o1.one.2
  have n1 : h.n + 3 ≤ h1.n := p1.n
  have g1 : h1.ob (h.n + 1) = AOb.cells [.slice A d.vars.length ca, .slice B d.cells.length cb, Value.string d.out] .solo (h.n + 1) := (p1.ob _ (by show h.n + 1 < h.n + 3; omega)).trans (by (try simp (maxSteps := 1000000) -implicitDefEqProofs only [push_cast, seval, rdOb]); try rfl)
  have g2 : h1.ob (h.n + 2) = AOb.cells [.slice none 0 0, .slice none 0 0, .string ⟨#[]⟩] .solo (h.n + 2) := (p1.ob _ (by show h.n + 2 < h.n + 3; omega)).trans (by (try simp (maxSteps := 1000000) -implicitDefEqProofs only [push_cast, seval, rdOb]); try rfl)
  have l1 : h.n + 1 < h1.n := by omega
  have l2 : h.n + 2 < h1.n := by omega
  simp (maxSteps := 1000000) -implicitDefEqProofs only [push_cast, seval, g1, rd_of g1, rd1_of g1, g2, rd_of g2, rd1_of g2, l1, l2, y3, y4]
  have b1 : ∀ j, atBlock rA j ∨ atBlock rB j → j ≠ h1.n ∧ h.n + 3 ≤ j := fun j e => by have hh : h.n + 3 ≤ j ∧ j < h1.n := o1.range e; omega
  refine WC.loopA (by kernel_rfl) [6] [7, 12, 13, 14, 15, 16, 17, 18, 19, 20, 21, 22, 23, 24, 25, 26, 27, 28, 29, 30, 31, 32, 33, 34, 35, 36, 37] (fun a : Nat × Value × Value => [.int .i64 (a.1 : Nat)]) (fun a h' => a.1 ≤ d.vars.length ∧ h'.ob h1.n = AOb.cells [a.2.1, a.2.2, .string s.out] .solo h1.n ∧ OwnT h h' a.2.1 a.2.2 (mergeV s (d.vars.take a.1)) ∧ (∀ j, atBlock a.2.1 j ∨ atBlock a.2.2 j → j ≠ h1.n ∧ h.n + 3 ≤ j) ∧ Pre h1 h' ∧ h1.n < h'.n) (fun a => d.vars.length - a.1) (0, rA, rB) (by kernel_rfl) ⟨Nat.zero_le _, ?_, ?_, b1, ?_, ?_⟩ ?_
  · exact set_same _ _
  · exact ((o1.mono (by show h.n ≤ h.n + 3; omega)).alloc _).to (Nat.le_refl _) (fun i e => set_ne _ (b1 i e).1)
  · exact ((Pre.refl h1).alloc _).set (Nat.le_refl _) _
  · show h1.n < h1.n + 1
    omega
  intro a g h2 hJ
  have hi := hJ.1
  have u1 := hJ.2.1
  have o2 := hJ.2.2.1
  have b2 := hJ.2.2.2.1
  have p2 := hJ.2.2.2.2.1
  have n2 := hJ.2.2.2.2.2
  clear hJ
  have k1 : h2.ob (h.n + 1) = _ := (p2.ob _ l1).trans g1
  have k2 : h2.ob (h.n + 2) = _ := (p2.ob _ l2).trans g2
  have m1 : h.n + 1 < h2.n := by omega
  have m2 : h.n + 2 < h2.n := by omega
  have y5 := o2.one.1
  have y6 := o2.one.2
  simp (maxSteps := 1000000) -implicitDefEqProofs only [push_cast, seval, k1, rd_of k1, rd1_of k1, k2, rd_of k2, rd1_of k2, m1, m2, u1, rd_of u1, rd1_of u1, n2, y5, y6]
  with_reducible refine bcase_d (fun hb => ?_) (fun hb => ?_)
  · have hi' : a.1 < d.vars.length := by omega
    with_reducible refine qR.use big (p0.trans (p1.trans p2)) hi' (fun id off eA hlt hr => ?_)
    subst eA
    simp only [Var.enc] at hr
    have r0 := (rd_2 hr).1
    have r1 := (rd_2 hr).2
    simp (maxSteps := 1000000) -implicitDefEqProofs only [push_cast, seval, k1, rd_of k1, rd1_of k1, k2, rd_of k2, rd1_of k2, m1, m2, u1, rd_of u1, rd1_of u1, n2, y5, y6, hr, r0, r1, hlt]
    repeat (with_reducible refine And.intro ?_ ?_; · (first | omega | decide))
    have eo := mergeV_out (d.vars.take a.1) s
    have zM : SzB (mergeV s (d.vars.take a.1)) := zs.mergeV (fun x hx => (zd.vars x (List.mem_of_mem_take hx)).1)
    have hnx := mergeV_next s hi'
    generalize hM : mergeV s (d.vars.take a.1) = M at o2 eo zM hnx
    have zx := zd.vars _ (List.getElem_mem hi')
    have oH : OwnT h ((h2.alloc (AOb.cells [Value.string ⟨#[]⟩, Value.string ⟨#[]⟩] .solo h2.n)).set h2.n (AOb.cells [Value.string d.vars[a.1].name, Value.string d.vars[a.1].val] .solo h2.n)) a.2.1 a.2.2 M := (o2.alloc _).to (Nat.le_refl _) (fun i e => set_ne _ (by have := (o2.range e).2; omega))
    have hVO := fun h' e => CD.withBig (fun bg => VarOf_s M d.vars[a.1].name _ _ h' (RdT_look oH.rdt bg e) zM.nv)
    have zv : (varIn d.vars[a.1].name M.vars).size ≤ 2000000 := varIn_size _ (fun x hx => (zM.vars x hx).2)
    have hSV := SetVar_s M d.vars[a.1].name (addT (varIn d.vars[a.1].name M.vars) d.vars[a.1].val) _ _ _ oH.rdt zM zx.1 (by have := addT_size (varIn d.vars[a.1].name M.vars) d.vars[a.1].val; omega)
    have eS : (stepV M d.vars[a.1]) = setV M d.vars[a.1].name (addT (varIn d.vars[a.1].name M.vars) d.vars[a.1].val) := rfl
    have eo2 : (stepV M d.vars[a.1]).out = s.out := (setV_out _ _ _).trans eo
    rw [← eS, eo, eo2] at hSV
    rw [eo] at hVO
    unfold addT at hSV
    generalize varIn d.vars[a.1].name M.vars = V at hVO zv hSV
    have t1 := numOf_lt V
    have t2 := numOf_lt d.vars[a.1].val
    have hNT := fun h' => NumText_s (numOf V + numOf d.vars[a.1].val) (by omega) h'
    have ew : IntKind.i64.wrap ((numOf V : Int) + (numOf d.vars[a.1].val : Int)) = ((numOf V + numOf d.vars[a.1].val : Nat) : Int) := by
      rw [w64 (by omega) (by omega)]; omega
    rw [← ew] at hNT
    generalize decB ((numOf V + numOf d.vars[a.1].val) % 1000000) = X at hNT hSV
    refine WC.draw' (by kernel_rfl) (by kernel_rfl) (.q 0 (.q 1 (.q 2 (.q 3 (.q 4 (.q 5 (.q 8 (.q 9 (.c 6 (.c 7 (.c 10 (.q 11 (.c 12 (.a 13 false (.a 14 true (.done)))))))))))))))) (by kernel_rfl) ?_
    simp (maxSteps := 1000000) -implicitDefEqProofs only [push_cast, seval, k1, rd_of k1, rd1_of k1, k2, rd_of k2, rd1_of k2, m1, m2, u1, rd_of u1, rd1_of u1, n2, y5, y6, hr, r0, r1, hlt]
    with_reducible refine CQ.look _ hVO ?_
    simp (maxSteps := 1000000) -implicitDefEqProofs only [push_cast, seval, k1, rd_of k1, rd1_of k1, k2, rd_of k2, rd1_of k2, m1, m2, u1, rd_of u1, rd1_of u1, n2, y5, y6, hr, r0, r1, hlt]
    with_reducible refine CQ.pure (fun h' => NumOf_s V (by omega) h') ?_
    simp (maxSteps := 1000000) -implicitDefEqProofs only [push_cast, seval, k1, rd_of k1, rd1_of k1, k2, rd_of k2, rd1_of k2, m1, m2, u1, rd_of u1, rd1_of u1, n2, y5, y6, hr, r0, r1, hlt]
    with_reducible refine CQ.pure (fun h' => NumOf_s d.vars[a.1].val (by omega) h') ?_
    simp (maxSteps := 1000000) -implicitDefEqProofs only [push_cast, seval, k1, rd_of k1, rd1_of k1, k2, rd_of k2, rd1_of k2, m1, m2, u1, rd_of u1, rd1_of u1, n2, y5, y6, hr, r0, r1, hlt]
    with_reducible refine CQ.pure hNT ?_
    simp (maxSteps := 1000000) -implicitDefEqProofs only [push_cast, seval, k1, rd_of k1, rd1_of k1, k2, rd_of k2, rd1_of k2, m1, m2, u1, rd_of u1, rd1_of u1, n2, y5, y6, hr, r0, r1, hlt]
    with_reducible refine CC.mono hSV (fun v h3 hv => ?_)
    with_reducible refine Exists.elim hv (fun tA hv => ?_)
    with_reducible refine Exists.elim hv (fun tB hv => ?_)
    have e3 := hv.1
    have o3 := hv.2.1
    have p3 := hv.2.2
    clear hv
    subst e3
    have y7 := o3.one.1
    have y8 := o3.one.2
    have n3 : h2.n + 1 ≤ h3.n := p3.n
    have u3 : h3.ob h1.n = AOb.cells [a.2.1, a.2.2, .string s.out] .solo h1.n := (p3.ob _ (by show h1.n < h2.n + 1; omega)).trans ((set_ne _ (by omega)).trans ((alloc_lt _ n2).trans u1))
    have l3 : h1.n < h3.n := by omega
    simp (maxSteps := 1000000) -implicitDefEqProofs only [push_cast, seval, k1, rd_of k1, rd1_of k1, k2, rd_of k2, rd1_of k2, m1, m2, u1, rd_of u1, rd1_of u1, n2, y5, y6, hr, r0, r1, hlt, u3, rd_of u3, rd1_of u3, l3, y7, y8]
    have hw : ∀ q ∈ watchAll 6 (idsOf a.2.1 ++ idsOf a.2.2) [(9, h2.n), (5, h2.n), (3, h1.n), (2, h2.n), (0, h1.n)], q.2 < h2.n + 1 := watch_lt (fun j hj => Nat.lt_succ_of_lt (ids_lt o2 j hj)) (fun q hq => by
      simp only [List.mem_cons, List.mem_nil_iff, or_false] at hq
      rcases hq with rfl | rfl | rfl | rfl | rfl <;> first | exact Nat.lt_succ_self _ | exact Nat.lt_succ_of_lt n2)
    refine kp_pre p3 hw ?_
    have oN : OwnT h (h3.set h1.n (AOb.cells [tA, tB, .string s.out] .solo h1.n)) tA tB (mergeV s (d.vars.take (a.1 + 1))) := by
      rw [hnx]
      exact (o3.mono (by show h.n ≤ h2.n + 1; omega)).to (Nat.le_refl _) (fun i e => set_ne _ (by have : h2.n + 1 ≤ i := (o3.range e).1; omega))
    have bN : ∀ j, atBlock tA j ∨ atBlock tB j → j ≠ h1.n ∧ h.n + 3 ≤ j := fun j e => by have : h2.n + 1 ≤ j := (o3.range e).1; omega
    have pN : Pre h1 (h3.set h1.n (AOb.cells [tA, tB, .string s.out] .solo h1.n)) := ((p2.trans (((Pre.refl h2).alloc _).set (Nat.le_refl _) _)).trans p3).set (Nat.le_refl _) _
    simp (maxSteps := 1000000) -implicitDefEqProofs only [push_cast, seval, k1, rd_of k1, rd1_of k1, k2, rd_of k2, rd1_of k2, m1, m2, u1, rd_of u1, rd1_of u1, n2, y5, y6, hr, r0, r1, hlt, u3, rd_of u3, rd1_of u3, l3, y7, y8]
    rw [wrapSucc (n := a.1) (by omega)]
    exact ⟨(a.1 + 1, tA, tB), by kernel_rfl, ⟨by show a.1 + 1 ≤ d.vars.length; omega, rfl, oN, bN, pN⟩, by show d.vars.length - (a.1 + 1) < d.vars.length - a.1; omega⟩
  · have ea : a.1 = d.vars.length := by omega
    rw [ea, List.take_length] at o2
    have e0 := mergeV_out d.vars s
    have z0 : SzB (mergeV s d.vars) := zs.mergeV (fun x hx => (zd.vars x hx).1)
    have hD : mergeD s d = ⟨(mergeC (mergeV s d.vars) d.cells).vars, (mergeC (mergeV s d.vars) d.cells).cells, outB (s.out ++ d.out)⟩ := rfl
    generalize mergeV s d.vars = M0 at o2 e0 z0 hD
    simp (maxSteps := 1000000) -implicitDefEqProofs only [push_cast, seval, k1, rd_of k1, rd1_of k1, k2, rd_of k2, rd1_of k2, m1, m2, u1, rd_of u1, rd1_of u1, n2, y5, y6]
    refine WC.loopA (by kernel_rfl) [8] [9, 38, 39, 40, 41, 42, 43, 44, 45, 46, 47, 48, 49, 50, 51, 52, 53, 54, 55, 56, 57, 58, 59, 60, 61, 62, 63, 64, 65, 66, 67] (fun b : Nat × Value × Value => [.int .i64 (b.1 : Nat)]) (fun b h' => b.1 ≤ d.cells.length ∧ h'.ob h1.n = AOb.cells [b.2.1, b.2.2, .string s.out] .solo h1.n ∧ OwnT h h' b.2.1 b.2.2 (mergeC M0 (d.cells.take b.1)) ∧ (∀ j, atBlock b.2.1 j ∨ atBlock b.2.2 j → j ≠ h1.n ∧ h.n + 3 ≤ j) ∧ Pre h1 h' ∧ h1.n < h'.n) (fun b => d.cells.length - b.1) (0, a.2.1, a.2.2) (by kernel_rfl) ⟨Nat.zero_le _, u1, o2, b2, p2, n2⟩ ?_
    clear k1 k2 m1 m2 u1 n2 o2 b2 p2
    intro b g' h2 hJ
    have hi := hJ.1
    have u1 := hJ.2.1
    have o2 := hJ.2.2.1
    have b2 := hJ.2.2.2.1
    have p2 := hJ.2.2.2.2.1
    have n2 := hJ.2.2.2.2.2
    clear hJ
    have k1 : h2.ob (h.n + 1) = _ := (p2.ob _ l1).trans g1
    have k2 : h2.ob (h.n + 2) = _ := (p2.ob _ l2).trans g2
    have m1 : h.n + 1 < h2.n := by omega
    have m2 : h.n + 2 < h2.n := by omega
    have y9 := o2.one.1
    have y10 := o2.one.2
    simp (maxSteps := 1000000) -implicitDefEqProofs only [push_cast, seval, k1, rd_of k1, rd1_of k1, k2, rd_of k2, rd1_of k2, m1, m2, u1, rd_of u1, rd1_of u1, n2, y9, y10]
    with_reducible refine bcase_d (fun hb2 => ?_) (fun hb2 => ?_)
    · have hi' : b.1 < d.cells.length := by omega
      with_reducible refine qC.use big (p0.trans (p1.trans p2)) hi' (fun id off eA hlt hr => ?_)
      subst eA
      simp only [Cell.enc] at hr
      have r0 := (rd_3 hr).1
      have r1 := (rd_3 hr).2.1
      have r2 := (rd_3 hr).2.2
      simp (maxSteps := 1000000) -implicitDefEqProofs only [push_cast, seval, k1, rd_of k1, rd1_of k1, k2, rd_of k2, rd1_of k2, m1, m2, u1, rd_of u1, rd1_of u1, n2, y9, y10, hr, r0, r1, r2, hlt]
      repeat (with_reducible refine And.intro ?_ ?_; · (first | omega | decide))
      have eo := (mergeC_out (d.cells.take b.1) M0).trans e0
      have zM : SzB (mergeC M0 (d.cells.take b.1)) := z0.mergeC (fun x hx => (zd.cells x (List.mem_of_mem_take hx)).1)
      have hnx := mergeC_next M0 hi'
      generalize hM : mergeC M0 (d.cells.take b.1) = M at o2 eo zM hnx
      have zx := zd.cells _ (List.getElem_mem hi')
      have oH : OwnT h ((h2.alloc (AOb.cells [Value.string ⟨#[]⟩, Value.string ⟨#[]⟩, Value.string ⟨#[]⟩] .solo h2.n)).set h2.n (AOb.cells [Value.string d.cells[b.1].name, Value.string d.cells[b.1].key, Value.string d.cells[b.1].val] .solo h2.n)) b.2.1 b.2.2 M := (o2.alloc _).to (Nat.le_refl _) (fun i e => set_ne _ (by have := (o2.range e).2; omega))
      have hVO := fun h' e => CD.withBig (fun bg => CellOf_s M d.cells[b.1].name d.cells[b.1].key _ _ h' (RdT_look oH.rdt bg e) zM.nc (by omega))
      have zv : (cellIn d.cells[b.1].name (cutB d.cells[b.1].key) M.cells).size ≤ 2000000 := cellIn_size _ _ (fun x hx => (zM.cells x hx).2.2)
      have hSV := SetCell_s M d.cells[b.1].name d.cells[b.1].key (addT (cellIn d.cells[b.1].name (cutB d.cells[b.1].key) M.cells) d.cells[b.1].val) _ _ _ oH.rdt zM zx.1 (by omega) (by have := addT_size (cellIn d.cells[b.1].name (cutB d.cells[b.1].key) M.cells) d.cells[b.1].val; omega)
      have eS : (stepC M d.cells[b.1]) = setC M d.cells[b.1].name d.cells[b.1].key (addT (cellIn d.cells[b.1].name (cutB d.cells[b.1].key) M.cells) d.cells[b.1].val) := rfl
      have eo2 : (stepC M d.cells[b.1]).out = s.out := (setC_out _ _ _ _).trans eo
      rw [← eS, eo, eo2] at hSV
      rw [eo] at hVO
      unfold addT at hSV
      generalize cellIn d.cells[b.1].name (cutB d.cells[b.1].key) M.cells = V at hVO zv hSV
      have t1 := numOf_lt V
      have t2 := numOf_lt d.cells[b.1].val
      have hNT := fun h' => NumText_s (numOf V + numOf d.cells[b.1].val) (by omega) h'
      have ew : IntKind.i64.wrap ((numOf V : Int) + (numOf d.cells[b.1].val : Int)) = ((numOf V + numOf d.cells[b.1].val : Nat) : Int) := by
        rw [w64 (by omega) (by omega)]; omega
      rw [← ew] at hNT
      generalize decB ((numOf V + numOf d.cells[b.1].val) % 1000000) = X at hNT hSV
      refine WC.draw' (by kernel_rfl) (by kernel_rfl) (.q 0 (.q 1 (.q 2 (.q 3 (.q 4 (.q 5 (.q 6 (.q 7 (.q 8 (.q 9 (.q 12 (.q 13 (.c 10 (.c 11 (.c 14 (.q 15 (.c 16 (.a 17 false (.a 18 true (.done)))))))))))))))))))) (by kernel_rfl) ?_
      simp (maxSteps := 1000000) -implicitDefEqProofs only [push_cast, seval, k1, rd_of k1, rd1_of k1, k2, rd_of k2, rd1_of k2, m1, m2, u1, rd_of u1, rd1_of u1, n2, y9, y10, hr, r0, r1, r2, hlt]
      with_reducible refine CQ.look _ hVO ?_
      simp (maxSteps := 1000000) -implicitDefEqProofs only [push_cast, seval, k1, rd_of k1, rd1_of k1, k2, rd_of k2, rd1_of k2, m1, m2, u1, rd_of u1, rd1_of u1, n2, y9, y10, hr, r0, r1, r2, hlt]
      with_reducible refine CQ.pure (fun h' => NumOf_s V (by omega) h') ?_
      simp (maxSteps := 1000000) -implicitDefEqProofs only [push_cast, seval, k1, rd_of k1, rd1_of k1, k2, rd_of k2, rd1_of k2, m1, m2, u1, rd_of u1, rd1_of u1, n2, y9, y10, hr, r0, r1, r2, hlt]
      with_reducible refine CQ.pure (fun h' => NumOf_s d.cells[b.1].val (by omega) h') ?_
      simp (maxSteps := 1000000) -implicitDefEqProofs only [push_cast, seval, k1, rd_of k1, rd1_of k1, k2, rd_of k2, rd1_of k2, m1, m2, u1, rd_of u1, rd1_of u1, n2, y9, y10, hr, r0, r1, r2, hlt]
      with_reducible refine CQ.pure hNT ?_
      simp (maxSteps := 1000000) -implicitDefEqProofs only [push_cast, seval, k1, rd_of k1, rd1_of k1, k2, rd_of k2, rd1_of k2, m1, m2, u1, rd_of u1, rd1_of u1, n2, y9, y10, hr, r0, r1, r2, hlt]
      with_reducible refine CC.mono hSV (fun v h3 hv => ?_)
      with_reducible refine Exists.elim hv (fun tA hv => ?_)
      with_reducible refine Exists.elim hv (fun tB hv => ?_)
      have e3 := hv.1
      have o3 := hv.2.1
      have p3 := hv.2.2
      clear hv
      subst e3
      have y7 := o3.one.1
      have y8 := o3.one.2
      have n3 : h2.n + 1 ≤ h3.n := p3.n
      have u3 : h3.ob h1.n = AOb.cells [b.2.1, b.2.2, .string s.out] .solo h1.n := (p3.ob _ (by show h1.n < h2.n + 1; omega)).trans ((set_ne _ (by omega)).trans ((alloc_lt _ n2).trans u1))
      have l3 : h1.n < h3.n := by omega
      simp (maxSteps := 1000000) -implicitDefEqProofs only [push_cast, seval, k1, rd_of k1, rd1_of k1, k2, rd_of k2, rd1_of k2, m1, m2, u1, rd_of u1, rd1_of u1, n2, y9, y10, hr, r0, r1, r2, hlt, u3, rd_of u3, rd1_of u3, l3, y7, y8]
      have hw : ∀ q ∈ watchAll 10 (idsOf b.2.1 ++ idsOf b.2.2) [(13, h2.n), (9, h2.n), (7, h2.n), (5, h1.n), (4, h2.n), (2, h2.n), (0, h1.n)], q.2 < h2.n + 1 := watch_lt (fun j hj => Nat.lt_succ_of_lt (ids_lt o2 j hj)) (fun q hq => by
        simp only [List.mem_cons, List.mem_nil_iff, or_false] at hq
        rcases hq with rfl | rfl | rfl | rfl | rfl | rfl | rfl <;> first | exact Nat.lt_succ_self _ | exact Nat.lt_succ_of_lt n2)
      refine kp_pre p3 hw ?_
      have oN : OwnT h (h3.set h1.n (AOb.cells [tA, tB, .string s.out] .solo h1.n)) tA tB (mergeC M0 (d.cells.take (b.1 + 1))) := by
        rw [hnx]
        exact (o3.mono (by show h.n ≤ h2.n + 1; omega)).to (Nat.le_refl _) (fun i e => set_ne _ (by have : h2.n + 1 ≤ i := (o3.range e).1; omega))
      have bN : ∀ j, atBlock tA j ∨ atBlock tB j → j ≠ h1.n ∧ h.n + 3 ≤ j := fun j e => by have : h2.n + 1 ≤ j := (o3.range e).1; omega
      have pN : Pre h1 (h3.set h1.n (AOb.cells [tA, tB, .string s.out] .solo h1.n)) := ((p2.trans (((Pre.refl h2).alloc _).set (Nat.le_refl _) _)).trans p3).set (Nat.le_refl _) _
      simp (maxSteps := 1000000) -implicitDefEqProofs only [push_cast, seval, k1, rd_of k1, rd1_of k1, k2, rd_of k2, rd1_of k2, m1, m2, u1, rd_of u1, rd1_of u1, n2, y9, y10, hr, r0, r1, r2, hlt, u3, rd_of u3, rd1_of u3, l3, y7, y8]
      rw [wrapSucc (n := b.1) (by omega)]
      exact ⟨(b.1 + 1, tA, tB), by kernel_rfl, ⟨by show b.1 + 1 ≤ d.cells.length; omega, rfl, oN, bN, pN⟩, by show d.cells.length - (b.1 + 1) < d.cells.length - b.1; omega⟩
    · have eb : b.1 = d.cells.length := by omega
      rw [eb, List.take_length] at o2
      have zo1 := zs.out
      have zo2 := zd.out
      have hz : (s.out ++ d.out).size ≤ maxLen := by rw [ByteArray.size_append]; omega
      simp (maxSteps := 1000000) -implicitDefEqProofs only [push_cast, seval, k1, rd_of k1, rd1_of k1, k2, rd_of k2, rd1_of k2, m1, m2, u1, rd_of u1, rd1_of u1, n2, y9, y10]
      refine And.intro (by omega) ?_
      with_reducible refine CD.to (l08Out_s _ hz _) ?_
      have h21 : h.n + 2 ≠ h1.n := by omega
      have k4 := fun (o : AOb) => (set_ne o h21).trans k2
      simp (maxSteps := 1000000) -implicitDefEqProofs only [push_cast, seval, k1, rd_of k1, rd1_of k1, k2, rd_of k2, rd1_of k2, m1, m2, u1, rd_of u1, rd1_of u1, n2, y9, y10, k4]
      rw [hD]
      refine ⟨b.2.1, b.2.2, rfl, ⟨o2.a.keep (Nat.le_refl _) (fun i e => ?_), o2.b.keep (Nat.le_refl _) (fun i e => ?_), o2.ne⟩, ?_⟩
      · have := b2 i (.inl e)
        rw [set_ne _ (by omega), set_ne _ (by omega)]
      · have := b2 i (.inr e)
        rw [set_ne _ (by omega), set_ne _ (by omega)]
      · exact ((p0.trans (p1.trans p2)).set (by omega) _).set (by omega) _
end Go.Proofs.YtcggnolnakgkeaaDoor
/- Regions that draw their order: a step that comes behind all that was read, through others. Conditions: those that each theorem names. -/
set_option linter.unusedVariables false
set_option linter.unusedSimpArgs false
namespace Go.Sim
variable {P : Program} {FB : Nat → Prop} {w0 : World} {μ : Nat → Option Loc} {h : AH} {w : World} {ops : Array Oper}
/-- With each operation all that it waits for. -/
def closed (ops : Array Oper) (l : Array Bool) : Prop := ∀ m om, ops[m]? = some om → l.getD m false = true → ∀ e ∈ om.after, Region.binds .any e = true → l.getD e.on false = true
/-- It comes behind that one, whatever the order. -/
def behind (ops : Array Oper) (j k : Nat) : Prop := ∀ l, closed ops l → j ∈ Region.ready .any ops l → l.getD k false = true
theorem closed_set {l : Array Bool} {i : Nat} (c : closed ops l) (hi : i ∈ Region.ready .any ops l) : closed ops (l.setIfInBounds i true) := by
  intro m om hm hl e he hb
  refine getD_set_true ?_
  by_cases x : i = m
  · subst x
    obtain ⟨_, o, ho, hall⟩ := mem_ready.1 hi
    obtain rfl : o = om := by rw [ho] at hm; exact Option.some.inj hm
    exact hall e he hb
  · rw [getD_set_ne false x] at hl
    exact c m om hm hl e he hb
theorem closed_none (n : Nat) : closed ops (Array.replicate n false) := by
  intro m om hm hl
  exfalso
  by_cases x : m < n <;> simp [Array.getElem?_replicate, x] at hl
def anc (ops : Array Oper) : Nat → Nat → Nat → Bool
  | 0, _, _ => false
  | n + 1, j, k => match ops[j]? with | some o => o.after.any fun e => Region.binds .any e && (e.on == k || anc ops n e.on k) | none => false
theorem anc_in {l : Array Bool} (c : closed ops l) : ∀ (n j k : Nat), anc ops n j k = true → l.getD j false = true → l.getD k false = true
  | 0, _, _, h, _ => by simp [anc] at h
  | n + 1, j, k, h, hj => by
    unfold anc at h
    split at h
    · rename_i o ho
      obtain ⟨e, he, hb⟩ := Array.any_eq_true'.1 h
      simp only [Bool.and_eq_true, Bool.or_eq_true, beq_iff_eq] at hb
      have h1 := c j o ho hj e he hb.1
      rcases hb.2 with x | x
      · rw [← x]; exact h1
      · exact anc_in c n e.on k x h1
    · cases h
theorem anc_behind {n j k : Nat} (h : anc ops n j k = true) : behind ops j k := by
  intro l c hj
  cases n with
  | zero => simp [anc] at h
  | succ n =>
    obtain ⟨_, o, ho, hall⟩ := mem_ready.1 hj
    unfold anc at h
    rw [ho] at h
    obtain ⟨e, he, hb⟩ := Array.any_eq_true'.1 h
    simp only [Bool.and_eq_true, Bool.or_eq_true, beq_iff_eq] at hb
    have h1 := hall e he hb.1
    rcases hb.2 with x | x
    · rw [← x]; exact h1
    · exact anc_in c n e.on k x h1
def keepT (ops : Array Oper) (S : List (Nat × Nat)) (j : Nat) (h h' : AH) : Prop := ∀ p ∈ S, ¬ behind ops j p.1 → h'.ob p.2 = h.ob p.2
def treeT (P : Program) (ops : Array Oper) (S : List (Nat × Nat)) (Q : List Value → AH → Prop) : Nat → Array Bool → List Value → AH → Prop
  | 0, listed, t, h => Region.ready .any ops listed = [] ∧ Q t h
  | fuel + 1, listed, t, h => (Region.ready .any ops listed = [] → Q t h) ∧
    ∀ i ∈ Region.ready .any ops listed, ∀ o, ops[i]? = some o → q1 P (dsOf ops) o t h fun t' h' => keepT ops S i h h' ∧ treeT P ops S Q fuel (listed.setIfInBounds i true) t' h'
theorem treeT_sound {S : List (Nat × Nat)} {Qa : List Value → AH → Prop} {Q : Exit → Act → World → Prop} (hok : ∀ o ∈ ops.toList, ∀ x ∈ o.op.operands, opdOK P.globals.size x = true) :
    ∀ (fuel : Nat) (listed : Array Bool) (t : List Value) (h : AH) (μ : Nat → Option Loc) (a : Act) (w : World), treeT P ops S Qa fuel listed t h → Sim P FB w0 μ h w → LR μ t a.tmps.toList → a.defers = [] →
      (∀ t' h' μ' a' w', Qa t' h' → Post P FB w0 μ h μ' h' w' → LR μ' t' a'.tmps.toList → a'.defers = [] → Q .normal a' w') → wpAny P .any ops Q fuel listed a w
  | 0, listed, t, h, μ, a, w, hk, s, ht, hd, hq => ⟨hk.1, hq t h μ a w hk.2 s.post ht hd⟩
  | fuel + 1, listed, t, h, μ, a, w, hk, s, ht, hd, hq => by
    refine ⟨fun e => hq t h μ a w (hk.1 e) s.post ht hd, fun i hi => ?_⟩
    obtain ⟨_, o, ho, _⟩ := mem_ready.1 hi
    refine wpOp_of ho (q1_wp (hk.2 i hi o ho) (hok o (by simpa using Array.mem_of_getElem? ho)) s ht hd (fun t1 h1 μ1 a1 w1 q p1 ht1 hd1 => ?_))
    exact treeT_sound hok fuel _ t1 h1 μ1 a1 w1 q.2 p1.sim ht1 hd1 (fun t2 h2 μ2 a2 w2 q2 p2 ht2 hd2 => hq t2 h2 μ2 a2 w2 q2 (p1.trans p2) ht2 hd2)

theorem treeT_first {i : Nat} {oi : Oper} {v : Value} {C : AH → Prop} {S S2 : List (Nat × Nat)} {Q : List Value → AH → Prop} (hi : ops[i]? = some oi) (hS : ∀ p ∈ S, p ∈ S2)
    (hC : ∀ j, ¬ behind ops j i → ∀ h h', C h → keepT ops S2 j h h' → C h') :
    ∀ (fuel : Nat) (listed : Array Bool) (t : List Value) (h : AH), closed ops listed →
      (∀ j oj, ops[j]? = some oj → j ≠ i → listed.getD j true = false → (∀ e ∈ oj.after, Region.binds .any e = true → e.on ≠ i) → oi.apart ops oj = true) →
      i ∈ Region.ready .any ops listed → Qt P (dsOf ops) oi t v C → C h →
      treeT P ops S2 Q fuel (listed.setIfInBounds i true) (put t oi.dst v) h → treeT P ops S Q (fuel + 1) listed t h := by
  have keepSub : ∀ {j : Nat} {h h' : AH}, keepT ops S2 j h h' → keepT ops S j h h' := fun k p hp => k p (hS p hp)
  have treeSub : ∀ (fuel : Nat) (listed : Array Bool) (t : List Value) (h : AH), treeT P ops S2 Q fuel listed t h → treeT P ops S Q fuel listed t h := by
    intro fuel
    induction fuel with
    | zero => intro listed t h hk; exact hk
    | succ fuel ih => intro listed t h hk; exact ⟨hk.1, fun i hi o ho => q1_mono (hk.2 i hi o ho) (fun t' h' q => ⟨keepSub q.1, ih _ _ _ q.2⟩)⟩
  intro fuel
  induction fuel with
  | zero =>
    intro listed t h _ _ hr hy hc H
    refine ⟨fun e => (by rw [e] at hr; cases hr), fun j hj oj hoj => ?_⟩
    by_cases hji : j = i
    · subst hji
      have : oj = oi := by rw [hi] at hoj; exact (Option.some.inj hoj).symm
      subst this
      exact hy.q1 hc ⟨fun p _ _ => rfl, treeSub _ _ _ _ H⟩
    · have := ready_mono hj hji
      rw [H.1] at this
      cases this
  | succ fuel ih =>
    intro listed t h hcl hfree hr hy hc H
    refine ⟨fun e => (by rw [e] at hr; cases hr), fun j hj oj hoj => ?_⟩
    by_cases hji : j = i
    · subst hji
      have : oj = oi := by rw [hi] at hoj; exact (Option.some.inj hoj).symm
      subst this
      exact hy.q1 hc ⟨fun p _ _ => rfl, treeSub _ _ _ _ H⟩
    · have h1 := H.2 j (ready_mono hj hji) oj hoj
      obtain ⟨hjun, oj', hoj', hall⟩ := mem_ready.1 hj
      have : oj' = oj := by rw [hoj] at hoj'; exact (Option.some.inj hoj').symm
      subst this
      have hnot : ∀ e ∈ oj'.after, Region.binds .any e = true → e.on ≠ i := fun e he hb heq => by
        have h1 := hall e he hb
        have h0 := (mem_ready.1 hr).1
        rw [heq] at h1
        rcases Nat.lt_or_ge i listed.size with h' | h'
        · simp [h'] at h0 h1; rw [h0] at h1; cases h1
        · simp [Array.getElem?_eq_none h'] at h1
      have hnb : ¬ behind ops j i := fun hbe => by
        have h1 := hbe listed hcl hj
        have h0 := (mem_ready.1 hr).1
        rcases Nat.lt_or_ge i listed.size with x | x
        · simp [x] at h0 h1; rw [h0] at h1; cases h1
        · simp [Array.getElem?_eq_none x] at h1
      have hap := hfree j oj' hoj hji hjun hnot
      have h2 := q1_put hap h1
      have hfree' : ∀ k ok, ops[k]? = some ok → k ≠ i → (listed.setIfInBounds j true).getD k true = false →
          (∀ e ∈ ok.after, Region.binds .any e = true → e.on ≠ i) → oi.apart ops ok = true := fun k ok hk hki hun hno => by
        refine hfree k ok hk hki ?_ hno
        by_cases hjk : j = k
        · subst hjk; exact hjun
        · rw [getD_set_ne true hjk] at hun; exact hun
      refine q1_mono h2 (fun t' h' q => ?_)
      obtain ⟨⟨hkeep, htree⟩, u, rfl⟩ := q
      refine ⟨keepSub hkeep, ih (listed.setIfInBounds j true) _ h' (closed_set hcl hj) hfree' (ready_mono hr (Ne.symm hji)) (hy.put (Oper.apart_spec hap).2.2) (hC j (fun hbe => hnb hbe) h h' hc hkeep) ?_⟩
      rw [Array.setIfInBounds_comm _ _ hji]
      exact htree

/-- A step that waits, through others, for all that read. -/
def lastT (ops : Array Oper) (i : Nat) : Bool := (List.range ops.size).all fun k => k == i || !rdsAt ops k || anc ops ops.size i k
def planT (ops : Array Oper) : Nat → Plan → Array Bool → Bool
  | _, .done, l => (Region.ready .any ops l).isEmpty
  | n + 1, .q i p, l => (Region.ready .any ops l).contains i && Region.free .any ops l i && planT ops n p (l.setIfInBounds i true)
  | n + 1, .c i p, l => (Region.ready .any ops l).contains i && Region.free .any ops l i && rdsAt ops i && planT ops n p (l.setIfInBounds i true)
  | n + 1, .a i fl p, l => (Region.ready .any ops l == [i]) && (!fl || lastT ops i) && planT ops n p (l.setIfInBounds i true)
  | n + 1, .b i p j p', l => (Region.ready .any ops l == [i, j]) && planT ops n p (l.setIfInBounds i true) && planT ops n p' (l.setIfInBounds j true)
  | 0, _, _ => false
theorem lastT_keep {i : Nat} (hl : lastT ops i = true) (S : List (Nat × Nat)) (hS : ∀ p ∈ S, p.1 < ops.size ∧ p.1 ≠ i ∧ rdsAt ops p.1 = true) (h h' : AH) : keepT ops S i h h' := by
  intro p hp hn
  obtain ⟨h1, h2, h3⟩ := hS p hp
  simp only [lastT, List.all_eq_true, List.mem_range, Bool.or_eq_true, beq_iff_eq] at hl
  rcases hl p.1 h1 with (e | e) | e
  · exact absurd e h2
  · rw [h3] at e; cases e
  · exact absurd (anc_behind e) hn
theorem walk_treeT {Q : List Value → AH → Prop} : ∀ (n : Nat) (p : Plan) (listed : Array Bool) (S : List (Nat × Nat)) (t : List Value) (h : AH), closed ops listed → planT ops n p listed = true → (∀ q ∈ S, q.1 < ops.size ∧ listed.getD q.1 true = true ∧ rdsAt ops q.1 = true) →
    walk P ops.toList (dsOf ops) p S t h Q → treeT P ops S Q n listed t h
  | 0, .done, listed, S, t, h, hcl, hp, _, hw => by
    simp only [planT, List.isEmpty_iff] at hp
    exact ⟨hp, hw⟩
  | n + 1, .done, listed, S, t, h, hcl, hp, _, hw => by
    simp only [planT, List.isEmpty_iff] at hp
    exact ⟨fun _ => hw, fun i hi => by rw [hp] at hi; cases hi⟩
  | 0, .q .., listed, S, t, h, hcl, hp, _, hw => by simp [planT] at hp
  | 0, .a .., listed, S, t, h, hcl, hp, _, hw => by simp [planT] at hp
  | 0, .b .., listed, S, t, h, hcl, hp, _, hw => by simp [planT] at hp
  | n + 1, .q i p, listed, S, t, h, hcl, hp, hS, hw => by
    simp only [planT, Bool.and_eq_true] at hp
    obtain ⟨⟨hr, hf⟩, hp⟩ := hp
    have hr : i ∈ Region.ready .any ops listed := by simpa using hr
    obtain ⟨o, ho, hq, hv, hk⟩ := opAt_some hw
    have ho' : ops[i]? = some o := by simpa using ho
    have hk := one_a1 hk
    have hS' : ∀ q ∈ watch i o.op (aev t) S, q.1 < ops.size ∧ (listed.setIfInBounds i true).getD q.1 true = true ∧ rdsAt ops q.1 = true := by
      have old : ∀ q ∈ S, q.1 < ops.size ∧ (listed.setIfInBounds i true).getD q.1 true = true ∧ rdsAt ops q.1 = true := fun q hq => by
        refine ⟨(hS q hq).1, ?_, (hS q hq).2.2⟩
        by_cases e : i = q.1
        · subst e
          by_cases hlt : q.1 < listed.size <;> simp [hlt]
        · rw [getD_set_ne true e]; exact (hS q hq).2.1
      intro q hq
      unfold watch at hq
      split at hq
      · rcases List.mem_cons.1 hq with rfl | hq
        · refine ⟨(Array.getElem?_eq_some_iff.1 ho').1, ?_, by unfold rdsAt; rw [ho']; exact qid_reads (by assumption)⟩
          by_cases hlt : i < listed.size <;> simp [hlt]
        · exact old q hq
      · exact old q hq
    have main : ∃ v, walk P ops.toList (dsOf ops) p (watch i o.op (aev t) S) (put t o.dst v) h Q ∧ Qt P (dsOf ops) o t v (Kept (qid (aev t) o.op) h) := by
      unfold a1 at hk
      split at hk
      · rename_i hwant
        obtain ⟨v, hv1, hv2⟩ := aop_quiet hq hv hk
        exact ⟨v, hv1, by unfold Qt; rw [if_pos hwant]; exact fun h' hC K hK => aop_sound (hv2 h' hC K hK)⟩
      · rename_i hwant
        exact ⟨undef, hk, by unfold Qt; rw [if_neg hwant]⟩
    obtain ⟨v, hk', hqt⟩ := main
    refine treeT_first (S2 := watch i o.op (aev t) S) (C := Kept (qid (aev t) o.op) h) ho' (fun p hp => ?_) (fun oj hnp h1 h2 hc hkeep id hid => ?_) n listed t h hcl (Region.free_spec ho' hf) hr hqt (fun _ _ => rfl) (walk_treeT n p _ _ _ h (closed_set hcl hr) hp hS' hk')
    · unfold watch; split
      · exact List.mem_cons_of_mem _ hp
      · exact hp
    · rw [← hc id hid]
      refine hkeep (i, id) ?_ hnp
      unfold watch; rw [hid]; simp
  | 0, .c .., listed, S, t, h, hcl, hp, _, hw => by simp [planT] at hp
  | n + 1, .c i p, listed, S, t, h, hcl, hp, hS, hw => by
    simp only [planT, Bool.and_eq_true] at hp
    obtain ⟨⟨⟨hr, hf⟩, hrd⟩, hp⟩ := hp
    have hr : i ∈ Region.ready .any ops listed := by simpa using hr
    obtain ⟨o, ho, hk⟩ := opAt_some hw
    have ho' : ops[i]? = some o := by simpa using ho
    obtain ⟨v, ids, hk', hqt⟩ := cstep_spec hk
    have hS' : ∀ q ∈ watchAll i ids S, q.1 < ops.size ∧ (listed.setIfInBounds i true).getD q.1 true = true ∧ rdsAt ops q.1 = true := by
      have old : ∀ q ∈ S, q.1 < ops.size ∧ (listed.setIfInBounds i true).getD q.1 true = true ∧ rdsAt ops q.1 = true := fun q hq => by
        refine ⟨(hS q hq).1, ?_, (hS q hq).2.2⟩
        by_cases e : i = q.1
        · subst e
          by_cases hlt : q.1 < listed.size <;> simp [hlt]
        · rw [getD_set_ne true e]; exact (hS q hq).2.1
      intro q hq
      unfold watchAll at hq
      rcases List.mem_append.1 hq with hq | hq
      · obtain ⟨id, _, rfl⟩ := List.mem_map.1 hq
        refine ⟨(Array.getElem?_eq_some_iff.1 ho').1, ?_, hrd⟩
        by_cases hlt : i < listed.size <;> simp [hlt]
      · exact old q hq
    refine treeT_first (S2 := watchAll i ids S) (C := fun h' => ∀ id ∈ ids, h'.ob id = h.ob id) ho' (fun p hp => ?_) (fun oj hnp h1 h2 hc hkeep id hid => ?_) n listed t h hcl (Region.free_spec ho' hf) hr hqt (fun _ _ => rfl) (walk_treeT n p _ _ _ h (closed_set hcl hr) hp hS' hk')
    · exact List.mem_append_right _ hp
    · rw [← hc id hid]
      exact hkeep (i, id) (List.mem_append_left _ (List.mem_map.2 ⟨id, hid, rfl⟩)) hnp
  | n + 1, .a i fl p, listed, S, t, h, hcl, hp, hS, hw => by
    simp only [planT, Bool.and_eq_true, beq_iff_eq] at hp
    obtain ⟨⟨hr, hl⟩, hp⟩ := hp
    refine ⟨fun e => (by rw [e] at hr; cases hr), fun j hj oj hoj => ?_⟩
    have hjr := hj
    rw [hr] at hj
    obtain rfl : j = i := by simpa using hj
    obtain ⟨o, ho, hk⟩ := opAt_some hw
    have ho' : ops[j]? = some o := by simpa using ho
    obtain rfl : oj = o := by rw [hoj] at ho'; exact Option.some.inj ho'
    have hun := (mem_ready.1 hjr).1
    refine q1_mono (a1_q1 (one_a1 hk)) (fun t' h' q => ⟨?_, walk_treeT n p _ S t' h' (closed_set hcl hjr) hp (fun q hq => ⟨(hS q hq).1, ?_, (hS q hq).2.2⟩) q.2⟩)
    · cases fl with
      | true =>
        refine lastT_keep (by simpa using hl) S (fun p hp => ⟨(hS p hp).1, (fun e => ?_), (hS p hp).2.2⟩) h h'
        have := (hS p hp).2.1
        rw [e, hun] at this; cases this
      | false => exact fun p hp _ => allKept_mem (by simpa using q.1) p hp
    · by_cases e : j = q.1
      · subst e
        by_cases hlt : q.1 < listed.size <;> simp [hlt]
      · rw [getD_set_ne true e]; exact (hS q hq).2.1
  | n + 1, .b i p j p', listed, S, t, h, hcl, hp, hS, hw => by
    simp only [planT, Bool.and_eq_true, beq_iff_eq] at hp
    obtain ⟨⟨hr, hp1⟩, hp2⟩ := hp
    have side : ∀ (k : Nat) (q : Plan), k ∈ Region.ready .any ops listed → planT ops n q (listed.setIfInBounds k true) = true → (opAt ops.toList k fun o => aops P (dsOf ops) [o] t h fun t' h' => allKept S h h' ∧ walk P ops.toList (dsOf ops) q S t' h' Q) →
        ∀ o, ops[k]? = some o → q1 P (dsOf ops) o t h fun t' h' => keepT ops S k h h' ∧ treeT P ops S Q n (listed.setIfInBounds k true) t' h' := by
      intro k q hkr hq hk o ho
      obtain ⟨o', ho', hk⟩ := opAt_some hk
      have ho' : ops[k]? = some o' := by simpa using ho'
      obtain rfl : o = o' := by rw [ho] at ho'; exact Option.some.inj ho'
      refine q1_mono (a1_q1 (one_a1 hk)) (fun t' h' x => ⟨fun p hp _ => allKept_mem x.1 p hp, walk_treeT n q _ S t' h' (closed_set hcl hkr) hq (fun y hy => ⟨(hS y hy).1, ?_, (hS y hy).2.2⟩) x.2⟩)
      by_cases e : k = y.1
      · subst e
        by_cases hlt : y.1 < listed.size <;> simp [hlt]
      · rw [getD_set_ne true e]; exact (hS y hy).2.1
    refine ⟨fun e => (by rw [e] at hr; cases hr), fun k hk o ho => ?_⟩
    rw [hr] at hk
    simp only [List.mem_cons, List.not_mem_nil, or_false] at hk
    rcases hk with rfl | rfl
    · exact side _ p (by rw [hr]; simp) hp1 hw.1 o ho
    · exact side _ p' (by rw [hr]; simp) hp2 hw.2 o ho

/-- A region that draws its order: one walk by a plan. -/
theorem WC.drawT {id : Nat} {l : List Oper} {t : List Value} {Q : Exit → List Value → AH → Prop} (hm : P.follows .mixedOrders = true) (hok : codeOK P.globals.size (.region id l.toArray true) = true) (p : Plan)
    (hp : planT l.toArray l.toArray.size p (Array.replicate l.toArray.size false) = true) (hw : walk P l (dsts l) p [] t h (Q .normal)) : WC P (.region id l.toArray true) Q t h := by
  intro FB w0 μ a w Q' s ht hd hq
  have s' := s.drew
  refine wp_region_any hm (treeT_sound (codeOK_ops hok) l.toArray.size _ t h μ a _ (walk_treeT l.toArray.size p _ [] t h (closed_none _) hp (fun q hq => by cases hq) hw) s' ht hd (fun t' h' μ' a' w' q p' => hq .normal t' h' μ' a' w' q ⟨p'.sim, p'.ext, p'.unt⟩))
end Go.Sim
namespace Go.Proofs.YtcggnolnakgkeaaDoor
open Go Go.Sim Go.Proofs
set_option linter.unusedSimpArgs false
set_option linter.unusedVariables false
set_option maxRecDepth 100000
set_option maxHeartbeats 1000000
theorem own_setV {h0 H h3 : AH} {vA vB rA : Value} {M S : Store} {L : List Var} {u : ByteArray} {p n : Nat} (o : OwnT h0 H vA vB M) (hn : h0.n ≤ H.n) (hp : ∀ j, atBlock vA j ∨ atBlock vB j → j ≠ p ∧ n ≤ j) (hnH : n ≤ H.n) (hpH : p < H.n) (hf : ∀ i, i < H.n → i ≠ p → h3.ob i = H.ob i) (h3n : H.n ≤ h3.n)
    (hc : (rA = vA ∧ S = M) ∨ (S = ⟨L, M.cells, u⟩ ∧ Gr H.n h3 rA 2 (L.map Var.enc).flatten)) : OwnT h0 h3 rA vB S ∧ ∀ j, atBlock rA j ∨ atBlock vB j → j ≠ p ∧ n ≤ j := by
  rcases hc with ⟨rfl, rfl⟩ | ⟨rfl, g⟩
  · exact ⟨o.keep h3n (fun i e => hf i (o.range e).2 (hp i e).1), hp⟩
  · refine ⟨⟨g.mono hn, o.b.keep h3n (fun i e => hf i (o.range (.inr e)).2 (hp i (.inr e)).1), fun i e e' => ?_⟩, fun j e => ?_⟩
    · have h1 := (g.range e).1
      have h2 := (o.range (.inr e')).2
      omega
    · rcases e with e | e
      · have := (g.range e).1; omega
      · exact hp j (.inr e)
theorem own_setC {h0 H h3 : AH} {vA vB rB : Value} {M S : Store} {L : List Cell} {u : ByteArray} {p n : Nat} (o : OwnT h0 H vA vB M) (hn : h0.n ≤ H.n) (hp : ∀ j, atBlock vA j ∨ atBlock vB j → j ≠ p ∧ n ≤ j) (hnH : n ≤ H.n) (hpH : p < H.n) (hf : ∀ i, i < H.n → i ≠ p → h3.ob i = H.ob i) (h3n : H.n ≤ h3.n)
    (hc : (rB = vB ∧ S = M) ∨ (S = ⟨M.vars, L, u⟩ ∧ Gr H.n h3 rB 3 (L.map Cell.enc).flatten)) : OwnT h0 h3 vA rB S ∧ ∀ j, atBlock vA j ∨ atBlock rB j → j ≠ p ∧ n ≤ j := by
  rcases hc with ⟨rfl, rfl⟩ | ⟨rfl, g⟩
  · exact ⟨o.keep h3n (fun i e => hf i (o.range e).2 (hp i e).1), hp⟩
  · refine ⟨⟨o.a.keep h3n (fun i e => hf i (o.range (.inl e)).2 (hp i (.inl e)).1), g.mono hn, fun i e e' => ?_⟩, fun j e => ?_⟩
    · have h1 := (g.range e').1
      have h2 := (o.range (.inl e)).2
      omega
    · rcases e with e | e
      · exact hp j (.inl e)
      · have := (g.range e).1; omega
theorem MergeDelta_i (s d : Store) (vA vB wA wB : Value) (h : AH) (r : RdT h vA vB s) (q : RdT h wA wB d) (zs : SzB s) (zd : SzB d) (ht : Pow 3 h) (hg : 3 < h.n) :
    CC Tryd.prog 10 [.agg #[vA, vB, .string s.out], .agg #[wA, wB, .string d.out]] h (fun v h' => ∃ rA rB, v = .agg #[rA, rB, .string (mergeD s d).out] ∧ OwnT h h' rA rB (mergeD s d) ∧ Pre h h') := by
  have y1 := r.vars.one
  have y2 := r.cells.one
  have x1 := q.vars.one
  have x2 := q.cells.one
  have znv := zd.nv
  have znc := zd.nc
  have hm := maxLen_eq
  obtain ⟨A, ca, rfl, qR⟩ := q.vars.rde (fun _ => rfl)
  obtain ⟨B, cb, rfl, qC⟩ := q.cells.rde (fun _ => rfl)
  refine CC.withBig (fun big => ?_)
  refine CC.ofN Tryd.func10 Tryd.ntmps10 Tryd.results10 rfl (by decide) (by kernel_rfl) ?_
  simp (maxSteps := 1000000) -implicitDefEqProofs only [push_cast, seval, y1, y2, x1, x2]
  have p0 := (((Pre.refl h).alloc (AOb.cells [vA, vB, Value.string s.out] .solo h.n)).alloc (AOb.cells [.slice A d.vars.length ca, .slice B d.cells.length cb, Value.string d.out] .solo (h.n + 1))).alloc (AOb.cells [.slice none 0 0, .slice none 0 0, .string ⟨#[]⟩] .solo (h.n + 2))
  with_reducible refine CC.mono (copyStore_c s vA vB _ (r.pre p0) zs.sz) (fun v h1 hv => ?_)
  with_reducible refine Exists.elim hv (fun rA hv => ?_)
  with_reducible refine Exists.elim hv (fun rB hv => ?_)
  have e1 := hv.1
  have o1 := hv.2.1
  have p1 := hv.2.2
  clear hv
  subst e1
  have y3 := o1.one.1
  have y4 := o1.one.2
  have n1 : h.n + 3 ≤ h1.n := p1.n
  have g1 : h1.ob (h.n + 1) = AOb.cells [.slice A d.vars.length ca, .slice B d.cells.length cb, Value.string d.out] .solo (h.n + 1) := (p1.ob _ (by show h.n + 1 < h.n + 3; omega)).trans (by (try simp (maxSteps := 1000000) -implicitDefEqProofs only [push_cast, seval, rdOb]); try rfl)
  have g2 : h1.ob (h.n + 2) = AOb.cells [.slice none 0 0, .slice none 0 0, .string ⟨#[]⟩] .solo (h.n + 2) := (p1.ob _ (by show h.n + 2 < h.n + 3; omega)).trans (by (try simp (maxSteps := 1000000) -implicitDefEqProofs only [push_cast, seval, rdOb]); try rfl)
  have l1 : h.n + 1 < h1.n := by omega
  have l2 : h.n + 2 < h1.n := by omega
  simp (maxSteps := 1000000) -implicitDefEqProofs only [push_cast, seval, g1, rd_of g1, rd1_of g1, g2, rd_of g2, rd1_of g2, l1, l2, y3, y4]
  have b1 : ∀ j, atBlock rA j ∨ atBlock rB j → j ≠ h1.n ∧ h.n + 3 ≤ j := fun j e => by have hh : h.n + 3 ≤ j ∧ j < h1.n := o1.range e; omega
  have k1' : ∀ o, ((h1.alloc o).set h1.n (AOb.cells [rA, rB, .string s.out] .solo h1.n)).ob (h.n + 1) = _ := fun o => (set_ne _ (by omega)).trans ((alloc_lt o l1).trans g1)
  have l1' : h.n + 1 < h1.n + 1 := by omega
  simp (maxSteps := 1000000) -implicitDefEqProofs only [push_cast, seval, k1', l1']
  refine WC.loopA (by kernel_rfl) [16] [7, 17, 18, 19, 20, 21, 22, 23, 24, 25, 26, 27, 28, 29, 30] (fun a : Nat × Value × Value => [.int .i64 (a.1 : Nat)]) (fun a h' => a.1 ≤ d.vars.length ∧ h'.ob h1.n = AOb.cells [a.2.1, a.2.2, .string s.out] .solo h1.n ∧ OwnT h h' a.2.1 a.2.2 (mergeV s (d.vars.take a.1)) ∧ (∀ j, atBlock a.2.1 j ∨ atBlock a.2.2 j → j ≠ h1.n ∧ h.n + 3 ≤ j) ∧ Pre h1 h' ∧ h1.n < h'.n) (fun a => d.vars.length - a.1) (0, rA, rB) (by kernel_rfl) ⟨Nat.zero_le _, ?_, ?_, b1, ?_, ?_⟩ ?_
  · exact set_same _ _
  · exact ((o1.mono (by show h.n ≤ h.n + 3; omega)).alloc _).to (Nat.le_refl _) (fun i e => set_ne _ (b1 i e).1)
  · exact ((Pre.refl h1).alloc _).set (Nat.le_refl _) _
  · show h1.n < h1.n + 1
    omega
  clear k1'
  intro a g h2 hJ
  have hi := hJ.1
  have u1 := hJ.2.1
  have o2 := hJ.2.2.1
  have b2 := hJ.2.2.2.1
  have p2 := hJ.2.2.2.2.1
  have n2 := hJ.2.2.2.2.2
  clear hJ
  have k1 : h2.ob (h.n + 1) = _ := (p2.ob _ l1).trans g1
  have k2 : h2.ob (h.n + 2) = _ := (p2.ob _ l2).trans g2
  have m1 : h.n + 1 < h2.n := by omega
  have m2 : h.n + 2 < h2.n := by omega
  have y5 := o2.one.1
  have y6 := o2.one.2
  simp (maxSteps := 1000000) -implicitDefEqProofs only [push_cast, seval, k1, rd_of k1, rd1_of k1, k2, rd_of k2, rd1_of k2, m1, m2, u1, rd_of u1, rd1_of u1, n2, y5, y6]
  with_reducible refine bcase_d (fun hb => ?_) (fun hb => ?_)
  · have hi' : a.1 < d.vars.length := by omega
    with_reducible refine qR.use big (p0.trans (p1.trans p2)) hi' (fun id off eA hlt hr => ?_)
    subst eA
    simp only [Var.enc] at hr
    have r0 := (rd_2 hr).1
    have r1 := (rd_2 hr).2
    simp (maxSteps := 1000000) -implicitDefEqProofs only [push_cast, seval, k1, rd_of k1, rd1_of k1, k2, rd_of k2, rd1_of k2, m1, m2, u1, rd_of u1, rd1_of u1, n2, y5, y6, hr, r0, r1, hlt]
    repeat (with_reducible refine And.intro ?_ ?_; · (first | omega | decide))
    have eo := mergeV_out (d.vars.take a.1) s
    have zM : SzB (mergeV s (d.vars.take a.1)) := zs.mergeV (fun x hx => (zd.vars x (List.mem_of_mem_take hx)).1)
    have hnx := mergeV_next s hi'
    generalize hM : mergeV s (d.vars.take a.1) = M at o2 eo zM hnx
    have zx := zd.vars _ (List.getElem_mem hi')
    generalize hH : ((h2.alloc (AOb.cells [Value.string ⟨#[]⟩, Value.string ⟨#[]⟩] .solo h2.n)).set h2.n (AOb.cells [Value.string d.vars[a.1].name, Value.string d.vars[a.1].val] .solo h2.n)) = H2
    have q2 : Pre h2 H2 := by rw [← hH]; exact ((Pre.refl h2).alloc _).set (Nat.le_refl _) _
    have hn2 : H2.n = h2.n + 1 := by rw [← hH]; rfl
    have f2 : H2.ob h2.n = AOb.cells [Value.string d.vars[a.1].name, Value.string d.vars[a.1].val] .solo h2.n := by rw [← hH]; exact set_same _ _
    have oH : OwnT h H2 a.2.1 a.2.2 M := o2.pre q2
    have uH : H2.ob h1.n = AOb.cells [a.2.1, a.2.2, .string s.out] .solo h1.n := (q2.ob _ n2).trans u1
    have tH : Pow 3 H2 := ((p0.trans (p1.trans (p2.trans q2))).ob _ hg).trans ht
    have hVO := fun h' e => CD.withBig (fun bg => VarOf_i M d.vars[a.1].name _ _ h' (RdT_look oH.rdt bg e) zM.nv)
    have zv : (varIn d.vars[a.1].name M.vars).size ≤ 2000000 := varIn_size _ (fun x hx => (zM.vars x hx).2)
    have zt := addT_size (varIn d.vars[a.1].name M.vars) d.vars[a.1].val
    have eS : (stepV M d.vars[a.1]) = setV M d.vars[a.1].name (addT (varIn d.vars[a.1].name M.vars) d.vars[a.1].val) := rfl
    have hAD := fun (h' : AH) (e : ∀ i ∈ [3], h'.ob i = H2.ob i) => added_i (varIn d.vars[a.1].name M.vars) d.vars[a.1].val (by omega) (by omega) h' ((e _ (by simp)).trans tH)
    have hSV := setVar_i h1.n M d.vars[a.1].name (addT (varIn d.vars[a.1].name M.vars) d.vars[a.1].val) a.2.1 a.2.2 H2 (by rw [eo]; exact uH) (by omega) oH.rdt.vars zM.nv (by omega)
    rw [← eS, eo] at hSV
    rw [eo] at hVO
    have l5 : h1.n < H2.n := by omega
    have l6 : h2.n < H2.n := by omega
    generalize addT (varIn d.vars[a.1].name M.vars) d.vars[a.1].val = X at hAD hSV
    generalize varIn d.vars[a.1].name M.vars = V at hVO zv hAD
    refine WC.drawT (by kernel_rfl) (by kernel_rfl) (.q 0 (.q 1 (.q 2 (.q 3 (.q 4 (.q 6 (.q 7 (.c 5 (.c 8 (.a 9 true (.done))))))))))) (by kernel_rfl) ?_
    simp (maxSteps := 1000000) -implicitDefEqProofs only [push_cast, seval, f2, rd_of f2, rd1_of f2, uH, rd_of uH, rd1_of uH, l5, l6, y5, y6]
    with_reducible refine CQ.look _ hVO ?_
    simp (maxSteps := 1000000) -implicitDefEqProofs only [push_cast, seval, f2, rd_of f2, rd1_of f2, uH, rd_of uH, rd1_of uH, l5, l6, y5, y6]
    with_reducible refine CQ.look _ hAD ?_
    simp (maxSteps := 1000000) -implicitDefEqProofs only [push_cast, seval, f2, rd_of f2, rd1_of f2, uH, rd_of uH, rd1_of uH, l5, l6, y5, y6]
    with_reducible refine CC.mono hSV (fun v h3 hv => ?_)
    with_reducible refine Exists.elim hv (fun tA hv => ?_)
    have e3 := hv.1
    have f3 := hv.2.1
    have n3 := hv.2.2.1
    have c3 := hv.2.2.2
    clear hv
    have own := own_setV oH (by omega) b2 (by omega) l5 f3 n3 c3
    have oN : OwnT h h3 tA a.2.2 (mergeV s (d.vars.take (a.1 + 1))) := by
      rw [hnx]; exact own.1
    have pN : Pre h1 h3 := ⟨by omega, fun i hi => (f3 i (by omega) (by omega)).trans ((p2.trans q2).ob i hi)⟩
    simp (maxSteps := 1000000) -implicitDefEqProofs only [push_cast, seval]
    rw [wrapSucc (n := a.1) (by omega)]
    exact ⟨(a.1 + 1, tA, a.2.2), by kernel_rfl, ⟨by show a.1 + 1 ≤ d.vars.length; omega, e3, oN, own.2, pN, by omega⟩, by show d.vars.length - (a.1 + 1) < d.vars.length - a.1; omega⟩
  · have ea : a.1 = d.vars.length := by omega
    rw [ea, List.take_length] at o2
    have e0 := mergeV_out d.vars s
    have z0 : SzB (mergeV s d.vars) := zs.mergeV (fun x hx => (zd.vars x hx).1)
    have hD : mergeD s d = ⟨(mergeC (mergeV s d.vars) d.cells).vars, (mergeC (mergeV s d.vars) d.cells).cells, outB (s.out ++ d.out)⟩ := rfl
    generalize mergeV s d.vars = M0 at o2 e0 z0 hD
    simp (maxSteps := 1000000) -implicitDefEqProofs only [push_cast, seval, k1, rd_of k1, rd1_of k1, k2, rd_of k2, rd1_of k2, m1, m2, u1, rd_of u1, rd1_of u1, n2, y5, y6]
    refine WC.loopA (by kernel_rfl) [34] [9, 35, 36, 37, 38, 39, 40, 41, 42, 43, 44, 45, 46, 47, 48, 49, 50, 51, 52] (fun b : Nat × Value × Value => [.int .i64 (b.1 : Nat)]) (fun b h' => b.1 ≤ d.cells.length ∧ h'.ob h1.n = AOb.cells [b.2.1, b.2.2, .string s.out] .solo h1.n ∧ OwnT h h' b.2.1 b.2.2 (mergeC M0 (d.cells.take b.1)) ∧ (∀ j, atBlock b.2.1 j ∨ atBlock b.2.2 j → j ≠ h1.n ∧ h.n + 3 ≤ j) ∧ Pre h1 h' ∧ h1.n < h'.n) (fun b => d.cells.length - b.1) (0, a.2.1, a.2.2) (by kernel_rfl) ⟨Nat.zero_le _, u1, o2, b2, p2, n2⟩ ?_
    clear k1 k2 m1 m2 u1 n2 o2 b2 p2
    intro b g' h2 hJ
    have hi := hJ.1
    have u1 := hJ.2.1
    have o2 := hJ.2.2.1
    have b2 := hJ.2.2.2.1
    have p2 := hJ.2.2.2.2.1
    have n2 := hJ.2.2.2.2.2
    clear hJ
    have k1 : h2.ob (h.n + 1) = _ := (p2.ob _ l1).trans g1
    have k2 : h2.ob (h.n + 2) = _ := (p2.ob _ l2).trans g2
    have m1 : h.n + 1 < h2.n := by omega
    have m2 : h.n + 2 < h2.n := by omega
    have y9 := o2.one.1
    have y10 := o2.one.2
    simp (maxSteps := 1000000) -implicitDefEqProofs only [push_cast, seval, k1, rd_of k1, rd1_of k1, k2, rd_of k2, rd1_of k2, m1, m2, u1, rd_of u1, rd1_of u1, n2, y9, y10]
    with_reducible refine bcase_d (fun hb2 => ?_) (fun hb2 => ?_)
    · have hi' : b.1 < d.cells.length := by omega
      with_reducible refine qC.use big (p0.trans (p1.trans p2)) hi' (fun id off eA hlt hr => ?_)
      subst eA
      simp only [Cell.enc] at hr
      have r0 := (rd_3 hr).1
      have r1 := (rd_3 hr).2.1
      have r2 := (rd_3 hr).2.2
      simp (maxSteps := 1000000) -implicitDefEqProofs only [push_cast, seval, k1, rd_of k1, rd1_of k1, k2, rd_of k2, rd1_of k2, m1, m2, u1, rd_of u1, rd1_of u1, n2, y9, y10, hr, r0, r1, r2, hlt]
      repeat (with_reducible refine And.intro ?_ ?_; · (first | omega | decide))
      have eo := (mergeC_out (d.cells.take b.1) M0).trans e0
      have zM : SzB (mergeC M0 (d.cells.take b.1)) := z0.mergeC (fun x hx => (zd.cells x (List.mem_of_mem_take hx)).1)
      have hnx := mergeC_next M0 hi'
      generalize hM : mergeC M0 (d.cells.take b.1) = M at o2 eo zM hnx
      have zx := zd.cells _ (List.getElem_mem hi')
      generalize hH : ((h2.alloc (AOb.cells [Value.string ⟨#[]⟩, Value.string ⟨#[]⟩, Value.string ⟨#[]⟩] .solo h2.n)).set h2.n (AOb.cells [Value.string d.cells[b.1].name, Value.string d.cells[b.1].key, Value.string d.cells[b.1].val] .solo h2.n)) = H2
      have q2 : Pre h2 H2 := by rw [← hH]; exact ((Pre.refl h2).alloc _).set (Nat.le_refl _) _
      have hn2 : H2.n = h2.n + 1 := by rw [← hH]; rfl
      have f2 : H2.ob h2.n = AOb.cells [Value.string d.cells[b.1].name, Value.string d.cells[b.1].key, Value.string d.cells[b.1].val] .solo h2.n := by rw [← hH]; exact set_same _ _
      have oH : OwnT h H2 b.2.1 b.2.2 M := o2.pre q2
      have uH : H2.ob h1.n = AOb.cells [b.2.1, b.2.2, .string s.out] .solo h1.n := (q2.ob _ n2).trans u1
      have tH : Pow 3 H2 := ((p0.trans (p1.trans (p2.trans q2))).ob _ hg).trans ht
      have hVO := fun h' e => CD.withBig (fun bg => CellOf_i M d.cells[b.1].name d.cells[b.1].key _ _ h' (RdT_look oH.rdt bg e) zM.nc (by omega))
      have zv : (cellIn d.cells[b.1].name (cutB d.cells[b.1].key) M.cells).size ≤ 2000000 := cellIn_size _ _ (fun x hx => (zM.cells x hx).2.2)
      have zt := addT_size (cellIn d.cells[b.1].name (cutB d.cells[b.1].key) M.cells) d.cells[b.1].val
      have eS : (stepC M d.cells[b.1]) = setC M d.cells[b.1].name d.cells[b.1].key (addT (cellIn d.cells[b.1].name (cutB d.cells[b.1].key) M.cells) d.cells[b.1].val) := rfl
      have hAD := fun (h' : AH) (e : ∀ i ∈ [3], h'.ob i = H2.ob i) => added_i (cellIn d.cells[b.1].name (cutB d.cells[b.1].key) M.cells) d.cells[b.1].val (by omega) (by omega) h' ((e _ (by simp)).trans tH)
      have hSV := setCell_i h1.n M d.cells[b.1].name d.cells[b.1].key (addT (cellIn d.cells[b.1].name (cutB d.cells[b.1].key) M.cells) d.cells[b.1].val) b.2.1 b.2.2 H2 (by rw [eo]; exact uH) (by omega) oH.rdt.cells zM.nc (by omega) (by omega)
      rw [← eS, eo] at hSV
      rw [eo] at hVO
      have l5 : h1.n < H2.n := by omega
      have l6 : h2.n < H2.n := by omega
      generalize addT (cellIn d.cells[b.1].name (cutB d.cells[b.1].key) M.cells) d.cells[b.1].val = X at hAD hSV
      generalize cellIn d.cells[b.1].name (cutB d.cells[b.1].key) M.cells = V at hVO zv hAD
      refine WC.drawT (by kernel_rfl) (by kernel_rfl) (.q 0 (.q 1 (.q 2 (.q 3 (.q 4 (.q 5 (.q 6 (.q 7 (.q 8 (.q 10 (.q 11 (.c 9 (.c 12 (.a 13 true (.done))))))))))))))) (by kernel_rfl) ?_
      simp (maxSteps := 1000000) -implicitDefEqProofs only [push_cast, seval, f2, rd_of f2, rd1_of f2, uH, rd_of uH, rd1_of uH, l5, l6, y9, y10]
      with_reducible refine CQ.look _ hVO ?_
      simp (maxSteps := 1000000) -implicitDefEqProofs only [push_cast, seval, f2, rd_of f2, rd1_of f2, uH, rd_of uH, rd1_of uH, l5, l6, y9, y10]
      with_reducible refine CQ.look _ hAD ?_
      simp (maxSteps := 1000000) -implicitDefEqProofs only [push_cast, seval, f2, rd_of f2, rd1_of f2, uH, rd_of uH, rd1_of uH, l5, l6, y9, y10]
      with_reducible refine CC.mono hSV (fun v h3 hv => ?_)
      with_reducible refine Exists.elim hv (fun tB hv => ?_)
      have e3 := hv.1
      have f3 := hv.2.1
      have n3 := hv.2.2.1
      have c3 := hv.2.2.2
      clear hv
      have own := own_setC oH (by omega) b2 (by omega) l5 f3 n3 c3
      have oN : OwnT h h3 b.2.1 tB (mergeC M0 (d.cells.take (b.1 + 1))) := by
        rw [hnx]; exact own.1
      have pN : Pre h1 h3 := ⟨by omega, fun i hi => (f3 i (by omega) (by omega)).trans ((p2.trans q2).ob i hi)⟩
      simp (maxSteps := 1000000) -implicitDefEqProofs only [push_cast, seval]
      rw [wrapSucc (n := b.1) (by omega)]
      exact ⟨(b.1 + 1, b.2.1, tB), by kernel_rfl, ⟨by show b.1 + 1 ≤ d.cells.length; omega, e3, oN, own.2, pN, by omega⟩, by show d.cells.length - (b.1 + 1) < d.cells.length - b.1; omega⟩
    · have eb : b.1 = d.cells.length := by omega
      rw [eb, List.take_length] at o2
      have zo1 := zs.out
      have zo2 := zd.out
      have hz : (s.out ++ d.out).size ≤ maxLen := by rw [ByteArray.size_append]; omega
      have h21 : h.n + 2 ≠ h1.n := by omega
      have k4 := fun (o : AOb) => (set_ne o h21).trans k2
      have eO : (s.out ++ d.out).extract 0 (min ((s.out ++ d.out).size : Int) 3000).toNat = outB (s.out ++ d.out) := by
        generalize s.out ++ d.out = T
        unfold outB
        split
        · rw [show (min (T.size : Int) 3000).toNat = 3000 by omega]
        · rw [show (min (T.size : Int) 3000).toNat = T.size by omega, ByteArray.extract_zero_size]
      simp (maxSteps := 1000000) -implicitDefEqProofs only [push_cast, seval, k1, rd_of k1, rd1_of k1, k2, rd_of k2, rd1_of k2, m1, m2, u1, rd_of u1, rd1_of u1, n2, y9, y10, k4]
      refine And.intro (by omega) (And.intro (by omega) (And.intro (by omega) ?_))
      rw [hD, eO]
      refine ⟨b.2.1, b.2.2, rfl, ⟨o2.a.keep (Nat.le_refl _) (fun i e => ?_), o2.b.keep (Nat.le_refl _) (fun i e => ?_), o2.ne⟩, ?_⟩
      · have := b2 i (.inl e)
        rw [set_ne _ (by omega), set_ne _ (by omega)]
      · have := b2 i (.inr e)
        rw [set_ne _ (by omega), set_ne _ (by omega)]
      · exact ((p0.trans (p1.trans p2)).set (by omega) _).set (by omega) _
end Go.Proofs.YtcggnolnakgkeaaDoor
