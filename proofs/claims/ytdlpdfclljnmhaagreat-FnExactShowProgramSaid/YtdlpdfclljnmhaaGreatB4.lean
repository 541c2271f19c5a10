/- Parts of the proof of the row: the ground, contracts of the functions that it reaches (SimS, SimT, SimU, Lay2, Lay3, Lay4, SimV, P12, Lay1, L101, L50, L51, L52, L53, L54, L55, L56, L57, L58, L59, L60, L61). Conditions: those that each theorem names. -/
import Derived.Shelf.Strings.IndexAnyAll
import Derived.Shelf.Small.Utf8
import Derived.WalkMore
import Derived.Shelf.RegionOpenPlain
import Derived.Lib.IndexLaws
import Derived.Test.YtdlpdfclljnmhaaGreatB3
/- Patterns: readers in memory. Conditions: those that each theorem names. -/
set_option linter.unusedSimpArgs false
set_option linter.unusedVariables false
namespace Go.Sim
variable {P : Program} {h : AH}
def encNa (n : Nat) : List Value := [.int .i64 (n : Nat)]
theorem encI_len (n : Nat) : (encNa n).length = 1 := rfl
def encP (x : Pc × Value) : List Value := [.int .i64 (x.1.op : Nat), .string x.1.text, x.2]
theorem encP_len (x : Pc × Value) : (encP x).length = 3 := rfl
/-- Nothing below n was touched. -/
structure Fr (m : Nat) (h h' : AH) : Prop where
  n : h.n ≤ h'.n
  ob : ∀ i, i < m → h'.ob i = h.ob i
theorem Fr.refl (n : Nat) (h : AH) : Fr n h h := ⟨Nat.le_refl _, fun _ _ => rfl⟩
theorem Fr.trans {n : Nat} {a b c : AH} (x : Fr n a b) (y : Fr n b c) : Fr n a c := ⟨Nat.le_trans x.n y.n, fun i hi => (y.ob i hi).trans (x.ob i hi)⟩
theorem Fr.set {n p : Nat} {h h' : AH} (x : Fr n h h') (hp : n ≤ p) (o : AOb) : Fr n h (h'.set p o) := ⟨x.n, fun i hi => (set_ne o (by omega)).trans (x.ob i hi)⟩
theorem Fr.alloc {n : Nat} {h h' : AH} (x : Fr n h h') (hn : n ≤ h.n) (o : AOb) : Fr n h (h'.alloc o) := ⟨Nat.le_trans x.n (le_alloc o), fun i hi => (alloc_lt o (by have := x.n; omega)).trans (x.ob i hi)⟩
/-- Pieces, in a slice of the call's own. -/
structure Pcs (n0 p : Nat) (h : AH) (v : Value) (L : List (Pc × Value)) : Prop where
  gr : Gr n0 h v 3 (L.map encP).flatten
  kids : ∀ x ∈ L, RdV h x.2 1 encNa x.1.kids
  far : ∀ x ∈ L, ∀ i, atBlock x.2 i → n0 ≤ i ∧ i ≠ p ∧ ¬ atBlock v i
  vp : ∀ i, atBlock v i → i ≠ p
theorem Pcs.nil (n0 p : Nat) (h : AH) (c : Nat) : Pcs n0 p h (.slice none 0 c) [] := ⟨.inl ⟨c, rfl, rfl⟩, (fun x hx => by cases hx), (fun x hx => by cases hx), fun i e => False.elim e⟩
theorem Pcs.keep {n0 p : Nat} {h h' : AH} {v : Value} {L : List (Pc × Value)} (w : Pcs n0 p h v L) (hn : h.n ≤ h'.n) (e : ∀ i, i < h.n → i ≠ p → h'.ob i = h.ob i) : Pcs n0 p h' v L :=
  ⟨w.gr.keep hn (fun i hi => e i (w.gr.range hi).2 (w.vp i hi)), fun x hx => (w.kids x hx).keep hn (fun i hi => e i ((w.kids x hx).lt hi) (w.far x hx i hi).2.1), w.far, w.vp⟩
/-- What one more piece makes of the heap: v' is the slice, kv its kids. -/
structure Put (n0 p : Nat) (h h' : AH) (v v' kv : Value) (cs : List Value) (op : Nat) (text : ByteArray) (kids : List Nat) : Prop where
  n : h.n ≤ h'.n
  gr : Gr n0 h' v' 3 (cs ++ [.int .i64 (op : Nat), .string text, kv])
  new : ∀ i, atBlock v' i → h.n ≤ i
  kr : RdV h' kv 1 encNa kids
  kvn : ∀ i, atBlock kv i → n0 ≤ i ∧ i ≠ p ∧ ¬ atBlock v' i
  ob : ∀ i, i < h.n → i ≠ p → ¬ atBlock v i → h'.ob i = h.ob i
theorem Pcs.put {n0 p : Nat} {h h' : AH} {v v' kv : Value} {L : List (Pc × Value)} {op : Nat} {text : ByteArray} {kids : List Nat} (w : Pcs n0 p h v L) (hp : p < h.n) (q : Put n0 p h h' v v' kv (L.map encP).flatten op text kids) : Pcs n0 p h' v' (L ++ [(⟨op, text, kids⟩, kv)]) := by
  refine ⟨?_, fun x hx => ?_, fun x hx i hi => ?_, fun i hi => by have := q.new i hi; omega⟩
  · rw [flat_snoc]; exact q.gr
  · rcases List.mem_append.1 hx with hx | hx
    · exact (w.kids x hx).keep q.n (fun i hi => q.ob i ((w.kids x hx).lt hi) (w.far x hx i hi).2.1 (w.far x hx i hi).2.2)
    · obtain rfl : x = _ := by simpa using hx
      exact q.kr
  · rcases List.mem_append.1 hx with hx | hx
    · have a := w.far x hx i hi
      have b := (w.kids x hx).lt hi
      exact ⟨a.1, a.2.1, fun e => by have := q.new i e; omega⟩
    · obtain rfl : x = _ := by simpa using hx
      exact q.kvn i hi
/-- A reader that stands well, and one that is bad. C: its cells, from its place, whether it is bad, and its slice. -/
structure Rg (C : Nat → Bool → Value → List Value) (s : ByteArray) (n0 p : Nat) (h : AH) (k : Nat) (out : List Pc) : Prop where
  lt : p < h.n
  le : n0 ≤ p
  hi : k ≤ s.size
  ex : ∃ v L, h.ob p = .cells (C k false v) .solo p ∧ Pcs n0 p h v L ∧ L.map Prod.fst = out
structure Rb (C : Nat → Bool → Value → List Value) (s : ByteArray) (n0 p : Nat) (h : AH) (m : Nat) : Prop where
  lt : p < h.n
  le : n0 ≤ p
  ex : ∃ k v cs j, k ≤ s.size ∧ h.ob p = .cells (C k true v) .solo p ∧ Gr n0 h v 3 cs ∧ cs.length = j * 3 ∧ j ≤ m ∧ ∀ i, atBlock v i → i ≠ p
theorem Rb.mono {C : Nat → Bool → Value → List Value} {s : ByteArray} {n0 p m m' : Nat} {h : AH} (w : Rb C s n0 p h m) (hm : m ≤ m') : Rb C s n0 p h m' := by
  obtain ⟨k, v, cs, j, a, b, c, d, e, f⟩ := w.ex
  exact ⟨w.lt, w.le, k, v, cs, j, a, b, c, d, by omega, f⟩
/-- What a reader's call leaves. -/
def Ro (C : Nat → Bool → Value → List Value) (s : ByteArray) (n0 p : Nat) (h : AH) (m : Nat) (res : PRes) (v : Value) (h' : AH) : Prop :=
  Fr n0 h h' ∧ ((∃ k' o' r, res = some (k', o', r) ∧ v = .int .i64 (r : Nat) ∧ Rg C s n0 p h' k' o') ∨ (res = none ∧ (∃ r : Nat, v = .int .i64 (r : Nat)) ∧ Rb C s n0 p h' m))
end Go.Sim
/- Regions that draw their order: a write that comes behind all that was read. Conditions: those that each theorem names. -/
set_option linter.unusedVariables false
set_option linter.unusedSimpArgs false
namespace Go.Sim
variable {P : Program} {FB : Nat → Prop} {w0 : World} {μ : Nat → Option Loc} {h : AH} {w : World} {ops : Array Oper}
/-- What reads memory. -/
def reads : Op → Bool
  | .load .. | .convert .. | .call _ => true
  | _ => false
theorem qid_reads {ρ : Operand → Value} {o : Op} {id : Nat} (e : qid ρ o = some id) : reads o = true := by
  cases o <;> first | rfl | (simp [qid] at e)
theorem ccall_reads {o : Op} {t : List Value} {X : Value → List Nat → Prop} (hk : ccall P o t h X) : reads o = true := by
  cases o <;> first | rfl | exact hk.elim
theorem cstep_reads {ds : List (Option Tmp)} {o : Oper} {t : List Value} {X : List Value → Value → List Nat → Prop} (hr : reads o.op = false) (hk : cstep P ds o t h X) : ∃ v, X t v [] := by
  unfold cstep at hk
  split at hk
  · exact absurd (ccall_reads hk) (by rw [hr]; decide)
  · rename_i j want hg
    rcases ag_cases hg hk with ⟨hw, hx⟩ | ⟨hw, hx⟩
    · exact absurd (ccall_reads hx) (by rw [hr]; decide)
    · exact ⟨_, hx⟩
/-- An operation that waits for all that read. -/
def lastR (ops : Array Oper) (i : Nat) : Bool :=
  match ops[i]? with
  | some o => (List.range ops.size).all fun k => k == i || !(match ops[k]? with | some x => reads x.op | none => false) || o.after.any fun e => Region.binds .any e && e.on == k
  | none => false
def planR (ops : Array Oper) : Nat → Plan → Array Bool → Bool
  | _, .done, l => (Region.ready .any ops l).isEmpty
  | n + 1, .q i p, l => (Region.ready .any ops l).contains i && Region.free .any ops l i && planR ops n p (l.setIfInBounds i true)
  | n + 1, .c i p, l => (Region.ready .any ops l).contains i && Region.free .any ops l i && (match ops[i]? with | some x => reads x.op | none => false) && planR ops n p (l.setIfInBounds i true)
  | n + 1, .a i fl p, l => (Region.ready .any ops l == [i]) && (!fl || lastR ops i) && planR ops n p (l.setIfInBounds i true)
  | n + 1, .b i p j p', l => (Region.ready .any ops l == [i, j]) && planR ops n p (l.setIfInBounds i true) && planR ops n p' (l.setIfInBounds j true)
  | 0, _, _ => false
def rdsAt (ops : Array Oper) (k : Nat) : Bool := match ops[k]? with | some x => reads x.op | none => false
theorem lastR_keep {i : Nat} {o : Oper} (ho : ops[i]? = some o) (hl : lastR ops i = true) (S : List (Nat × Nat)) (hS : ∀ p ∈ S, p.1 < ops.size ∧ p.1 ≠ i ∧ rdsAt ops p.1 = true) (h h' : AH) : keepS S o h h' := by
  intro p hp hn
  obtain ⟨h1, h2, h3⟩ := hS p hp
  simp only [lastR, ho, List.all_eq_true, List.mem_range, Bool.or_eq_true, beq_iff_eq] at hl
  rcases hl p.1 h1 with (e | e) | e
  · exact absurd e h2
  · exact absurd h3 (by unfold rdsAt; simpa using e)
  · obtain ⟨e, he, hb⟩ := Array.any_eq_true'.1 e
    simp only [Bool.and_eq_true, beq_iff_eq] at hb
    exact absurd ⟨e, he, hb.1, hb.2⟩ hn

theorem walk_treeR {Q : List Value → AH → Prop} : ∀ (n : Nat) (p : Plan) (listed : Array Bool) (S : List (Nat × Nat)) (t : List Value) (h : AH), planR ops n p listed = true → (∀ q ∈ S, q.1 < ops.size ∧ listed.getD q.1 true = true ∧ rdsAt ops q.1 = true) →
    walk P ops.toList (dsOf ops) p S t h Q → tree P ops S Q n listed t h
  | 0, .done, listed, S, t, h, hp, _, hw => by
    simp only [planR, List.isEmpty_iff] at hp
    exact ⟨hp, hw⟩
  | n + 1, .done, listed, S, t, h, hp, _, hw => by
    simp only [planR, List.isEmpty_iff] at hp
    exact ⟨fun _ => hw, fun i hi => by rw [hp] at hi; cases hi⟩
  | 0, .q .., listed, S, t, h, hp, _, hw => by simp [planR] at hp
  | 0, .a .., listed, S, t, h, hp, _, hw => by simp [planR] at hp
  | 0, .b .., listed, S, t, h, hp, _, hw => by simp [planR] at hp
  | n + 1, .q i p, listed, S, t, h, hp, hS, hw => by
    simp only [planR, Bool.and_eq_true] at hp
    obtain ⟨⟨hr, hf⟩, hp⟩ := hp
    have hr : i ∈ Region.ready .any ops listed := by simpa using hr
    obtain ⟨o, ho, hq, hv, hk⟩ := opAt_some hw
    have ho' : ops[i]? = some o := by simpa using ho
    have hk := one_a1 hk
    have hS' : ∀ q ∈ watch i o.op (aev t) S, q.1 < ops.size ∧ (listed.setIfInBounds i true).getD q.1 true = true ∧ rdsAt ops q.1 = true := by
      have old : ∀ q ∈ S, q.1 < ops.size ∧ (listed.setIfInBounds i true).getD q.1 true = true ∧ rdsAt ops q.1 = true := fun q hq => by
        refine ⟨(hS q hq).1, ?_, (hS q hq).2.2⟩
        by_cases e : i = q.1
        · subst e
          by_cases hlt : q.1 < listed.size <;> simp [hlt]
        · rw [getD_set_ne true e]; exact (hS q hq).2.1
      intro q hq
      unfold watch at hq
      split at hq
      · rcases List.mem_cons.1 hq with rfl | hq
        · refine ⟨(Array.getElem?_eq_some_iff.1 ho').1, ?_, by unfold rdsAt; rw [ho']; exact qid_reads (by assumption)⟩
          by_cases hlt : i < listed.size <;> simp [hlt]
        · exact old q hq
      · exact old q hq
    have main : ∃ v, walk P ops.toList (dsOf ops) p (watch i o.op (aev t) S) (put t o.dst v) h Q ∧ Qt P (dsOf ops) o t v (Kept (qid (aev t) o.op) h) := by
      unfold a1 at hk
      split at hk
      · rename_i hwant
        obtain ⟨v, hv1, hv2⟩ := aop_quiet hq hv hk
        exact ⟨v, hv1, by unfold Qt; rw [if_pos hwant]; exact fun h' hC K hK => aop_sound (hv2 h' hC K hK)⟩
      · rename_i hwant
        exact ⟨undef, hk, by unfold Qt; rw [if_neg hwant]⟩
    obtain ⟨v, hk', hqt⟩ := main
    refine tree_first (S2 := watch i o.op (aev t) S) (C := Kept (qid (aev t) o.op) h) ho' (fun p hp => ?_) (fun oj hnp h1 h2 hc hkeep id hid => ?_) n listed t h (Region.free_spec ho' hf) hr hqt (fun _ _ => rfl) (walk_treeR n p _ _ _ h hp hS' hk')
    · unfold watch; split
      · exact List.mem_cons_of_mem _ hp
      · exact hp
    · rw [← hc id hid]
      refine hkeep (i, id) ?_ hnp
      unfold watch; rw [hid]; simp
  | 0, .c .., listed, S, t, h, hp, _, hw => by simp [planR] at hp
  | n + 1, .c i p, listed, S, t, h, hp, hS, hw => by
    simp only [planR, Bool.and_eq_true] at hp
    obtain ⟨⟨⟨hr, hf⟩, hrd⟩, hp⟩ := hp
    have hr : i ∈ Region.ready .any ops listed := by simpa using hr
    obtain ⟨o, ho, hk⟩ := opAt_some hw
    have ho' : ops[i]? = some o := by simpa using ho
    obtain ⟨v, ids, hk', hqt⟩ := cstep_spec hk
    have hS' : ∀ q ∈ watchAll i ids S, q.1 < ops.size ∧ (listed.setIfInBounds i true).getD q.1 true = true ∧ rdsAt ops q.1 = true := by
      have old : ∀ q ∈ S, q.1 < ops.size ∧ (listed.setIfInBounds i true).getD q.1 true = true ∧ rdsAt ops q.1 = true := fun q hq => by
        refine ⟨(hS q hq).1, ?_, (hS q hq).2.2⟩
        by_cases e : i = q.1
        · subst e
          by_cases hlt : q.1 < listed.size <;> simp [hlt]
        · rw [getD_set_ne true e]; exact (hS q hq).2.1
      intro q hq
      unfold watchAll at hq
      rcases List.mem_append.1 hq with hq | hq
      · obtain ⟨id, _, rfl⟩ := List.mem_map.1 hq
        refine ⟨(Array.getElem?_eq_some_iff.1 ho').1, ?_, hrd⟩
        by_cases hlt : i < listed.size <;> simp [hlt]
      · exact old q hq
    refine tree_first (S2 := watchAll i ids S) (C := fun h' => ∀ id ∈ ids, h'.ob id = h.ob id) ho' (fun p hp => ?_) (fun oj hnp h1 h2 hc hkeep id hid => ?_) n listed t h (Region.free_spec ho' hf) hr hqt (fun _ _ => rfl) (walk_treeR n p _ _ _ h hp hS' hk')
    · exact List.mem_append_right _ hp
    · rw [← hc id hid]
      exact hkeep (i, id) (List.mem_append_left _ (List.mem_map.2 ⟨id, hid, rfl⟩)) hnp
  | n + 1, .a i fl p, listed, S, t, h, hp, hS, hw => by
    simp only [planR, Bool.and_eq_true, beq_iff_eq] at hp
    obtain ⟨⟨hr, hl⟩, hp⟩ := hp
    refine ⟨fun e => (by rw [e] at hr; cases hr), fun j hj oj hoj => ?_⟩
    have hjr := hj
    rw [hr] at hj
    obtain rfl : j = i := by simpa using hj
    obtain ⟨o, ho, hk⟩ := opAt_some hw
    have ho' : ops[j]? = some o := by simpa using ho
    obtain rfl : oj = o := by rw [hoj] at ho'; exact Option.some.inj ho'
    have hun := (mem_ready.1 hjr).1
    refine q1_mono (a1_q1 (one_a1 hk)) (fun t' h' q => ⟨?_, walk_treeR n p _ S t' h' hp (fun q hq => ⟨(hS q hq).1, ?_, (hS q hq).2.2⟩) q.2⟩)
    · cases fl with
      | true =>
        refine lastR_keep hoj (by simpa using hl) S (fun p hp => ⟨(hS p hp).1, (fun e => ?_), (hS p hp).2.2⟩) h h'
        have := (hS p hp).2.1
        rw [e, hun] at this; cases this
      | false => exact fun p hp _ => allKept_mem (by simpa using q.1) p hp
    · by_cases e : j = q.1
      · subst e
        by_cases hlt : q.1 < listed.size <;> simp [hlt]
      · rw [getD_set_ne true e]; exact (hS q hq).2.1
  | n + 1, .b i p j p', listed, S, t, h, hp, hS, hw => by
    simp only [planR, Bool.and_eq_true, beq_iff_eq] at hp
    obtain ⟨⟨hr, hp1⟩, hp2⟩ := hp
    have side : ∀ (k : Nat) (q : Plan), planR ops n q (listed.setIfInBounds k true) = true → (opAt ops.toList k fun o => aops P (dsOf ops) [o] t h fun t' h' => allKept S h h' ∧ walk P ops.toList (dsOf ops) q S t' h' Q) →
        ∀ o, ops[k]? = some o → q1 P (dsOf ops) o t h fun t' h' => keepS S o h h' ∧ tree P ops S Q n (listed.setIfInBounds k true) t' h' := by
      intro k q hq hk o ho
      obtain ⟨o', ho', hk⟩ := opAt_some hk
      have ho' : ops[k]? = some o' := by simpa using ho'
      obtain rfl : o = o' := by rw [ho] at ho'; exact Option.some.inj ho'
      refine q1_mono (a1_q1 (one_a1 hk)) (fun t' h' x => ⟨fun p hp _ => allKept_mem x.1 p hp, walk_treeR n q _ S t' h' hq (fun y hy => ⟨(hS y hy).1, ?_, (hS y hy).2.2⟩) x.2⟩)
      by_cases e : k = y.1
      · subst e
        by_cases hlt : y.1 < listed.size <;> simp [hlt]
      · rw [getD_set_ne true e]; exact (hS y hy).2.1
    refine ⟨fun e => (by rw [e] at hr; cases hr), fun k hk o ho => ?_⟩
    rw [hr] at hk
    simp only [List.mem_cons, List.not_mem_nil, or_false] at hk
    rcases hk with rfl | rfl
    · exact side _ p hp1 hw.1 o ho
    · exact side _ p' hp2 hw.2 o ho

/-- A region that draws its order: one walk by a plan. -/
theorem WC.drawR {id : Nat} {l : List Oper} {t : List Value} {Q : Exit → List Value → AH → Prop} (hm : P.follows .mixedOrders = true) (hok : codeOK P.globals.size (.region id l.toArray true) = true) (p : Plan)
    (hp : planR l.toArray l.toArray.size p (Array.replicate l.toArray.size false) = true) (hw : walk P l (dsts l) p [] t h (Q .normal)) : WC P (.region id l.toArray true) Q t h := by
  intro FB w0 μ a w Q' s ht hd hq
  have s' := s.drew
  refine wp_region_any hm (tree_sound (codeOK_ops hok) l.toArray.size _ t h μ a _ (walk_treeR l.toArray.size p _ [] t h hp (fun q hq => by cases hq) hw) s' ht hd (fun t' h' μ' a' w' q p' => hq .normal t' h' μ' a' w' q ⟨p'.sim, p'.ext, p'.unt⟩))
end Go.Sim
/- Patterns: what a reader's steps leave. Conditions: those that each theorem names. -/
set_option linter.unusedSimpArgs false
set_option linter.unusedVariables false
namespace Go.Sim
variable {P : Program} {h : AH} {C : Nat → Bool → Value → List Value} {s : ByteArray} {n0 p k : Nat} {out : List Pc}
theorem Rg.pre {h' : AH} (G : Rg C s n0 p h k out) (q : Pre h h') : Rg C s n0 p h' k out := by
  obtain ⟨v, L, e, w, hL⟩ := G.ex
  exact ⟨Nat.lt_of_lt_of_le G.lt q.n, G.le, G.hi, v, L, (q.ob p G.lt).trans e, w.keep q.n (fun i hi _ => q.ob i hi), hL⟩
theorem Rb.pre {h' : AH} {m : Nat} (G : Rb C s n0 p h m) (q : Pre h h') : Rb C s n0 p h' m := by
  obtain ⟨k, v, cs, j, a, b, c, d, e, f⟩ := G.ex
  exact ⟨Nat.lt_of_lt_of_le G.lt q.n, G.le, k, v, cs, j, a, (q.ob p G.lt).trans b, c.pre q, d, e, f⟩
theorem Rg.at {v : Value} {L : List (Pc × Value)} {k' : Nat} (hp : p < h.n) (hn : n0 ≤ p) (w : Pcs n0 p h v L) (hk : k' ≤ s.size) : Rg C s n0 p (h.set p (.cells (C k' false v) .solo p)) k' (L.map Prod.fst) :=
  ⟨hp, hn, hk, v, L, set_same _ _, w.keep (Nat.le_refl _) (fun i _ hi => set_ne _ hi), rfl⟩
theorem Rb.at {v : Value} {cs : List Value} {j m k' : Nat} (hp : p < h.n) (hn : n0 ≤ p) (g : Gr n0 h v 3 cs) (hc : cs.length = j * 3) (hj : j ≤ m) (vp : ∀ i, atBlock v i → i ≠ p) (hk : k' ≤ s.size) : Rb C s n0 p (h.set p (.cells (C k' true v) .solo p)) m :=
  ⟨hp, hn, k', v, cs, j, hk, set_same _ _, g.keep (Nat.le_refl _) (fun i hi => set_ne _ (vp i hi)), hc, hj, vp⟩
theorem flatP_len (L : List (Pc × Value)) : (L.map encP).flatten.length = L.length * 3 := flat_len (k := 3) L (fun _ => rfl)
theorem Rb.atP {v : Value} {L : List (Pc × Value)} {m k' : Nat} (hp : p < h.n) (hn : n0 ≤ p) (w : Pcs n0 p h v L) (hj : L.length ≤ m) (hk : k' ≤ s.size) : Rb C s n0 p (h.set p (.cells (C k' true v) .solo p)) m :=
  Rb.at hp hn w.gr (flatP_len L) hj w.vp hk
theorem Put.fr {h' : AH} {v v' kv : Value} {cs : List Value} {op : Nat} {text : ByteArray} {kids : List Nat} (q : Put n0 p h h' v v' kv cs op text kids) (hp : p < h.n) (hn : n0 ≤ p) (g : Gr n0 h v 3 cs) : Fr n0 h h' :=
  ⟨q.n, fun i hi => q.ob i (by omega) (by omega) (g.not_low hi)⟩
theorem Put.good {h' : AH} {v v' kv : Value} {L : List (Pc × Value)} {op : Nat} {text : ByteArray} {kids : List Nat} (q : Put n0 p h h' v v' kv (L.map encP).flatten op text kids) (hp : p < h.n) (hn : n0 ≤ p) (hk : k ≤ s.size) (w : Pcs n0 p h v L) (e : h'.ob p = .cells (C k false v') .solo p) :
    Rg C s n0 p h' k (L.map Prod.fst ++ [⟨op, text, kids⟩]) :=
  ⟨Nat.lt_of_lt_of_le hp q.n, hn, hk, v', _, e, w.put hp q, by simp⟩
theorem Put.bad {h' : AH} {v v' kv : Value} {cs : List Value} {j m : Nat} {op : Nat} {text : ByteArray} {kids : List Nat} (q : Put n0 p h h' v v' kv cs op text kids) (hp : p < h.n) (hn : n0 ≤ p) (hk : k ≤ s.size) (hc : cs.length = j * 3) (hj : j ≤ m) (e : h'.ob p = .cells (C k true v') .solo p) :
    Rb C s n0 p h' (m + 1) :=
  ⟨Nat.lt_of_lt_of_le hp q.n, hn, k, v', _, j + 1, hk, e, q.gr, by simp; omega, by omega, fun i hi => by have := q.new i hi; omega⟩
theorem Rg.cell {X : Prop} (G : Rg C s n0 p h k out) (f : ∀ v L, h.ob p = .cells (C k false v) .solo p → Pcs n0 p h v L → L.map Prod.fst = out → L.length = out.length → X) : X := by
  obtain ⟨v, L, e, w, hL⟩ := G.ex
  exact f v L e w hL (by rw [← hL]; simp)
theorem Rb.cell {X : Prop} {m : Nat} (G : Rb C s n0 p h m) (f : ∀ k v cs j, k ≤ s.size → h.ob p = .cells (C k true v) .solo p → Gr n0 h v 3 cs → cs.length = j * 3 → j ≤ m → (∀ i, atBlock v i → i ≠ p) → X) : X := by
  obtain ⟨k, v, cs, j, a, b, c, d, e, g⟩ := G.ex
  exact f k v cs j a b c d e g
theorem Ro.cases {X : Prop} {m : Nat} {res : PRes} {y : Value} {h' : AH} (R : Ro C s n0 p h m res y h') (good : ∀ k' o' (r : Nat), res = some (k', o', r) → y = .int .i64 (r : Nat) → Fr n0 h h' → Rg C s n0 p h' k' o' → X) (bad : res = none → ∀ r : Nat, y = .int .i64 (r : Nat) → Fr n0 h h' → Rb C s n0 p h' m → X) : X := by
  obtain ⟨f, ⟨k', o', r, a, b, c⟩ | ⟨a, ⟨r, b⟩, c⟩⟩ := R
  · exact good k' o' r a b f c
  · exact bad a r b f c
theorem Ro.some {m : Nat} {h' : AH} {k' : Nat} {o' : List Pc} {r : Nat} (f : Fr n0 h h') (g : Rg C s n0 p h' k' o') : Ro C s n0 p h m (some (k', o', r)) (.int .i64 (r : Nat)) h' := ⟨f, .inl ⟨_, _, _, rfl, rfl, g⟩⟩
theorem Ro.none {m : Nat} {h' : AH} {r : Nat} (f : Fr n0 h h') (g : Rb C s n0 p h' m) : Ro C s n0 p h m none (.int .i64 (r : Nat)) h' := ⟨f, .inr ⟨rfl, ⟨_, rfl⟩, g⟩⟩
theorem Ro.from {m m' : Nat} {h1 h' : AH} {res : PRes} {y : Value} (f : Fr n0 h h1) (R : Ro C s n0 p h1 m' res y h') (hm : m' ≤ m) : Ro C s n0 p h m res y h' :=
  R.cases (fun k' o' r a b c d => ⟨f.trans c, .inl ⟨k', o', r, a, b, d⟩⟩) (fun a r b c d => ⟨f.trans c, .inr ⟨a, ⟨r, b⟩, d.mono hm⟩⟩)
/-- Kids, laid down. -/
theorem RdV.lit (l : List Nat) (c : Nat) : RdV (h.alloc (.cells (l.map encNa).flatten .solo h.n)) (.slice (some ⟨h.n, 0, none⟩) l.length c) 1 encNa l := by
  have o : Own (h.alloc (.cells (l.map encNa).flatten .solo h.n)) h.n 0 l.length 1 (l.map encNa).flatten := Own.new _ _ _ (flat_len (k := 1) l (fun _ => rfl))
  exact .inr ⟨_, _, _, rfl, o.rdAll, o.lt⟩
/-- A pattern's pieces, read. -/
structure RdPat (h : AH) (v : Value) (L : List (Pc × Value)) : Prop where
  r : RdV h v 3 encP L
  kids : ∀ x ∈ L, RdV h x.2 1 encNa x.1.kids
theorem RdPat.pre {h' : AH} {v : Value} {L : List (Pc × Value)} (w : RdPat h v L) (q : Pre h h') : RdPat h' v L := ⟨w.r.pre q, fun x hx => (w.kids x hx).pre q⟩
theorem Pcs.pat {v : Value} {L : List (Pc × Value)} (w : Pcs n0 p h v L) : RdPat h v L := ⟨w.gr.rdv (by decide) encP_len, w.kids⟩
theorem brk_no (b : Nat) (hb : b ≤ s.size) (hn : ∀ i, b ≤ i → i < s.size → (byteAt s i).toNat ≠ 93) : brk s b = s.size := by
  induction e : s.size - b generalizing b with
  | zero => rw [brk, if_neg (by omega)]
  | succ n ih => rw [brk, if_pos (by omega), if_neg (hn b (by omega) (by omega))]; exact ih (b + 1) (by omega) (fun i h1 h2 => hn i (by omega) h2) (by omega)
theorem brk_yes (b e : Nat) (hb : b ≤ e) (he : e < s.size) (h93 : (byteAt s e).toNat = 93) (hn : ∀ i, b ≤ i → i < e → (byteAt s i).toNat ≠ 93) : brk s b = e := by
  induction ee : e - b generalizing b with
  | zero => rw [brk, if_pos (by omega), if_pos (by rw [show b = e by omega]; exact h93)]; omega
  | succ n ih => rw [brk, if_pos (by omega), if_neg (hn b (by omega) (by omega))]; exact ih (b + 1) (by omega) (fun i h1 h2 => hn i (by omega) h2) (by omega)
end Go.Sim
namespace Go.Sim
variable {P : Program} {h : AH}
@[congr] theorem acopy_congr {tk : Prop} (_ : tick = tk) {h h2 : AH} {t t2 : TypeId} {x x2 y y2 : Value} {K : Value → AH → Prop} (eh : h = h2) (et : t = t2) (ex : x = x2) (ey : y = y2) : acopy P h t x y K = acopy P h2 t2 x2 y2 K := by subst eh; subst et; subst ex; subst ey; rfl
theorem abuiltin_copy (t u : TypeId) (x y : Value) (K : Value → AH → Prop) : abuiltin P h .copy [t, u] [x, y] K = acopy P h t x y K := rfl
theorem acopy_sl (t : TypeId) (id off n k id2 off2 m k2 : Nat) (K : Value → AH → Prop) : acopy P h t (.slice (some ⟨id, off, none⟩) n k) (.slice (some ⟨id2, off2, none⟩) m k2) K =
    onS (si P t) fun p => p.2.size = 1 ∧ 0 < n ∧ 0 < m ∧ onS (rd h id2 off2 (Nat.min m n)) fun vs => onS (wr h id off vs) fun h' => K (.int .i64 (Nat.min m n : Nat)) h' := by
  unfold acopy onS
  cases si P t with
  | none => rfl
  | some p =>
    obtain ⟨e, i⟩ := p
    simp only
    cases rd h id2 off2 (Nat.min m n) with
    | none => rfl
    | some vs => dsimp only; cases wr h id off vs <;> rfl
attribute [push_cast] abuiltin_copy acopy_sl
end Go.Sim
/- Decoding at bytes above 127; strings.IndexRune and strings.IndexAny there. Conditions: those that each theorem names. -/
namespace Go.Proofs
open Go Go.Shelf Go.RowKit Go.Lib
set_option linter.unusedVariables false
set_option linter.unusedSimpArgs false
set_option maxRecDepth 100000
theorem get_at (s : ByteArray) (i : Nat) (h : i < s.size) : s.get! i = s[i]'h := by
  simp [ByteArray.get!, getElem!_pos, h]
  rfl
def dec (b0 b1 b2 b3 : Nat) (c1 c2 c3 : Bool) : Nat × Nat :=
  if b0 < 0x80 then (b0, 1)
  else if b0 / 32 == 6 && c1 then (if (b0 % 32) * 64 + b1 % 64 ≥ 0x80 then ((b0 % 32) * 64 + b1 % 64, 2) else (Utf8.runeError, 1))
  else if b0 / 16 == 14 && c1 && c2 then (if (b0 % 16) * 4096 + (b1 % 64) * 64 + b2 % 64 ≥ 0x800 && Utf8.valid ((b0 % 16) * 4096 + (b1 % 64) * 64 + b2 % 64 : Nat) then ((b0 % 16) * 4096 + (b1 % 64) * 64 + b2 % 64, 3) else (Utf8.runeError, 1))
  else if b0 / 8 == 30 && c1 && c2 && c3 then (if (b0 % 8) * 262144 + (b1 % 64) * 4096 + (b2 % 64) * 64 + b3 % 64 ≥ 0x10000 && Utf8.valid ((b0 % 8) * 262144 + (b1 % 64) * 4096 + (b2 % 64) * 64 + b3 % 64 : Nat) then ((b0 % 8) * 262144 + (b1 % 64) * 4096 + (b2 % 64) * 64 + b3 % 64, 4) else (Utf8.runeError, 1))
  else (Utf8.runeError, 1)
theorem decode_dec (s : ByteArray) (i : Nat) : Utf8.decode s i = dec (s.get! (i + 0)).toNat (s.get! (i + 1)).toNat (s.get! (i + 2)).toNat (s.get! (i + 3)).toNat (decide (i + 1 < s.size) && (s.get! (i + 1)).toNat / 64 == 2) (decide (i + 2 < s.size) && (s.get! (i + 2)).toNat / 64 == 2) (decide (i + 3 < s.size) && (s.get! (i + 3)).toNat / 64 == 2) := rfl
theorem dec_cases (b0 b1 b2 b3 : Nat) (c1 c2 c3 : Bool) (h : 128 ≤ b0) : ∃ r k, dec b0 b1 b2 b3 c1 c2 c3 = (r, k) ∧ 128 ≤ r ∧ r < 2147483648 ∧ 1 ≤ k ∧ k ≤ 4 ∧ (2 ≤ k → c1 = true) ∧ (3 ≤ k → c2 = true) ∧ (4 ≤ k → c3 = true) := by
  have m1 : b1 % 64 < 64 := Nat.mod_lt _ (by omega)
  have m2 : b2 % 64 < 64 := Nat.mod_lt _ (by omega)
  have m3 : b3 % 64 < 64 := Nat.mod_lt _ (by omega)
  have e : Utf8.runeError = 65533 := rfl
  have bad : ∃ r k, (Utf8.runeError, 1) = (r, k) ∧ 128 ≤ r ∧ r < 2147483648 ∧ 1 ≤ k ∧ k ≤ 4 ∧ (2 ≤ k → c1 = true) ∧ (3 ≤ k → c2 = true) ∧ (4 ≤ k → c3 = true) := ⟨_, _, rfl, by omega, by omega, by omega, by omega, fun x => by omega, fun x => by omega, fun x => by omega⟩
  unfold dec
  rw [if_neg (by omega)]
  split
  · rename_i c
    simp only [Bool.and_eq_true, beq_iff_eq] at c
    split
    · exact ⟨_, _, rfl, by omega, by omega, by omega, by omega, fun _ => c.2, fun x => by omega, fun x => by omega⟩
    · exact bad
  split
  · rename_i c
    simp only [Bool.and_eq_true, beq_iff_eq] at c
    split
    · rename_i d
      simp only [ge_iff_le, Bool.and_eq_true, decide_eq_true_eq] at d
      exact ⟨_, _, rfl, by omega, by omega, by omega, by omega, fun _ => c.1.2, fun _ => c.2, fun x => by omega⟩
    · exact bad
  split
  · rename_i c
    simp only [Bool.and_eq_true, beq_iff_eq] at c
    split
    · rename_i d
      simp only [ge_iff_le, Bool.and_eq_true, decide_eq_true_eq] at d
      exact ⟨_, _, rfl, by omega, by omega, by omega, by omega, fun _ => c.1.1.2, fun _ => c.1.2, fun _ => c.2⟩
    · exact bad
  · exact bad
theorem dec_hi (s : ByteArray) (pos : Nat) (h : pos < s.size) (ha : 128 ≤ (s[pos]'h).toNat) :
    ∃ r k, Utf8.decode s pos = (r, k) ∧ 128 ≤ r ∧ r < 2147483648 ∧ 1 ≤ k ∧ pos + k ≤ s.size ∧ ∀ j, j < k → ∀ b, s.data.toList[pos + j]? = some b → 128 ≤ b.toNat := by
  have e0 : (s.get! (pos + 0)).toNat = (s[pos]'h).toNat := by rw [Nat.add_zero, get_at s pos h]
  have hb : ∀ j b, s.data.toList[pos + j]? = some b → b.toNat = (s.get! (pos + j)).toNat := fun j b hj => by
    have hl : pos + j < s.size := by
      have := (List.getElem?_eq_some_iff.1 hj).1
      rw [Lib.size_eq]; exact this
    have := Lib.data_getElem? s (pos + j) hl
    rw [this] at hj
    rw [get_at s (pos + j) hl, Option.some.inj hj]
  have hcont : ∀ k, (decide (pos + k < s.size) && (s.get! (pos + k)).toNat / 64 == 2) = true → pos + k < s.size ∧ 128 ≤ (s.get! (pos + k)).toNat := fun k e => by
    simp only [Bool.and_eq_true, decide_eq_true_eq, beq_iff_eq] at e
    omega
  obtain ⟨r, k, e, h1, h2, h3, h4, k1, k2, k3⟩ := dec_cases (s.get! (pos + 0)).toNat (s.get! (pos + 1)).toNat (s.get! (pos + 2)).toNat (s.get! (pos + 3)).toNat (decide (pos + 1 < s.size) && (s.get! (pos + 1)).toNat / 64 == 2) (decide (pos + 2 < s.size) && (s.get! (pos + 2)).toNat / 64 == 2) (decide (pos + 3 < s.size) && (s.get! (pos + 3)).toNat / 64 == 2) (by rw [e0]; exact ha)
  have g1 := fun x => hcont 1 (k1 x)
  have g2 := fun x => hcont 2 (k2 x)
  have g3 := fun x => hcont 3 (k3 x)
  refine ⟨r, k, by rw [decode_dec]; exact e, h1, h2, h3, ?_, fun j hj b hjb => ?_⟩
  · rcases (show k = 1 ∨ k = 2 ∨ k = 3 ∨ k = 4 by omega) with rfl | rfl | rfl | rfl
    · omega
    · have := g1 (by omega); omega
    · have := g2 (by omega); omega
    · have := g3 (by omega); omega
  · rw [hb j b hjb]
    rcases (show j = 0 ∨ j = 1 ∨ j = 2 ∨ j = 3 by omega) with rfl | rfl | rfl | rfl
    · rw [e0]; exact ha
    · exact (g1 (by omega)).2
    · exact (g2 (by omega)).2
    · exact (g3 (by omega)).2
/-- A world with an iterator over s at block n. -/
theorem run_next_at {P : Program} (w : World) (n : Nat) (s : ByteArray) (pos : Nat) (ty : TypeId) (hw : w.heap[n]? = some (.stringIter s pos)) (h : pos < s.size) :
    (Instr.next (.pointer (some ⟨n, 0, none⟩)) true ty).run P w = .ok (.tuple #[.bool true, .int .i64 pos, .int .i32 (Utf8.decode s pos).1]) { w with heap := w.heap.setIfInBounds n (.stringIter s (pos + (Utf8.decode s pos).2)) } := by
  have hn : n < w.heap.size := (Array.getElem?_eq_some_iff.1 hw).1
  simp only [Instr.next, getObj, setObj, Sem.run_bind, Sem.run, hw, Result.andThen, h, if_true]
  simp [goInt, Sem.run, hw]
theorem run_next_over {P : Program} (w : World) (n : Nat) (s : ByteArray) (pos : Nat) (ty : TypeId) (hw : w.heap[n]? = some (.stringIter s pos)) (h : ¬ pos < s.size) :
    (Instr.next (.pointer (some ⟨n, 0, none⟩)) true ty).run P w = .ok (.tuple #[.bool false]) w := by
  simp [Instr.next, getObj, Sem.run, hw, h]
end Go.Proofs
/- strings.IndexRune at a rune above 127 in two ASCII bytes. Conditions: those that each theorem names. -/
namespace Go.Proofs
open Go Go.Shelf Go.RowKit Go.Lib
set_option linter.unusedVariables false
set_option linter.unusedSimpArgs false
variable {P : Program} {ρ : Ren}
def encB (c : Nat) : ByteArray :=
  if c < 0x80 then ⟨#[UInt8.ofNat c]⟩
  else if c < 0x800 then ⟨#[UInt8.ofNat (0xC0 + c / 64), UInt8.ofNat (0x80 + c % 64)]⟩
  else if c < 0x10000 then ⟨#[UInt8.ofNat (0xE0 + c / 4096), UInt8.ofNat (0x80 + c / 64 % 64), UInt8.ofNat (0x80 + c % 64)]⟩
  else ⟨#[UInt8.ofNat (0xF0 + c / 262144), UInt8.ofNat (0x80 + c / 4096 % 64), UInt8.ofNat (0x80 + c / 64 % 64), UInt8.ofNat (0x80 + c % 64)]⟩
theorem encode_encB (r : Int) : Utf8.encode r = encB (if Utf8.valid r then r.toNat else Utf8.runeError) := rfl
theorem ofNat_hi {n : Nat} (h : 128 ≤ n) (h2 : n < 256) : 128 ≤ (UInt8.ofNat n).toNat := by
  rw [UInt8.toNat_ofNat']; omega
theorem encB_hi (c : Nat) (h : 128 ≤ c) (h2 : c ≤ 1114111) : ((encB c).size = 2 ∧ ∃ a b, encB c = ⟨#[a, b]⟩ ∧ 128 ≤ b.toNat) ∨ (encB c).size = 3 ∨ (encB c).size = 4 := by
  unfold encB
  rw [if_neg (by omega)]
  split
  · exact .inl ⟨rfl, _, _, rfl, ofNat_hi (by omega) (by have : c % 64 < 64 := Nat.mod_lt _ (by omega); omega)⟩
  split
  · exact .inr (.inl rfl)
  · exact .inr (.inr rfl)
theorem enc_hi (r : Int) (h : 128 ≤ r) : ((Utf8.encode r).size = 2 ∧ ∃ a b, Utf8.encode r = ⟨#[a, b]⟩ ∧ 128 ≤ b.toNat) ∨ (Utf8.encode r).size = 3 ∨ (Utf8.encode r).size = 4 := by
  rw [encode_encB]
  have e : Utf8.runeError = 65533 := rfl
  split
  · rename_i hv
    simp only [Utf8.valid, Bool.or_eq_true, Bool.and_eq_true, decide_eq_true_eq] at hv
    exact encB_hi _ (by omega) (by omega)
  · exact encB_hi _ (by omega) (by omega)
theorem below_drew (w : World) : Below w.heap.size w w.drew.drew := ⟨rfl, rfl, rfl, Nat.le_refl _, fun _ _ => rfl⟩
set_option maxHeartbeats 8000000 in
set_option maxRecDepth 1000000 in
theorem Any.IndexRune_hi (L : Lays.n152 P ρ) (s : ByteArray) (r : Int) (w : World) (h0 : 128 ≤ r) (h1 : r < 2147483648) (hs : s.size = 2) (ha : ∀ j (hj : j < s.size), (s[j]'hj).toNat < 128) :
    Calls P (ρ.f 152) #[.string s, .int .i32 r] w fun e w' => e = .returned (.int .i64 (-1)) ∧ Below w.heap.size w w' := by
  have mixed := L.mixed
  have t3 := L.t3; have a3 := L.a3; have z3 := L.z3; have v3 := L.v3
  have t4 := L.t4; have a4 := L.a4; have z4 := L.z4; have v4 := L.v4
  have t5 := L.t5; have a5 := L.a5; have z5 := L.z5; have v5 := L.v5
  have t9 := L.t9; have a9 := L.a9; have z9 := L.z9; have v9 := L.v9
  have t21 := L.t21; have a21 := L.a21; have z21 := L.z21; have v21 := L.v21
  have t46 := L.t46; have a46 := L.a46; have z46 := L.z46; have v46 := L.v46
  have e119 : ∀ args w, (callFunc (ρ.f 119) args).run P w = .ok (.enter (ρ.f 119) args) w := enters_of L.f119 (by kernel_rfl) rfl
  have e137 : ∀ args w, (callFunc (ρ.f 137) args).run P w = .ok (.enter (ρ.f 137) args) w := enters_of L.f137 (by kernel_rfl) rfl
  have hr0 : (0 : Int) ≤ r := by omega
  have hr1 : ¬ (r < 128) := by omega
  by_cases hE : r = 65533
  · subst hE
    have HA : Aside (∀ j (hj : j < s.size), (s[j]'hj).toNat < 128) := ha
    clear ha hs
    go_enter L.f152, Body.n152_ntmps ρ
    go_wp2
    go_loopg [5, 6] s.size (fun g _ _ wx => ∃ i : Nat, i + g = s.size ∧ wx = w.iter s i)
    case atStart => exact ⟨0, by omega, rfl⟩
    case round =>
      obtain ⟨i, hig, rfl⟩ := hrel
      cases gk with
      | zero =>
        obtain rfl : i = s.size := by omega
        have hnx := run_next_end (P := P) w s s.size
        go_wp2
        go_ret
        exact ⟨rfl, (Below.refl _ _).alloc (Nat.le_refl _) _⟩
      | succ g =>
        have hi : i < s.size := by omega
        have hx := HA.out i hi
        have hnx := fun ty => run_next_ascii (P := P) w s i ty hi hx
        obtain ⟨x, hx2⟩ : ∃ x : UInt8, s[i]'hi = x := ⟨_, rfl⟩
        rw [hx2] at hnx hx
        have hne : ((x.toNat : Int) == 65533) = false := by
          rw [beq_eq_false_iff_ne]; omega
        go_wp2
        go_roundg g
        case measure => omega
        case rel => exact ⟨i + 1, by omega, rfl⟩
  have hE' : (r == 65533) = false := by simpa using hE
  have HA : Aside (∀ j (hj : j < s.size), (s[j]'hj).toNat < 128) := ha
  have HS : Aside (s.size = 2) := hs
  clear ha hs
  rcases enc_hi r h0 with ⟨e2, a, b, eab, hb⟩ | en | en
  · rw [eab] at e2
    go_enter L.f152, Body.n152_ntmps ρ
    go_wp2_with (go_at_fn (ρ.f 119); refine (Any.utf8_ValidRune { L with } _ _).mono ?_; rintro e w' ⟨rfl, hw⟩; rw [hw])
    · go_ret
      exact ⟨rfl, hw ▸ Below.refl _ _⟩
    subst hw
    go_step3
    go_wp2
    have hs1 : 1 < s.size := by rw [HS.out]; decide
    obtain ⟨x, hx⟩ : ∃ x : UInt8, s[1]'hs1 = x := ⟨_, rfl⟩
    have hx1 : x.toNat < 128 := by rw [← hx]; exact HA.out 1 hs1
    have hne : ((x.toNat : Int) != (b.toNat : Int)) = true := by
      rw [bne_iff_ne]; omega
    have hz1 : (1 : Int) < (s.size : Int) := by omega
    have hz2 : 0 ≤ IntKind.i64.wrap 2 ∧ IntKind.i64.wrap 2 ≤ (s.size : Int) := by rw [HS.out]; decide
    have hix : ∀ c, Lib.indexByte (List.take (s.size - 2) (List.drop 2 s.data.toList)) c = -1 := fun c => by rw [HS.out]; rfl
    have hz3 : (IntKind.i64.wrap 2).toNat = 2 := by decide
    go_loopg [9, 10, 11, 12] 1 (fun g s9 s10 s11 s12 wx => s9 = .int .i64 1 ∧ wx = w')
    case atStart => exact ⟨rfl, rfl⟩
    case round =>
      obtain ⟨rfl, rfl⟩ := hrel
      go_wp2
      go_step3
      go_wp2_with (go_at_fn (ρ.f 137); refine (Any.strings_IndexByte { L with } _ _ _).mono ?_; rintro e w' ⟨rfl, hw⟩; rw [hw])
      go_region_o
      rw [show (⟨#[a, b]⟩ : ByteArray)[1] = b from rfl, hne]
      go_wp2_with fail
      go_region_with_o (go_at_fn (ρ.f 137); refine (Any.strings_IndexByte { L with } _ _ _).mono ?_; rintro e w' ⟨rfl, hw⟩; rw [hw])
      go_wp2
      simp only [Exit.noGoto, Exit.inBlock, Exit.then]
      go_ret
      exact ⟨rfl, below_drew _⟩
  all_goals
    obtain ⟨m, hm, hm2⟩ : ∃ m : Int, (((Utf8.encode r).size : Int) - 1) = m ∧ (2 : Int) ≤ m := ⟨_, rfl, by rw [en]; decide⟩
    have hw1 : IntKind.i64.wrap (((Utf8.encode r).size : Int) - 1) = m := by rw [← hm, en]; decide
    have hlt : ¬ (m < (s.size : Int)) := by rw [HS.out]; omega
    clear hm en
    go_enter L.f152, Body.n152_ntmps ρ
    go_wp2_with (go_at_fn (ρ.f 119); refine (Any.utf8_ValidRune { L with } _ _).mono ?_; rintro e w' ⟨rfl, hw⟩; rw [hw])
    · go_ret
      exact ⟨rfl, hw ▸ Below.refl _ _⟩
    subst hw
    go_step3
    go_wp2
    go_loopg [9, 10, 11, 12] 1 (fun g s9 s10 s11 s12 wx => s9 = .int .i64 m ∧ wx = w')
    case atStart => exact ⟨rfl, rfl⟩
    case round =>
      obtain ⟨rfl, rfl⟩ := hrel
      go_wp2
      simp only [Exit.noGoto, Exit.inBlock, Exit.then]
      go_ret
      exact ⟨rfl, Below.refl _ _⟩
end Go.Proofs
/- strings.IndexAny and ContainsAny at whatever text and two ASCII bytes. Conditions: those that each theorem names. -/
namespace Go.Proofs
open Go Go.Shelf Go.RowKit Go.Lib
set_option linter.unusedVariables false
set_option linter.unusedSimpArgs false
variable {P : Program} {ρ : Ren}
theorem NoAny.hi {s chars : List UInt8} {i k : Nat} (h : Lib.NoAny s chars i) (hs : ∀ j, j < k → ∀ b, s[i + j]? = some b → 128 ≤ b.toNat) (hc : ∀ b ∈ chars, b.toNat < 128) : Lib.NoAny s chars (i + k) := fun j b hj hb => by
  by_cases hlt : j < i
  · exact h j b hlt hb
  · have h2 := hs (j - i) (by omega) b (by rw [show i + (j - i) = j by omega]; exact hb)
    cases hcc : chars.contains b with
    | false => rfl
    | true => have := hc b (by simpa using hcc); omega
theorem set_iter {n : Nat} {w wx : World} {o : Obj} (hb : Below n w wx) (hn : n < wx.heap.size) : Below n w { wx with heap := wx.heap.setIfInBounds n o } ∧ ({ wx with heap := wx.heap.setIfInBounds n o } : World).heap[n]? = some o ∧ n < ({ wx with heap := wx.heap.setIfInBounds n o } : World).heap.size := by
  refine ⟨⟨hb.os, hb.tape, hb.output, by simpa using hb.size, fun k hk => ?_⟩, by simp [hn], by simpa using hn⟩
  show (wx.heap.setIfInBounds n o)[k]? = _
  rw [Array.getElem?_setIfInBounds_ne (by omega)]
  exact hb.block k hk
set_option maxHeartbeats 8000000 in
set_option maxRecDepth 1000000 in
theorem Any.IndexAny_short2 (L : Lays.n153 P ρ) (s chars : ByteArray) (w : World) (h2 : chars.size = 2) (h8 : s.size ≤ 8) (hca : ∀ j (hj : j < chars.size), (chars[j]'hj).toNat < 128) (hcl : ∀ b ∈ chars.data.toList, b.toNat < 128) :
    Calls P (ρ.f 153) #[.string s, .string chars] w fun e w' => e = .returned (.int .i64 (Lib.indexAny s.data.toList chars.data.toList)) ∧ Below w.heap.size w w' := by
  have HA : Aside (∀ j (hj : j < chars.size), (chars[j]'hj).toNat < 128) := hca
  have HL : Aside (∀ b ∈ chars.data.toList, b.toNat < 128) := hcl
  have H2 : Aside (chars.size = 2) := h2
  have hemp : chars.toList.isEmpty = false := by
    rw [Lib.toList_data]
    cases h : chars.data.toList with
    | nil => have := Lib.size_eq chars; rw [h, List.length_nil] at this; omega
    | cons _ _ => rfl
  have hn1 : ((chars.size : Int) == 1) = false := beq_eq_false_iff_ne.2 (by omega)
  have h8z : decide ((8 : Int) < (s.size : Int)) = false := decide_eq_false (by omega)
  clear hca hcl h2
  have t3 := L.t3; have a3 := L.a3; have z3 := L.z3; have v3 := L.v3
  have t4 := L.t4; have a4 := L.a4; have z4 := L.z4; have v4 := L.v4
  have t5 := L.t5; have a5 := L.a5; have z5 := L.z5; have v5 := L.v5
  have t9 := L.t9; have a9 := L.a9; have z9 := L.z9; have v9 := L.v9
  have t21 := L.t21; have a21 := L.a21; have z21 := L.z21; have v21 := L.v21
  have e152 : ∀ args w, (callFunc (ρ.f 152) args).run P w = .ok (.enter (ρ.f 152) args) w := enters_of L.f152 (by kernel_rfl) rfl
  have e226 : ∀ args w, (callFunc (ρ.f 226) args).run P w = .ok (.enter (ρ.f 226) args) w := enters_of L.f226 (by kernel_rfl) rfl
  go_enter L.f153, Body.n153_ntmps ρ
  go_wp2_with (go_at_fn (ρ.f 226); refine (Any.strings_shouldUseASCIISet { L with } _ _).mono ?_; rintro e w' ⟨rfl, hw⟩; rw [hw, h8z])
  go_loopg [9, 10] s.size (fun g _ _ wx => ∃ i : Nat, i + g = s.size ∧ wx.heap[w.heap.size]? = some (.stringIter s i) ∧ Below w.heap.size w wx ∧ Lib.NoAny s.data.toList chars.data.toList i)
  case atStart => exact ⟨0, by omega, World.iter_heap w s 0, (Below.refl _ _).alloc (Nat.le_refl _) _, Lib.NoAny.zero _ _⟩
  case round =>
    obtain ⟨i, hig, hit, hbl, hno⟩ := hrel
    have HN : Aside (Lib.NoAny s.data.toList chars.data.toList i) := hno
    have HB : Aside (Below w.heap.size w wr) := hbl
    have HI : Aside (wr.heap[w.heap.size]? = some (.stringIter s i)) := hit
    clear hno hbl
    cases gk with
    | zero =>
      obtain rfl : i = s.size := by omega
      have hnx := fun ty => run_next_over (P := P) wr w.heap.size s s.size ty hit (by omega)
      clear hit
      go_wp2
      go_ret
      exact ⟨by rw [Lib.indexAny_none (by rw [← Lib.size_eq]; exact HN.out)]; rfl, HB.out⟩
    | succ g =>
      have hi : i < s.size := by omega
      have hnx := fun ty => run_next_at (P := P) wr w.heap.size s i ty hit hi
      have hlt : w.heap.size < wr.heap.size := (Array.getElem?_eq_some_iff.1 hit).1
      clear hit
      obtain ⟨x, hx⟩ : ∃ x : UInt8, s[i]'hi = x := ⟨_, rfl⟩
      have hxl : s.data.toList[i]? = some x := by rw [← hx]; exact Lib.data_getElem? s i hi
      by_cases hx128 : x.toNat < 128
      · have hdec := decode_ascii s i hi (by rw [hx]; exact hx128)
        rw [hx] at hdec
        rw [hdec] at hnx
        dsimp only at hnx
        have Hx : Aside (s.data.toList[i]? = some x) := hxl
        have hw3 := set_iter (o := .stringIter s (i + 1)) HB.out hlt
        generalize hwy : ({ wr with heap := wr.heap.setIfInBounds w.heap.size (.stringIter s (i + 1)) } : World) = wy at *
        have HW : Aside (Below w.heap.size w wy ∧ wy.heap[w.heap.size]? = some (.stringIter s (i + 1)) ∧ w.heap.size < wy.heap.size) := hw3
        clear hw3 hwy hxl hx hdec hlt
        have hcon := Lib.contains_iff_indexByte chars.data.toList x
        have hback : ((x.toNat : Int)).toNat.toUInt8 = x := by simp
        cases hin : chars.data.toList.contains x
        · rw [hin] at hcon
          have hlt : ¬ ((0 : Int) ≤ Lib.indexByte chars.data.toList x) := of_decide_eq_false hcon.symm
          clear hcon
          go_wp2_with (go_at_fn (ρ.f 152); refine (Any.strings_IndexRune_ascii { L with } _ _ _ (by omega) (by omega)).mono ?_; rintro e w' ⟨rfl, hw⟩; rw [hw, hback])
          go_roundg g
          case measure => omega
          case rel => exact ⟨i + 1, by omega, HW.out.2.1, HW.out.1, HN.out.succ Hx.out hin⟩
        · rw [hin] at hcon
          have hge : (0 : Int) ≤ Lib.indexByte chars.data.toList x := of_decide_eq_true hcon.symm
          clear hcon
          go_wp2_with (go_at_fn (ρ.f 152); refine (Any.strings_IndexRune_ascii { L with } _ _ _ (by omega) (by omega)).mono ?_; rintro e w' ⟨rfl, hw⟩; rw [hw, hback])
          go_ret
          exact ⟨by rw [Lib.indexAny_hit HN.out Hx.out hin]; rfl, HW.out.1⟩
      · obtain ⟨r, k, hdec, hr1, hr2, hk1, hk2, hk3⟩ := dec_hi s i hi (by rw [hx]; omega)
        rw [hdec] at hnx
        dsimp only at hnx
        have hw3 := set_iter (o := .stringIter s (i + k)) HB.out hlt
        generalize hwy : ({ wr with heap := wr.heap.setIfInBounds w.heap.size (.stringIter s (i + k)) } : World) = wy at *
        have HW : Aside (Below w.heap.size w wy ∧ wy.heap[w.heap.size]? = some (.stringIter s (i + k)) ∧ w.heap.size < wy.heap.size) := hw3
        have HK : Aside (∀ j, j < k → ∀ b, s.data.toList[i + j]? = some b → 128 ≤ b.toNat) := hk3
        clear hw3 hwy hxl hx hdec hlt hk3
        have hm1 : ¬ ((0 : Int) ≤ -1) := by decide
        go_wp2_with (go_at_fn (ρ.f 152); refine (Any.IndexRune_hi { L with } _ _ _ (by omega) (by omega) H2.out HA.out).mono ?_; rintro e w' ⟨rfl, hw⟩; have HX : Aside (Below wy.heap.size wy w') := hw; clear hw)
        go_roundg (s.size - (i + k))
        case measure => omega
        case rel => exact ⟨i + k, by omega, (HX.out.block _ HW.out.2.2).trans HW.out.2.1, HW.out.1.trans (HX.out.mono (Nat.le_of_lt HW.out.2.2)), NoAny.hi HN.out HK.out HL.out⟩
/-- strings.ContainsAny at whatever text and two ASCII bytes. -/
theorem Any.ContainsAny2 (L : Lays.n150 P ρ) (h116 : (P.info? (ρ.t 116)).map (fun i => (i.zero, i.size)) = some (some (.agg (Array.replicate 256 (.bool false))), 256)) (s chars : ByteArray) (w : World) (hs : s.size < 4294967281) (h2 : chars.size = 2) (hca : ∀ j (hj : j < chars.size), (chars[j]'hj).toNat < 128) (hcl : ∀ b ∈ chars.data.toList, b.toNat < 128) :
    Calls P (ρ.f 150) #[.string s, .string chars] w fun e w' => e = .returned (.bool (Lib.containsAny s.data.toList chars.data.toList)) ∧ Below w.heap.size w w' := by
  have c : Calls P (ρ.f 153) #[.string s, .string chars] w fun e w' => e = .returned (.int .i64 (Lib.indexAny s.data.toList chars.data.toList)) ∧ Below w.heap.size w w' := by
    by_cases h8 : s.size ≤ 8
    · exact Any.IndexAny_short2 { L with } s chars w h2 h8 hca hcl
    · refine (Any.strings_IndexAny_long { L with } (zero_of_info h116).1 (zero_of_info h116).2 s chars w (by omega) (by omega) hs (by omega) (fun j b hj => hcl b (List.mem_of_getElem? hj))).mono fun e w' ⟨h1, h2⟩ => ⟨h1, ?_⟩
      rw [h2]
      exact ((Below.refl _ _).alloc (Nat.le_refl _) _).alloc (by simp) _
  have t3 := L.t3; have a3 := L.a3; have z3 := L.z3; have v3 := L.v3
  have t4 := L.t4; have a4 := L.a4; have z4 := L.z4; have v4 := L.v4
  have t9 := L.t9; have a9 := L.a9; have z9 := L.z9; have v9 := L.v9
  have e153 : ∀ args w, (callFunc (ρ.f 153) args).run P w = .ok (.enter (ρ.f 153) args) w := enters_of L.f153 (by kernel_rfl) rfl
  go_enter L.f150, Body.n150_ntmps ρ
  go_wp2_with (go_at_fn (ρ.f 153); refine c.mono ?_; rintro e w' ⟨rfl, hw⟩)
  go_ret
  exact ⟨rfl, hw⟩
end Go.Proofs
/- Contracts of the library, told of the model's worlds: what they say of the abstract heap. Conditions: those that each theorem names. -/
set_option linter.unusedVariables false
set_option linter.unusedSimpArgs false
namespace Go.Sim
open Go.RowKit
variable {P : Program} {FB : Nat → Prop} {w0 : World} {μ : Nat → Option Loc} {h : AH} {w w' : World}
/-- A world that is as it was up to its old end. -/
theorem Sim.below (s : Sim P FB w0 μ h w) (b : Below w.heap.size w w') : Sim P FB w0 μ h w' where
  os := b.os.trans s.os
  tape := b.tape.trans s.tape
  out := b.output.trans s.out
  frame := fun k hk => by
    have := s.frame k hk
    exact ⟨Nat.lt_of_lt_of_le this.1 b.size, (b.block k this.1).trans this.2⟩
  dom := s.dom
  big := s.big
  glob := s.glob
  cell := fun i l cs st ln hm ho j hj => by
    obtain ⟨cv, hc, hv⟩ := s.cell i l cs st ln hm ho j hj
    refine ⟨cv, ?_, hv⟩
    have hlt := World.block_lt_of_cell? w _ hc
    rw [b.cell hlt]
    exact hc
  blk := fun i l cs st ln hm ho hst => by
    obtain ⟨a1, ⟨arr, e, fz, e1, e2⟩, a3⟩ := s.blk i l cs st ln hm ho hst
    exact ⟨a1, ⟨arr, e, fz, (b.block _ (Array.getElem?_eq_some_iff.1 e1).1).trans e1, e2⟩, a3⟩
  rob := s.rob
  onec := s.onec
  sep := s.sep
  tip := s.tip
  tipu := s.tipu
  solo := s.solo
  lin := s.lin
  linc := s.linc
  mp := fun i l es hm ho => by
    obtain ⟨a1, ents, clock, e1, e2⟩ := s.mp i l es hm ho
    exact ⟨a1, ents, clock, (b.block _ (Array.getElem?_eq_some_iff.1 e1).1).trans e1, e2⟩
  mpu := s.mpu
/-- A contract of the library over texts and numbers. -/
theorem CD.bridge {f : FuncId} {args : List Value} {V : Value} (hb : callB P f = true) (hp : ∀ a ∈ args, isPlain a = true) (hv : isPlain V = true)
    (c : ∀ w : World, Calls P f args.toArray w fun e w' => e = .returned V ∧ Below w.heap.size w w') : CD P f args h V h := by
  refine CE.call hb ?_
  intro FB w0 μ w cargs R' s la hk
  have e : cargs = args.toArray := by
    apply Array.ext'
    rw [List.toList_toArray]
    apply List.ext_getElem la.1.symm
    intro j h1 h2
    have := la.2 j h2 h1
    have pj := hp _ (List.getElem_mem h2)
    generalize args[j] = x at this pj
    generalize cargs.toList[j] = y at this
    cases this <;> first
      | rfl
      | (simp [isPlain] at pj; done)
      | (rename_i a a' hs e; simp [isPlain] at pj; subst pj; exact congrArg Value.tuple (Array.eq_empty_of_size_eq_zero hs.symm))
  subst e
  refine (c w).mono fun e w' ⟨h1, h2⟩ => ?_
  subst h1
  exact hk V h μ V w' ⟨rfl, rfl⟩ ⟨s.below h2, Ext.refl _, Unt.refl _ _⟩ (.plain V hv)
/-- Is one of two bytes in a text? -/
def hasAny (s : ByteArray) (a b : Nat) : Bool := !(allAt s fun x => decide (x ≠ a) && decide (x ≠ b))
theorem hasAny_lib (s : ByteArray) (a b : UInt8) : Lib.containsAny s.data.toList [a, b] = hasAny s a.toNat b.toNat := by
  have key : ∀ l : List UInt8, Lib.containsAny l [a, b] = l.any fun x => x == a || x == b := by
    intro l
    induction l with
    | nil => rfl
    | cons x l ih =>
      unfold Lib.containsAny at ih ⊢
      have hge := Lib.indexAny_ge [a, b] l
      rw [List.any_cons, ← ih]
      show decide (0 ≤ (if [a, b].contains x then 0 else if Lib.indexAny l [a, b] == -1 then -1 else Lib.indexAny l [a, b] + 1)) = _
      have hc : [a, b].contains x = (x == a || x == b) := by rw [Bool.eq_iff_iff]; simp
      rw [hc]
      cases hx : (x == a || x == b) with
      | true => rfl
      | false =>
        simp only [Bool.false_eq_true, if_false, Bool.false_or]
        by_cases e : Lib.indexAny l [a, b] = -1
        · rw [e]; rfl
        · rw [if_neg (by simpa using e)]
          rw [Bool.eq_iff_iff, decide_eq_true_eq, decide_eq_true_eq]
          omega
  rw [key]
  unfold hasAny allAt
  rw [Bool.eq_iff_iff]
  simp only [List.any_eq_true, Bool.or_eq_true, beq_iff_eq, Bool.not_eq_true', List.all_eq_false, List.mem_range, Bool.and_eq_true, decide_eq_true_eq, not_and, Classical.not_not]
  constructor
  · rintro ⟨x, hx, e⟩
    obtain ⟨i, hi, rfl⟩ := List.getElem_of_mem hx
    have hi' : i < s.size := by rw [Lib.size_eq]; exact hi
    have hb : byteAt s i = s.data.toList[i] := by
      simp only [byteAt, Array.getD, show i < s.data.size from hi', dite_true]
      simp
    refine ⟨i, hi', fun n => ?_⟩
    rw [hb] at n ⊢
    rcases e with e | e
    · rw [e] at n; exact absurd rfl n
    · rw [e]
  · rintro ⟨i, hi, n⟩
    have hi2 : i < s.data.toList.length := by rw [← Lib.size_eq]; exact hi
    have hb : byteAt s i = s.data.toList[i] := by
      simp only [byteAt, Array.getD, show i < s.data.size from hi, dite_true]
      simp
    refine ⟨s.data.toList[i], List.getElem_mem hi2, ?_⟩
    rw [hb] at n
    by_cases e : s.data.toList[i].toNat = a.toNat
    · exact .inl (UInt8.toNat.inj e)
    · exact .inr (UInt8.toNat.inj (by have := n (by omega); omega))
end Go.Sim
/- Programs: when one is right. Conditions: none. -/
set_option linter.unusedSimpArgs false
set_option linter.unusedVariables false
namespace Go.Sim
structure Nd where
  op : Int
  text : ByteArray
  kids : List Int
  deriving DecidableEq
structure Ru where
  when_ : Int
  cond : Int
  act : Int
  deriving DecidableEq
structure Prg where
  nodes : List Nd
  rules : List Ru
  deriving DecidableEq
def encZ (k : Int) : List Value := [.int .i64 k]
def encD (x : Nd × Value) : List Value := [.int .i64 x.1.op, .string x.1.text, x.2]
def encU (r : Ru) : List Value := [.int .i64 r.when_, .int .i64 r.cond, .int .i64 r.act]
theorem encD_len (x : Nd × Value) : (encD x).length = 3 := rfl
/-- A program, read. -/
structure RdG (h : AH) (vN vR : Value) (L : List (Nd × Value)) (R : List Ru) : Prop where
  nodes : RdV h vN 3 encD L
  kids : ∀ x ∈ L, RdV h x.2 1 encZ x.1.kids
  rules : RdV h vR 3 encU R
theorem RdG.pre {h h' : AH} {vN vR : Value} {L : List (Nd × Value)} {R : List Ru} (w : RdG h vN vR L R) (p : Pre h h') : RdG h' vN vR L R := ⟨w.nodes.pre p, fun x hx => (w.kids x hx).pre p, w.rules.pre p⟩
def kept : List ByteArray := [⟨#[66, 69, 71, 73, 78]⟩, ⟨#[69, 78, 68]⟩, ⟨#[112, 114, 105, 110, 116]⟩, ⟨#[110, 101, 120, 116]⟩, ⟨#[100, 117, 109, 112]⟩, ⟨#[105, 102]⟩, ⟨#[101, 108, 115, 101]⟩, ⟨#[78, 70]⟩, ⟨#[78, 82]⟩, ⟨#[108, 101, 110, 103, 116, 104]⟩]
def nameOk (s : ByteArray) : Bool := letters s && !kept.any (fun t => decide (t = s))
def figs (s : ByteArray) (lo hi : Int) : Bool := allAt s (fun x => inB x 48 57) && inB s.size lo hi
def plain (s : ByteArray) (c : Nat) : Bool := !hasAny s c 10
def textP (op : Int) (s : ByteArray) : Bool :=
  if op = 1 then figs s 1 6
  else if op = 2 then decide (s.size ≤ 30) && plain s 34
  else if op = 3 ∨ op = 4 ∨ op = 18 ∨ op = 19 ∨ op = 20 ∨ op = 21 ∨ op = 25 then nameOk s
  else if op = 16 then (readP s).isSome && plain s 47
  else decide (s = ⟨#[]⟩)
def isEx (op : Int) : Bool := inB op 1 16
def rangeP (op : Int) : Int × Int :=
  if op = 4 ∨ op = 5 ∨ op = 8 ∨ op = 16 ∨ op = 18 ∨ op = 19 then (1, 1)
  else if op = 9 ∨ op = 10 ∨ op = 11 ∨ op = 12 ∨ op = 13 ∨ op = 14 ∨ op = 15 ∨ op = 20 ∨ op = 21 then (2, 2)
  else if op = 17 then (1, 4) else (0, 0)
def manyP (op : Int) : Int × Int := if op = 22 then (2, 3) else if op = 24 then (0, 20) else rangeP op
/-- May a node of such an op have such a kid at place k? -/
def kidP (op : Int) (k : Nat) (kop : Int) : Bool := if op = 22 ∧ 0 < k then !isEx kop && decide (kop ≠ 22) else if op = 24 then !isEx kop else isEx kop
def nodeOp (N : List Nd) (k : Int) : Int := (N.getD k.toNat ⟨0, ⟨#[]⟩, []⟩).op
def nodeP (N : List Nd) (i : Nat) (x : Nd) : Bool :=
  inB x.op 1 25 && textP x.op x.text && inB x.kids.length (manyP x.op).1 (manyP x.op).2 &&
  allN x.kids.length (fun k => inB (x.kids.getD k 0) 0 ((i : Int) - 1) && kidP x.op k (nodeOp N (x.kids.getD k 0)))
def ruleP (N : List Nd) (r : Ru) : Bool :=
  inB r.when_ 1 3 && inB r.act 0 ((N.length : Int) - 1) && decide (nodeOp N r.act = 24) && (decide (r.cond = -1) || (decide (r.when_ = 2) && inB r.cond 0 ((N.length : Int) - 1) && isEx (nodeOp N r.cond)))
def programOk (p : Prg) : Bool :=
  decide (p.nodes.length ≤ 200) && decide (p.rules.length ≤ 12) && allN p.nodes.length (fun i => nodeP p.nodes i (p.nodes.getD i ⟨0, ⟨#[]⟩, []⟩)) && p.rules.all (ruleP p.nodes)
theorem readP_small {s : ByteArray} (h : (readP s).isSome = true) : s.size ≤ 24 := by
  unfold readP at h
  split at h
  · rename_i hz; exact hz.2
  · cases h
end Go.Sim
namespace Go.Proofs.YtdlpdfclljnmhaaGreat
open Go Go.Proofs
set_option maxRecDepth 100000
def ren1 : Go.Shelf.Ren := ⟨fun | 119 => 167 | 137 => 166 | 150 => 90 | 152 => 151 | 153 => 131 | 217 => 172 | 224 => 168 | 225 => 169 | 226 => 152 | 227 => 153 | 228 => 154 | 266 => 177 | n => n, fun | 46 => 101 | 116 => 176 | 117 => 177 | 124 => 191 | n => n, fun n => n⟩
theorem lays152 : Lays.n152 Tryz.prog ren1 := {
  mixed := by kernel_rfl
  f119 := Tryz.func167.trans (congrArg some (by kernel_rfl))
  f137 := Tryz.func166.trans (congrArg some (by kernel_rfl))
  f152 := Tryz.func151.trans (congrArg some (by kernel_rfl))
  f217 := Tryz.func172.trans (congrArg some (by kernel_rfl))
  f224 := Tryz.func168.trans (congrArg some (by kernel_rfl))
  f225 := Tryz.func169.trans (congrArg some (by kernel_rfl))
  f266 := Tryz.func177.trans (congrArg some (by kernel_rfl))
  t0 := Tryz.underlying0
  a0 := Tryz.isAgg0
  z0 := Tryz.sizeOf0
  v0 := Tryz.zeroValue0
  t3 := Tryz.underlying3
  a3 := Tryz.isAgg3
  z3 := Tryz.sizeOf3
  v3 := Tryz.zeroValue3
  t4 := Tryz.underlying4
  a4 := Tryz.isAgg4
  z4 := Tryz.sizeOf4
  v4 := Tryz.zeroValue4
  t5 := Tryz.underlying5
  a5 := Tryz.isAgg5
  z5 := Tryz.sizeOf5
  v5 := Tryz.zeroValue5
  t9 := Tryz.underlying9
  a9 := Tryz.isAgg9
  z9 := Tryz.sizeOf9
  v9 := Tryz.zeroValue9
  t21 := Tryz.underlying21
  a21 := Tryz.isAgg21
  z21 := Tryz.sizeOf21
  v21 := Tryz.zeroValue21
  t46 := Tryz.underlying101
  a46 := Tryz.isAgg101
  z46 := Tryz.sizeOf101
  v46 := Tryz.zeroValue101 }
theorem lays153 : Lays.n153 Tryz.prog ren1 := {
  mixed := by kernel_rfl
  f119 := Tryz.func167.trans (congrArg some (by kernel_rfl))
  f137 := Tryz.func166.trans (congrArg some (by kernel_rfl))
  f152 := Tryz.func151.trans (congrArg some (by kernel_rfl))
  f153 := Tryz.func131.trans (congrArg some (by kernel_rfl))
  f217 := Tryz.func172.trans (congrArg some (by kernel_rfl))
  f224 := Tryz.func168.trans (congrArg some (by kernel_rfl))
  f225 := Tryz.func169.trans (congrArg some (by kernel_rfl))
  f226 := Tryz.func152.trans (congrArg some (by kernel_rfl))
  f227 := Tryz.func153.trans (congrArg some (by kernel_rfl))
  f228 := Tryz.func154.trans (congrArg some (by kernel_rfl))
  f266 := Tryz.func177.trans (congrArg some (by kernel_rfl))
  t0 := Tryz.underlying0
  a0 := Tryz.isAgg0
  z0 := Tryz.sizeOf0
  v0 := Tryz.zeroValue0
  t3 := Tryz.underlying3
  a3 := Tryz.isAgg3
  z3 := Tryz.sizeOf3
  v3 := Tryz.zeroValue3
  t4 := Tryz.underlying4
  a4 := Tryz.isAgg4
  z4 := Tryz.sizeOf4
  v4 := Tryz.zeroValue4
  t5 := Tryz.underlying5
  a5 := Tryz.isAgg5
  z5 := Tryz.sizeOf5
  v5 := Tryz.zeroValue5
  t9 := Tryz.underlying9
  a9 := Tryz.isAgg9
  z9 := Tryz.sizeOf9
  v9 := Tryz.zeroValue9
  t21 := Tryz.underlying21
  a21 := Tryz.isAgg21
  z21 := Tryz.sizeOf21
  v21 := Tryz.zeroValue21
  t46 := Tryz.underlying101
  a46 := Tryz.isAgg101
  z46 := Tryz.sizeOf101
  v46 := Tryz.zeroValue101
  t116 := Tryz.underlying176
  a116 := Tryz.isAgg176
  z116 := Tryz.sizeOf176
  t117 := Tryz.underlying177
  a117 := Tryz.isAgg177
  z117 := Tryz.sizeOf177
  v117 := Tryz.zeroValue177
  t124 := Tryz.underlying191
  a124 := Tryz.isAgg191
  z124 := Tryz.sizeOf191
  v124 := Tryz.zeroValue191 }
theorem lays150 : Lays.n150 Tryz.prog ren1 := {
  mixed := by kernel_rfl
  f119 := Tryz.func167.trans (congrArg some (by kernel_rfl))
  f137 := Tryz.func166.trans (congrArg some (by kernel_rfl))
  f150 := Tryz.func90.trans (congrArg some (by kernel_rfl))
  f152 := Tryz.func151.trans (congrArg some (by kernel_rfl))
  f153 := Tryz.func131.trans (congrArg some (by kernel_rfl))
  f217 := Tryz.func172.trans (congrArg some (by kernel_rfl))
  f224 := Tryz.func168.trans (congrArg some (by kernel_rfl))
  f225 := Tryz.func169.trans (congrArg some (by kernel_rfl))
  f226 := Tryz.func152.trans (congrArg some (by kernel_rfl))
  f227 := Tryz.func153.trans (congrArg some (by kernel_rfl))
  f228 := Tryz.func154.trans (congrArg some (by kernel_rfl))
  f266 := Tryz.func177.trans (congrArg some (by kernel_rfl))
  t0 := Tryz.underlying0
  a0 := Tryz.isAgg0
  z0 := Tryz.sizeOf0
  v0 := Tryz.zeroValue0
  t3 := Tryz.underlying3
  a3 := Tryz.isAgg3
  z3 := Tryz.sizeOf3
  v3 := Tryz.zeroValue3
  t4 := Tryz.underlying4
  a4 := Tryz.isAgg4
  z4 := Tryz.sizeOf4
  v4 := Tryz.zeroValue4
  t5 := Tryz.underlying5
  a5 := Tryz.isAgg5
  z5 := Tryz.sizeOf5
  v5 := Tryz.zeroValue5
  t9 := Tryz.underlying9
  a9 := Tryz.isAgg9
  z9 := Tryz.sizeOf9
  v9 := Tryz.zeroValue9
  t21 := Tryz.underlying21
  a21 := Tryz.isAgg21
  z21 := Tryz.sizeOf21
  v21 := Tryz.zeroValue21
  t46 := Tryz.underlying101
  a46 := Tryz.isAgg101
  z46 := Tryz.sizeOf101
  v46 := Tryz.zeroValue101
  t116 := Tryz.underlying176
  a116 := Tryz.isAgg176
  z116 := Tryz.sizeOf176
  t117 := Tryz.underlying177
  a117 := Tryz.isAgg177
  z117 := Tryz.sizeOf177
  v117 := Tryz.zeroValue177
  t124 := Tryz.underlying191
  a124 := Tryz.isAgg191
  z124 := Tryz.sizeOf191
  v124 := Tryz.zeroValue191 }
theorem info116 : (Tryz.prog.info? (ren1.t 116)).map (fun i => (i.zero, i.size)) = some (some (.agg (Array.replicate 256 (.bool false))), 256) := by kernel_rfl
end Go.Proofs.YtdlpdfclljnmhaaGreat
namespace Go.Proofs.YtdlpdfclljnmhaaGreat
open Go Go.Sim Go.Proofs
set_option linter.unusedSimpArgs false
set_option linter.unusedVariables false
set_option maxRecDepth 100000
set_option maxHeartbeats 1000000
theorem isFigure_c (c : Int) (h0 : 0 ≤ c) (h1 : c < 256) (h : AH) : CD Tryz.prog 126 [.int .u8 c] h (.bool (inB c 48 57)) h := by
  refine CD.quiet ?_ (low_bool _ _)
  refine CC.ofN Tryz.func126 Tryz.ntmps126 Tryz.results126 rfl (by decide) (by kernel_rfl) ?_
  simp (maxSteps := 1000000) -implicitDefEqProofs only [push_cast, seval]
  rw [w64 (by omega) (by omega)]
  repeat' (first | with_reducible (first | exact Keep.refl _ _ | assumption | exact byte_lt _ _ | apply Keep.alloc | (refine Keep.set ?_ ?_; rotate_left; · omega) | apply Pre.alloc | apply Pre.set | exact Pre.refl _ | exact le_alloc _ | (refine Pre.keep ?_; assumption) | (refine Pre.n ?_; assumption)) | ((with_reducible (first | refine CD.to (within_c _ _ _ _) ?_ | refine CQ.pure (fun _ => within_c _ _ _ _) ?_ | refine bcase_d (fun hb => ?_) (fun hb => ?_) | refine bcase_mk (fun hb => ?_) (fun hb => ?_))) <;> try simp (maxSteps := 1000000) -implicitDefEqProofs only [push_cast, seval]) | with_reducible refine And.intro ?_ ?_ | omega | (simp only [alloc_n, set_n, kill_n]; omega) | (exfalso; omega))
theorem allFigures_c (s : ByteArray) (lo hi : Int) (hs : s.size ≤ maxLen) (h : AH) : CD Tryz.prog 86 [.string s, .int .i64 lo, .int .i64 hi] h (.bool (figs s lo hi)) h := by
  refine CD.quiet ?_ (low_bool _ _)
  refine CC.ofN Tryz.func86 Tryz.ntmps86 Tryz.results86 rfl (by decide) (by kernel_rfl) ?_
  simp (maxSteps := 1000000) -implicitDefEqProofs only [push_cast, seval]
  rw [maxLen_eq] at hs
  refine WC.loopA (by kernel_rfl) [10] [6, 7, 11, 12, 13, 14, 15, 16, 17, 18] (fun i : Nat => [.int .i64 i]) (fun i h' => (i ≤ s.size ∧ ∀ j, j < i → inB (byteAt s j).toNat 48 57 = true) ∧ h' = h) (fun i => s.size - i) 0 (by kernel_rfl) ⟨⟨Nat.zero_le _, by omega⟩, rfl⟩ ?_
  intro i g h' hJ
  have hi := hJ.1.1
  have hj := hJ.1.2
  have e := hJ.2
  clear hJ
  subst e
  simp (maxSteps := 1000000) -implicitDefEqProofs only [push_cast, seval]
  repeat' (first | with_reducible (first | exact Keep.refl _ _ | assumption | exact byte_lt _ _ | apply Keep.alloc | (refine Keep.set ?_ ?_; rotate_left; · omega) | apply Pre.alloc | apply Pre.set | exact Pre.refl _ | exact le_alloc _ | (refine Pre.keep ?_; assumption) | (refine Pre.n ?_; assumption)) | ((with_reducible (first | refine CD.to (isFigure_c _ ?_ ?_ _) ?_ | refine CQ.pure (fun _ => isFigure_c _ ?_ ?_ _) ?_ | refine CD.to (within_c _ _ _ _) ?_ | refine CQ.pure (fun _ => within_c _ _ _ _) ?_ | refine bcase_d (fun hb => ?_) (fun hb => ?_) | refine bcase_mk (fun hb => ?_) (fun hb => ?_))) <;> try simp (maxSteps := 1000000) -implicitDefEqProofs only [push_cast, seval]) | with_reducible refine And.intro ?_ ?_ | omega | (simp only [alloc_n, set_n, kill_n]; omega) | (exfalso; omega))
  · rw [wrapSucc (by omega)]
    exact ⟨i + 1, by kernel_rfl, ⟨by omega, fun j hj' => (Nat.lt_succ_iff_lt_or_eq.1 hj').elim (hj j) (fun e => by subst e; exact hb)⟩, by omega⟩
  · simp only [figs, allAt_false (s := s) (p := fun x => inB x 48 57) (i := i) (by omega) hb]; rfl
  · have : allAt s (fun x => inB x 48 57) = true := allAt_iff.2 (fun j hj' => hj j (by omega))
    simp [figs, this]
theorem IsNum_c (s : ByteArray) (hs : s.size ≤ maxLen) (h : AH) : CD Tryz.prog 122 [.string s] h (.bool (figs s 1 6)) h := by
  refine CD.quiet ?_ (low_bool _ _)
  refine CC.ofN Tryz.func122 Tryz.ntmps122 Tryz.results122 rfl (by decide) (by kernel_rfl) ?_
  simp (maxSteps := 1000000) -implicitDefEqProofs only [push_cast, seval]
  rw [maxLen_eq] at hs
  refine WC.loopA (by kernel_rfl) [3] [2, 4, 5, 6, 7, 8, 9, 10, 11, 12, 13, 14, 15, 16, 17, 18, 19] (fun i : Nat => [.int .i64 i]) (fun i h' => (i ≤ s.size ∧ ∀ j, j < i → inB (byteAt s j).toNat 48 57 = true) ∧ h' = h) (fun i => s.size - i) 0 (by kernel_rfl) ⟨⟨Nat.zero_le _, by omega⟩, rfl⟩ ?_
  intro i g h' hJ
  have hi := hJ.1.1
  have hj := hJ.1.2
  have e := hJ.2
  clear hJ
  subst e
  simp (maxSteps := 1000000) -implicitDefEqProofs only [push_cast, seval]
  repeat' (first | with_reducible (first | exact Keep.refl _ _ | assumption | exact byte_lt _ _ | apply Keep.alloc | (refine Keep.set ?_ ?_; rotate_left; · omega) | apply Pre.alloc | apply Pre.set | exact Pre.refl _ | exact le_alloc _ | (refine Pre.keep ?_; assumption) | (refine Pre.n ?_; assumption)) | ((with_reducible (first | refine CD.to (l01In_c _ _ _ _) ?_ | refine CQ.pure (fun _ => l01In_c _ _ _ _) ?_ | refine bcase_d (fun hb => ?_) (fun hb => ?_) | refine bcase_mk (fun hb => ?_) (fun hb => ?_))) <;> try simp (maxSteps := 1000000) -implicitDefEqProofs only [push_cast, seval]) | with_reducible refine And.intro ?_ ?_ | omega | (simp only [alloc_n, set_n, kill_n]; omega) | (exfalso; omega))
  all_goals first
    | (simp only [figs, allAt_false (s := s) (p := fun x => inB x 48 57) (i := i) (by omega) (by simp only [inB, Bool.and_eq_false_iff, decide_eq_false_iff_not]; omega)]; rfl)
    | (rw [wrapSucc (by omega)]
       exact ⟨i + 1, by kernel_rfl, ⟨by omega, fun j hj' => (Nat.lt_succ_iff_lt_or_eq.1 hj').elim (hj j) (fun e => by subst e; simp only [inB, Bool.and_eq_true, decide_eq_true_eq]; omega)⟩, by omega⟩)
    | (have : allAt s (fun x => inB x 48 57) = true := allAt_iff.2 (fun j hj' => hj j (by omega))
       simp [figs, this])
theorem ContainsAny_c (s c : ByteArray) (a b : UInt8) (hc : c = ⟨#[a, b]⟩) (ha : a.toNat < 128) (hb : b.toNat < 128) (hs : s.size < 4294967281) (h : AH) : CD Tryz.prog 90 [.string s, .string c] h (.bool (hasAny s a.toNat b.toNat)) h := by
  refine CD.bridge (by kernel_rfl) (fun x hx => ?_) rfl (fun w => ?_)
  · simp only [List.mem_cons, List.not_mem_nil, or_false] at hx
    rcases hx with rfl | rfl <;> rfl
  · subst hc
    rw [← hasAny_lib]
    exact Any.ContainsAny2 lays150 info116 s ⟨#[a, b]⟩ w hs rfl (fun j hj => by
      have hj' : j < 2 := hj
      rcases (show j = 0 ∨ j = 1 by omega) with rfl | rfl
      · exact ha
      · exact hb) (fun x hx => by
      have hx' : x ∈ [a, b] := hx
      simp only [List.mem_cons, List.not_mem_nil, or_false] at hx'
      rcases hx' with rfl | rfl
      · exact ha
      · exact hb)
theorem isQuotable_c (s : ByteArray) (hs : s.size ≤ maxLen) (h : AH) : CD Tryz.prog 87 [.string s] h (.bool (decide (s.size ≤ 30) && plain s 34)) h := by
  refine CD.quiet ?_ (low_bool _ _)
  refine CC.ofN Tryz.func87 Tryz.ntmps87 Tryz.results87 rfl (by decide) (by kernel_rfl) ?_
  simp (maxSteps := 1000000) -implicitDefEqProofs only [push_cast, seval]
  with_reducible refine bcase_d (fun hb => ?_) (fun hb => ?_)
  · simp (maxSteps := 1000000) -implicitDefEqProofs only [push_cast, seval]
    have hz : s.size ≤ 30 := by omega
    with_reducible refine CD.to (ContainsAny_c s _ 34 10 rfl (by decide) (by decide) (by omega) _) ?_
    simp (maxSteps := 1000000) -implicitDefEqProofs only [push_cast, seval]
    refine ⟨?_, Keep.refl _ _⟩
    rw [decide_eq_true hz]
    rfl
  · simp (maxSteps := 1000000) -implicitDefEqProofs only [push_cast, seval]
    refine ⟨?_, Keep.refl _ _⟩
    rw [decide_eq_false (by omega)]
    rfl
theorem plain_all (s : ByteArray) (c : Nat) : plain s c = allAt s (fun x => decide (x ≠ (c : Nat)) && decide (x ≠ (10 : Nat))) := by simp only [plain, hasAny, Bool.not_not]
theorem l06Plain_c (s : ByteArray) (most c : Nat) (ci mi : Int) (hci : (c : Int) = ci) (hmi : (most : Int) = mi) (hs : s.size ≤ maxLen) (h : AH) : CD Tryz.prog 123 [.string s, .int .i64 mi, .int .u8 ci] h (.bool (decide (s.size ≤ most) && plain s c)) h := by
  subst hci hmi
  refine CD.quiet ?_ (low_bool _ _)
  refine CC.ofN Tryz.func123 Tryz.ntmps123 Tryz.results123 rfl (by decide) (by kernel_rfl) ?_
  simp (maxSteps := 1000000) -implicitDefEqProofs only [push_cast, seval]
  rw [maxLen_eq] at hs
  refine WC.loopA (by kernel_rfl) [7] [6, 8, 9, 10, 11, 12, 13, 14, 15, 16, 17, 18, 19, 20, 21, 22, 23, 24] (fun i : Nat => [.int .i64 i]) (fun i h' => (i ≤ s.size ∧ ∀ j, j < i → (decide (((byteAt s j).toNat : Int) ≠ c) && decide (((byteAt s j).toNat : Int) ≠ 10)) = true) ∧ h' = h) (fun i => s.size - i) 0 (by kernel_rfl) ⟨⟨Nat.zero_le _, by omega⟩, rfl⟩ ?_
  intro i g h' hJ
  have hi := hJ.1.1
  have hj := hJ.1.2
  have e := hJ.2
  clear hJ
  subst e
  simp (maxSteps := 1000000) -implicitDefEqProofs only [push_cast, seval]
  repeat' (first | with_reducible (first | exact Keep.refl _ _ | assumption | exact byte_lt _ _ | apply Keep.alloc | (refine Keep.set ?_ ?_; rotate_left; · omega) | apply Pre.alloc | apply Pre.set | exact Pre.refl _ | exact le_alloc _ | (refine Pre.keep ?_; assumption) | (refine Pre.n ?_; assumption)) | ((with_reducible (first | refine bcase_d (fun hb => ?_) (fun hb => ?_) | refine bcase_mk (fun hb => ?_) (fun hb => ?_))) <;> try simp (maxSteps := 1000000) -implicitDefEqProofs only [push_cast, seval]) | with_reducible refine And.intro ?_ ?_ | omega | (simp only [alloc_n, set_n, kill_n]; omega) | (exfalso; omega))
  all_goals first
    | (rw [plain_all, allAt_false (s := s) (i := i) (by omega) (by simp; omega), Bool.and_false]; done)
    | (rw [wrapSucc (by omega)]
       exact ⟨i + 1, by kernel_rfl, ⟨by omega, fun j hj' => (Nat.lt_succ_iff_lt_or_eq.1 hj').elim (hj j) (fun e => by subst e; simp; omega)⟩, by omega⟩)
    | (have : allAt s (fun x => decide (x ≠ (c : Nat)) && decide (x ≠ (10 : Nat))) = true := allAt_iff.2 (fun j hj' => hj j (by omega))
       rw [plain_all, this, Bool.and_true]
       congr 1
       rw [Bool.eq_iff_iff]; simp)
end Go.Proofs.YtdlpdfclljnmhaaGreat
namespace Go.Proofs.YtdlpdfclljnmhaaGreat
open Go Go.Sim Go.Proofs
set_option linter.unusedSimpArgs false
set_option linter.unusedVariables false
set_option maxRecDepth 100000
set_option maxHeartbeats 1000000
/-- The cells of the program's reader. -/
def cI (s : ByteArray) (k : Nat) (bad : Bool) (v : Value) : List Value := [.string (s.extract k s.size), v, .bool bad]
theorem ext_size (s : ByteArray) (k : Nat) : (s.extract k s.size).size = s.size - k := by rw [ByteArray.size_extract]; omega
theorem ext_byte (s : ByteArray) (k i : Nat) (hi : k + i < s.size) : byteAt (s.extract k s.size) i = byteAt s (k + i) := by
  unfold byteAt
  simp only [Array.getD_eq_getD_getElem?, ByteArray.data_extract]
  congr 1
  rw [Array.getElem?_extract]
  have : s.data.size = s.size := rfl
  rw [if_pos (by omega)]
theorem ext_ext (s : ByteArray) (k i : Nat) (hi : k + i ≤ s.size) : (s.extract k s.size).extract i (s.size - k) = s.extract (k + i) s.size := by
  rw [ByteArray.extract_extract]
  congr 1
  omega
/-- The text that is left. -/
structure Txt (s : ByteArray) (k : Nat) (T : ByteArray) : Prop where
  eq : T = s.extract k s.size
  size : T.size = s.size - k
  emp : (T = ⟨#[]⟩) = (s.size ≤ k)
  byte : ∀ i, k + i < s.size → byteAt T i = byteAt s (k + i)
  rest : ∀ i, k + i ≤ s.size → T.extract i (s.size - k) = s.extract (k + i) s.size
  mid : ∀ i, k + i ≤ s.size → T.extract 0 i = s.extract k (k + i)
theorem Txt.of (s : ByteArray) (k : Nat) (hk : k ≤ s.size) : Txt s k (s.extract k s.size) := by
  refine ⟨rfl, ext_size s k, propext ⟨fun e => ?_, fun e => ?_⟩, ext_byte s k, ext_ext s k, fun i hi => ?_⟩
  · have := congrArg ByteArray.size e
    rw [ext_size] at this
    have e0 : (⟨#[]⟩ : ByteArray).size = 0 := rfl
    omega
  · have e1 := ext_size s k
    apply ByteArray.ext
    have : (s.extract k s.size).data.size = 0 := by show (s.extract k s.size).size = 0; omega
    exact Array.eq_empty_of_size_eq_zero this
  · rw [ByteArray.extract_extract]
    congr 1 <;> omega
theorem isAt_of {s : ByteArray} {k c : Nat} (hk : k < s.size) : isAt s k c = ((byteAt s k).toNat == c) := by simp [isAt, hk]
theorem isAt_no {s : ByteArray} {k c : Nat} (hk : s.size ≤ k) : isAt s k c = false := by simp [isAt]; omega
theorem rdv_cells {α : Type} {h : AH} {v : Value} {k : Nat} {enc : α → List Value} {l : List α} (r : RdV h v k enc l) : v.cells = #[v] := by
  rcases r with ⟨c, rfl, _⟩ | ⟨id, off, c, rfl, _⟩ <;> rfl
theorem decide_cast (a c : Nat) : Value.bool (decide ((a : Int) = (c : Int))) = Value.bool (a == c) := by
  congr 1
  rw [Bool.eq_iff_iff, decide_eq_true_eq, beq_iff_eq]
  omega
theorem copyInts_c (x : Value) (l : List Nat) (h : AH) (r : RdV h x 1 encNa l) (hl : l.length ≤ 1000) :
    CC Tryz.prog 165 [x] h (fun v h' => RdV h' v 1 encNa l ∧ (∀ i, atBlock v i → h.n ≤ i) ∧ Pre h h') := by
  refine CC.ofN Tryz.func165 Tryz.ntmps165 Tryz.results165 rfl (by decide) (by kernel_rfl) ?_
  simp (maxSteps := 1000000) -implicitDefEqProofs only [push_cast, seval]
  refine app_copy si62 (by decide) (by decide) (notInt_sl und62) (alloc_same _) (by show h.n < h.n + 1; omega) (r.pre ((Pre.refl h).alloc _)) encI_len (by omega) (fun h1 a1 n1 f1 => ?_)
  simp (maxSteps := 1000000) -implicitDefEqProofs only [push_cast, seval]
  refine ⟨.inr ⟨_, _, _, rfl, a1.rdAll, a1.lt⟩, fun i hi => ?_, ⟨by rw [n1]; show h.n ≤ h.n + 1 + 1; omega, fun i hi => (f1 i (by show i < h.n + 1; omega) (by omega)).trans (alloc_lt _ hi)⟩⟩
  have : h.n + 1 = i := hi
  omega
theorem is_c (p : Nat) (s : ByteArray) (k : Nat) (bad : Bool) (v : Value) (c : Nat) (h : AH) (e : h.ob p = .cells (cI s k bad v) .solo p) (hp : p < h.n) (hk : k ≤ s.size) (hs : s.size ≤ 24) :
    CD Tryz.prog 163 [.pointer (some ⟨p, 0, none⟩), .int .u8 (c : Nat)] h (.bool (isAt s k c)) h := by
  refine CD.quiet ?_ (low_bool _ _)
  have e : h.ob p = .cells [.string (s.extract k s.size), v, .bool bad] .solo p := e
  have hT := Txt.of s k hk
  generalize s.extract k s.size = T at e hT
  have tE := hT.emp
  have tS := hT.size
  refine CC.ofN Tryz.func163 Tryz.ntmps163 Tryz.results163 rfl (by decide) (by kernel_rfl) ?_
  simp (maxSteps := 1000000) -implicitDefEqProofs only [push_cast, seval, e, rd_of e, rd1_of e, hp, tE]
  with_reducible refine bcase_d (fun hb => ?_) (fun hb => ?_)
  · simp (maxSteps := 1000000) -implicitDefEqProofs only [push_cast, seval, e, rd_of e, rd1_of e, hp, tE]
    rw [isAt_no hb]
    exact ⟨rfl, Keep.refl _ _⟩
  · have hB := hT.byte 0 (by omega)
    rw [Nat.add_zero] at hB
    simp (maxSteps := 1000000) -implicitDefEqProofs only [push_cast, seval, e, rd_of e, rd1_of e, hp, tE, hB]
    refine ⟨by omega, ?_, Keep.refl _ _⟩
    rw [isAt_of (by omega), decide_cast]
theorem take_c (p : Nat) (s : ByteArray) (k : Nat) (bad : Bool) (v : Value) (c : Nat) (h : AH) (e : h.ob p = .cells (cI s k bad v) .solo p) (hp : p < h.n) (hk : k ≤ s.size) (hs : s.size ≤ 24) :
    CC Tryz.prog 148 [.pointer (some ⟨p, 0, none⟩), .int .u8 (c : Nat)] h (fun y h' => y = .bool (isAt s k c) ∧ h' = (if isAt s k c then h.set p (.cells (cI s (k + 1) bad v) .solo p) else h)) := by
  have e : h.ob p = .cells [.string (s.extract k s.size), v, .bool bad] .solo p := e
  have hT := Txt.of s k hk
  have hi := is_c p s k bad v c h e hp hk hs
  generalize s.extract k s.size = T at e hT
  have tE := hT.emp
  have tS := hT.size
  refine CC.ofN Tryz.func148 Tryz.ntmps148 Tryz.results148 rfl (by decide) (by kernel_rfl) ?_
  simp (maxSteps := 1000000) -implicitDefEqProofs only [push_cast, seval, e, rd_of e, rd1_of e, hp]
  refine CD.to hi ?_
  simp (maxSteps := 1000000) -implicitDefEqProofs only [push_cast, seval, e, rd_of e, rd1_of e, hp]
  cases hc : isAt s k c with
  | false =>
    simp (maxSteps := 1000000) -implicitDefEqProofs only [push_cast, seval, e, rd_of e, rd1_of e, hp]
  | true =>
    have := isAt_lt hc
    have hR := hT.rest 1 (by omega)
    simp (maxSteps := 1000000) -implicitDefEqProofs only [push_cast, seval, e, rd_of e, rd1_of e, hp, tS, hR]
    exact ⟨by omega, by omega, rfl⟩
theorem put_c (n0 p : Nat) (s : ByteArray) (k : Nat) (bad : Bool) (v x : Value) (op : Nat) (text : ByteArray) (kids : List Nat) (cs : List Value) (j : Nat) (h : AH) (e : h.ob p = .cells (cI s k bad v) .solo p) (hp : p < h.n) (hn : n0 ≤ p) (g : Gr n0 h v 3 cs) (hc : cs.length = j * 3) (hj : j ≤ 1000) (vp : ∀ i, atBlock v i → i ≠ p) (r : RdV h x 1 encNa kids) (hl : kids.length ≤ 1000) :
    CC Tryz.prog 149 [.pointer (some ⟨p, 0, none⟩), .int .i64 (op : Nat), .string text, x] h (fun y h' => y = .int .i64 (j : Nat) ∧ ∃ v' kv, Put n0 p h h' v v' kv cs op text kids ∧ h'.ob p = .cells (cI s k bad v') .solo p) := by
  have e : h.ob p = .cells [.string (s.extract k s.size), v, .bool bad] .solo p := e
  refine CC.ofN Tryz.func149 Tryz.ntmps149 Tryz.results149 rfl (by decide) (by kernel_rfl) ?_
  simp (maxSteps := 1000000) -implicitDefEqProofs only [push_cast, seval, e, rd_of e, rd1_of e, hp]
  refine WC.drawR (by kernel_rfl) (by kernel_rfl) (.q 0 (.q 1 (.q 2 (.q 3 (.q 4 (.q 5 (.q 6 (.q 7 (.q 8 (.a 9 false (.q 10 (.a 11 false (.a 12 true (.q 13 (.q 14 (.q 15 (.a 16 true (.done)))))))))))))))))) (by kernel_rfl) ?_
  simp (maxSteps := 1000000) -implicitDefEqProofs only [push_cast, seval, e, rd_of e, rd1_of e, hp]
  with_reducible refine CC.mono (copyInts_c x kids h r hl) (fun kv h1 hv => ?_)
  have kr := hv.1
  have kn := hv.2.1
  have p1 := hv.2.2
  clear hv
  have y1 := kr.one
  have y2 := rdv_cells kr
  have e1 : h1.ob p = _ := (p1.ob _ hp).trans e
  have hp1 : p < h1.n := Nat.lt_of_lt_of_le hp p1.n
  have g1 := g.pre p1
  have n1 := p1.n
  simp (maxSteps := 1000000) -implicitDefEqProofs only [push_cast, seval, e1, rd_of e1, rd1_of e1, hp1, e, y1, y2]
  repeat (with_reducible refine And.intro ?_ ?_; · (first | omega | decide))
  have gl : ∀ i, atBlock v i → i < h.n := fun i hi => (g.range hi).2
  refine Gr.app1 (h0 := ⟨n0, h1.ob⟩) si114 (by decide) (by decide) (notInt_sl und114) g1 ⟨by show n0 ≤ h1.n; omega, fun _ _ => rfl⟩ (m := 1) rfl (by omega) (by decide) (fun h2 gr2 ow2 _ n2 f2 => ?_)
  have e2 : h2.ob p = _ := (f2 p hp1 (fun hi => vp p hi rfl)).trans e1
  have hp2 : p < h2.n := by omega
  simp (maxSteps := 1000000) -implicitDefEqProofs only [push_cast, seval, e2, rd_of e2, rd1_of e2, hp2, e1, e, y1, y2]
  rw [show IntKind.i64.wrap ((cs.length : Int) / 3 + 1 - 1) = (j : Nat) by rw [w64 (by omega) (by omega)]; omega]
  refine ⟨rfl, _, kv, ⟨by show h.n ≤ h2.n; omega, gr2.keep (Nat.le_refl _) (fun i hi => ?_), fun i hi => ?_, kr.keep (by show h1.n ≤ h2.n; omega) (fun i hi => ?_), fun i hi => ⟨?_, ?_, fun hi2 => ?_⟩, fun i hi hip hv => ?_⟩, rfl⟩
  · have : h1.n + 1 = i := hi
    exact set_ne _ (by omega)
  · have : h1.n + 1 = i := hi
    omega
  · have := kn i hi
    exact (set_ne _ (by omega)).trans (f2 i (kr.lt hi) (fun e' => by have := gl i e'; omega))
  · have := kn i hi
    omega
  · have := kn i hi
    omega
  · have := kr.lt hi
    have : h1.n + 1 = i := hi2
    omega
  · exact (set_ne _ hip).trans ((f2 i (by omega) hv).trans (p1.ob i hi))
end Go.Proofs.YtdlpdfclljnmhaaGreat
namespace Go.Proofs.YtdlpdfclljnmhaaGreat
open Go Go.Sim Go.Proofs
set_option linter.unusedSimpArgs false
set_option linter.unusedVariables false
set_option maxRecDepth 100000
set_option maxHeartbeats 1000000
/-- The place of a byte in a text. -/
def ixB (s : ByteArray) (c : Nat) : Int := Lib.indexByte s.data.toList c.toUInt8
theorem ixB_ge (s : ByteArray) (c : Nat) : -1 ≤ ixB s c := Lib.indexByte_ge _ _
theorem byteAt_get (s : ByteArray) (i : Nat) (hi : i < s.size) : s.data.toList[i]? = some (byteAt s i) := by
  have : i < s.data.size := hi
  rw [Array.getElem?_toList, Array.getElem?_eq_getElem this]
  unfold byteAt
  rw [Array.getD_eq_getD_getElem?, Array.getElem?_eq_getElem this]
  rfl
theorem ixB_none {s : ByteArray} {c : Nat} (hc : c < 256) (e : ixB s c = -1) : ∀ i, i < s.size → (byteAt s i).toNat ≠ c := fun i hi hb => by
  refine Lib.indexByte_none e i ?_
  rw [byteAt_get s i hi, ← hb]
  simp
theorem ixB_some {s : ByteArray} {c o : Nat} (hc : c < 256) (e : ixB s c = o) : o < s.size ∧ (byteAt s o).toNat = c ∧ ∀ i, i < o → (byteAt s i).toNat ≠ c := by
  obtain ⟨h1, h2⟩ := Lib.indexByte_some e
  have ho : o < s.size := by
    by_cases h : o < s.size
    · exact h
    · rw [List.getElem?_eq_none (by show s.data.toList.length ≤ o; rw [Array.length_toList]; exact Nat.le_of_not_lt h)] at h1; cases h1
  rw [byteAt_get s o ho] at h1
  refine ⟨ho, ?_, fun i hi hb => h2 i hi ?_⟩
  · have := Option.some.inj h1
    rw [this]
    show c % 256 = c
    omega
  · rw [byteAt_get s i (by omega), ← hb]
    simp
theorem ixB_lt (s : ByteArray) (c : Nat) (hc : c < 256) : ixB s c = -1 ∨ ∃ o : Nat, ixB s c = o ∧ o < s.size := by
  have := ixB_ge s c
  by_cases h : ixB s c = -1
  · exact .inl h
  · refine .inr ⟨(ixB s c).toNat, by omega, (ixB_some hc (show ixB s c = ((ixB s c).toNat : Nat) by omega)).1⟩
theorem IndexByteString_c (s : ByteArray) (c : Nat) (h : AH) : CD Tryz.prog 177 [.string s, .int .u8 (c : Nat)] h (.int .i64 (ixB s c)) h := by
  have key : ∀ w : World, (callFunc 177 #[.string s, .int .u8 (c : Nat)]).run Tryz.prog w = .ok (.value (.int .i64 (ixB s c))) w := fun w => ?_
  · exact CC.ext (P := Tryz.prog) (f := 177) (args := [.string s, .int .u8 (c : Nat)]) (V := .int .i64 (ixB s c)) (R := fun v h' => v = .int .i64 (ixB s c) ∧ h' = h) (fun v hv => by
      simp only [List.mem_cons, List.not_mem_nil, or_false] at hv
      rcases hv with rfl | rfl <;> rfl) key rfl (And.intro rfl rfl)
  have e1 : Extern.findNext Tryz.f177 = none := by kernel_rfl
  have e2 : Extern.find Tryz.f177 = some Extern.BytealgIndexByte.indexByte := by kernel_rfl
  have e3 : ¬ Tryz.f177.name = "runtime.NumGoroutine" := by
    have : (Tryz.f177.name == "runtime.NumGoroutine") = false := by kernel_rfl
    simpa using this
  have e4 : Tryz.f177.body = none := by kernel_rfl
  simp [callFunc, Tryz.func177, e1, e2, e3, e4, Lib.run_indexByteString, ixB, mark, Sem.run]
theorem slIndexByte_c (s : ByteArray) (c : Nat) (h : AH) : CD Tryz.prog 172 [.string s, .int .u8 (c : Nat)] h (.int .i64 (ixB s c)) h := by
  refine CD.quiet ?_ (low_int _ _ _)
  refine CC.ofN Tryz.func172 Tryz.ntmps172 Tryz.results172 rfl (by decide) (by kernel_rfl) ?_
  simp (maxSteps := 1000000) -implicitDefEqProofs only [push_cast, seval]
  repeat' (first | with_reducible (first | exact Keep.refl _ _ | assumption | exact byte_lt _ _ | apply Keep.alloc | (refine Keep.set ?_ ?_; rotate_left; · omega) | apply Pre.alloc | apply Pre.set | exact Pre.refl _ | exact le_alloc _ | (refine Pre.keep ?_; assumption) | (refine Pre.n ?_; assumption)) | ((with_reducible (first | refine CD.to (IndexByteString_c _ _ _) ?_ | refine CQ.pure (fun _ => IndexByteString_c _ _ _) ?_ | refine bcase_d (fun hb => ?_) (fun hb => ?_) | refine bcase_mk (fun hb => ?_) (fun hb => ?_))) <;> try simp (maxSteps := 1000000) -implicitDefEqProofs only [push_cast, seval]) | with_reducible refine And.intro ?_ ?_ | omega | (simp only [alloc_n, set_n, kill_n]; omega) | (exfalso; omega))
theorem IndexByte_c (s : ByteArray) (c : Nat) (h : AH) : CD Tryz.prog 166 [.string s, .int .u8 (c : Nat)] h (.int .i64 (ixB s c)) h := by
  refine CD.quiet ?_ (low_int _ _ _)
  refine CC.ofN Tryz.func166 Tryz.ntmps166 Tryz.results166 rfl (by decide) (by kernel_rfl) ?_
  simp (maxSteps := 1000000) -implicitDefEqProofs only [push_cast, seval]
  repeat' (first | with_reducible (first | exact Keep.refl _ _ | assumption | exact byte_lt _ _ | apply Keep.alloc | (refine Keep.set ?_ ?_; rotate_left; · omega) | apply Pre.alloc | apply Pre.set | exact Pre.refl _ | exact le_alloc _ | (refine Pre.keep ?_; assumption) | (refine Pre.n ?_; assumption)) | ((with_reducible (first | refine CD.to (slIndexByte_c _ _ _) ?_ | refine CQ.pure (fun _ => slIndexByte_c _ _ _) ?_ | refine bcase_d (fun hb => ?_) (fun hb => ?_) | refine bcase_mk (fun hb => ?_) (fun hb => ?_))) <;> try simp (maxSteps := 1000000) -implicitDefEqProofs only [push_cast, seval]) | with_reducible refine And.intro ?_ ?_ | omega | (simp only [alloc_n, set_n, kill_n]; omega) | (exfalso; omega))
theorem slIndex_c (s : ByteArray) (h : AH) : CD Tryz.prog 182 [.string s, .string ⟨#[93]⟩] h (.int .i64 (ixB s 93)) h := by
  refine CD.quiet ?_ (low_int _ _ _)
  have b0 : byteAt ⟨#[93]⟩ 0 = 93 := rfl
  have z0 : (⟨#[93]⟩ : ByteArray).size = 1 := rfl
  refine CC.ofN Tryz.func182 Tryz.ntmps182 Tryz.results182 rfl (by decide) (by kernel_rfl) ?_
  simp (maxSteps := 1000000) -implicitDefEqProofs only [push_cast, seval, b0, z0]
  with_reducible refine bcase_d (fun hb => ?_) (fun hb => ?_)
  · subst hb
    simp (maxSteps := 1000000) -implicitDefEqProofs only [push_cast, seval]
    exact ⟨rfl, Keep.refl _ _⟩
  · simp (maxSteps := 1000000) -implicitDefEqProofs only [push_cast, seval, b0, z0]
    refine CD.to (slIndexByte_c _ 93 _) ?_
    simp (maxSteps := 1000000) -implicitDefEqProofs only [push_cast, seval]
    exact Keep.refl _ _
/-- What is cut at a bracket. -/
def cutO (T : ByteArray) : Value := if ixB T 93 < 0 then .tuple #[.string T, .string ⟨#[]⟩, .bool false] else .tuple #[.string (T.extract 0 (ixB T 93).toNat), .string (T.extract ((ixB T 93).toNat + 1) T.size), .bool true]
theorem slCut_c (T : ByteArray) (hT : T.size ≤ 1000) (h : AH) : CD Tryz.prog 181 [.string T, .string ⟨#[93]⟩] h (cutO T) h := by
  refine CD.quiet ?_ (by unfold cutO; split <;> exact low_tuple (by simp [low_string, low_bool]))
  have z0 : (⟨#[93]⟩ : ByteArray).size = 1 := rfl
  have hx := ixB_lt T 93 (by decide)
  refine CC.ofN Tryz.func181 Tryz.ntmps181 Tryz.results181 rfl (by decide) (by kernel_rfl) ?_
  simp (maxSteps := 1000000) -implicitDefEqProofs only [push_cast, seval]
  with_reducible refine CD.to (slIndex_c T _) ?_
  unfold cutO
  generalize ixB T 93 = x at hx
  simp (maxSteps := 1000000) -implicitDefEqProofs only [push_cast, seval, z0]
  with_reducible refine bcase_d (fun hb => ?_) (fun hb => ?_)
  · obtain ⟨o, rfl, ho⟩ : ∃ o : Nat, x = o ∧ o < T.size := by
      rcases hx with rfl | hx
      · omega
      · exact hx
    refine WC.draw' (by kernel_rfl) (by kernel_rfl) (.q 0 (.q 1 (.q 2 (.q 3 (.q 4 (.q 5 (.q 6 (.q 7 (.q 8 (.q 9 (.q 10 (.q 11 (.done))))))))))))) (by kernel_rfl) ?_
    simp (maxSteps := 1000000) -implicitDefEqProofs only [push_cast, seval, z0]
    rw [show IntKind.i64.wrap ((o : Int) + 1) = ((o + 1 : Nat) : Int) by rw [w64 (by omega) (by omega)]; omega, if_neg (by omega)]
    exact ⟨by omega, by omega, by omega, by omega, Int.le_refl _, rfl, Keep.refl _ _⟩
  · rw [if_pos (by omega)]
    simp (maxSteps := 1000000) -implicitDefEqProofs only [push_cast, seval]
    exact Keep.refl _ _
theorem Cut_c (T : ByteArray) (hT : T.size ≤ 1000) (h : AH) : CD Tryz.prog 180 [.string T, .string ⟨#[93]⟩] h (cutO T) h := by
  refine CD.quiet ?_ (by unfold cutO; split <;> exact low_tuple (by simp [low_string, low_bool]))
  refine CC.ofN Tryz.func180 Tryz.ntmps180 Tryz.results180 rfl (by decide) (by kernel_rfl) ?_
  simp (maxSteps := 1000000) -implicitDefEqProofs only [push_cast, seval]
  with_reducible refine CD.to (slCut_c T hT _) ?_
  unfold cutO
  by_cases hb : ixB T 93 < 0
  · rw [if_pos hb]
    simp (maxSteps := 1000000) -implicitDefEqProofs only [push_cast, seval]
    exact Keep.refl _ _
  · rw [if_neg hb]
    simp (maxSteps := 1000000) -implicitDefEqProofs only [push_cast, seval]
    exact Keep.refl _ _
end Go.Proofs.YtdlpdfclljnmhaaGreat
namespace Go.Proofs.YtdlpdfclljnmhaaGreat
open Go Go.Sim Go.Proofs
set_option linter.unusedSimpArgs false
set_option linter.unusedVariables false
set_option maxRecDepth 100000
set_option maxHeartbeats 1000000
theorem fr_to {n0 : Nat} {h0 h h' : AH} {R : Value → AH → Prop} {f : FuncId} {args : List Value} (a : Fr n0 h0 h) (hc : CC Tryz.prog f args h (fun v h' => Fr n0 h h' ∧ R v h')) : CC Tryz.prog f args h (fun v h' => Fr n0 h0 h' ∧ R v h') :=
  CC.mono hc (fun v h' ⟨x, y⟩ => ⟨a.trans x, y⟩)
theorem takeD (p : Nat) (s : ByteArray) (k : Nat) (bad : Bool) (v : Value) (c : Nat) (ci : Int) (hci : (c : Int) = ci) (h : AH) (e : h.ob p = .cells (cI s k bad v) .solo p) (hp : p < h.n) (hk : k ≤ s.size) (hs : s.size ≤ 24) :
    CD Tryz.prog 148 [.pointer (some ⟨p, 0, none⟩), .int .u8 ci] h (.bool (isAt s k c)) (if isAt s k c then h.set p (.cells (cI s (k + 1) bad v) .solo p) else h) := by
  subst hci
  exact take_c p s k bad v c h e hp hk hs
theorem putG (n0 p : Nat) (s : ByteArray) (k : Nat) (out : List Pc) (x : Value) (op : Nat) (oi : Int) (hoi : (op : Int) = oi) (text : ByteArray) (kids : List Nat) (h : AH) (G : Rg (cI s) s n0 p h k out) (hj : out.length ≤ 500) (r : RdV h x 1 encNa kids) (hl : kids.length ≤ 1000) :
    CC Tryz.prog 149 [.pointer (some ⟨p, 0, none⟩), .int .i64 oi, .string text, x] h (fun y h' => y = .int .i64 (out.length : Nat) ∧ Fr n0 h h' ∧ Rg (cI s) s n0 p h' k (out ++ [⟨op, text, kids⟩])) := by
  subst hoi
  obtain ⟨v, L, e, w, rfl⟩ := G.ex
  rw [List.length_map] at hj ⊢
  refine CC.mono (put_c n0 p s k false v x op text kids _ L.length h e G.lt G.le w.gr (flatP_len L) (by omega) w.vp r hl) (fun y h' hy => ?_)
  obtain ⟨hy, v', kv, q, e'⟩ := hy
  exact ⟨hy, q.fr G.lt G.le w.gr, q.good G.lt G.le G.hi w e'⟩
theorem putB (n0 p m : Nat) (s : ByteArray) (x : Value) (op : Nat) (oi : Int) (hoi : (op : Int) = oi) (text : ByteArray) (kids : List Nat) (h : AH) (G : Rb (cI s) s n0 p h m) (hj : m ≤ 500) (r : RdV h x 1 encNa kids) (hl : kids.length ≤ 1000) :
    CC Tryz.prog 149 [.pointer (some ⟨p, 0, none⟩), .int .i64 oi, .string text, x] h (fun y h' => (∃ r : Nat, y = .int .i64 (r : Nat)) ∧ Fr n0 h h' ∧ Rb (cI s) s n0 p h' (m + 1)) := by
  subst hoi
  obtain ⟨k, v, cs, j, a, b, c, d, e, f⟩ := G.ex
  refine CC.mono (put_c n0 p s k true v x op text kids _ j h b G.lt G.le c d (by omega) f r hl) (fun y h' hy => ?_)
  obtain ⟨hy, v', kv, q, e'⟩ := hy
  exact ⟨⟨_, hy⟩, q.fr G.lt G.le c, q.bad G.lt G.le a d e e'⟩
theorem takeB (n0 p m : Nat) (s : ByteArray) (c : Nat) (ci : Int) (hci : (c : Int) = ci) (h : AH) (G : Rb (cI s) s n0 p h m) (hs : s.size ≤ 24) :
    CC Tryz.prog 148 [.pointer (some ⟨p, 0, none⟩), .int .u8 ci] h (fun y h' => (∃ b : Bool, y = .bool b) ∧ Fr n0 h h' ∧ Rb (cI s) s n0 p h' m) := by
  subst hci
  obtain ⟨k, v, cs, j, a, b, cc, d, e, f⟩ := G.ex
  refine CC.mono (take_c p s k true v c h b G.lt a hs) (fun y h' hy => ?_)
  obtain ⟨rfl, rfl⟩ := hy
  refine ⟨⟨_, rfl⟩, ?_⟩
  by_cases hc : isAt s k c = true
  · rw [if_pos hc]
    have := isAt_lt hc
    exact ⟨(Fr.refl _ _).set G.le _, Rb.at G.lt G.le cc d e f (by omega)⟩
  · rw [if_neg hc]
    exact ⟨Fr.refl _ _, G⟩
theorem brk_ix (s : ByteArray) (b : Nat) (hb : b ≤ s.size) : brk s b = (if ixB (s.extract b s.size) 93 < 0 then s.size else b + (ixB (s.extract b s.size) 93).toNat) := by
  have t := Txt.of s b hb
  rcases ixB_lt (s.extract b s.size) 93 (by decide) with hx | ⟨o, hx, ho⟩
  · rw [if_pos (by omega)]
    refine brk_no b hb (fun i h1 h2 h3 => ?_)
    refine ixB_none (by decide) hx (i - b) (by rw [t.size]; omega) ?_
    rw [t.byte _ (by omega), show b + (i - b) = i by omega]; exact h3
  · rw [if_neg (by omega), hx]
    have hh := ixB_some (by decide) hx
    rw [t.size] at ho
    refine brk_yes b _ (by omega) (by omega) ?_ (fun i h1 h2 h3 => ?_)
    · rw [show ((o : Int)).toNat = o from rfl, ← t.byte o (by omega)]; exact hh.2.1
    · refine hh.2.2 (i - b) (by omega) ?_
      rw [t.byte _ (by omega), show b + (i - b) = i by omega]; exact h3
theorem set_i (n0 p : Nat) (s : ByteArray) (k : Nat) (out : List Pc) (h : AH) (hs : s.size ≤ 24) (G : Rg (cI s) s n0 p h k out) (hj : out.length + 2 * (s.size - k) ≤ 100) :
    CC Tryz.prog 174 [.pointer (some ⟨p, 0, none⟩)] h (Ro (cI s) s n0 p h (out.length + 2 * (s.size - k)) (pSet s k out)) := by
  have hp := G.lt
  have hn := G.le
  have hk := G.hi
  obtain ⟨v, L, e, w, hL⟩ := G.ex
  have hT0 := takeD p s k false v 94 94 rfl h e hp hk hs
  obtain ⟨b, hb⟩ : ∃ b, b = (if isAt s k 94 = true then k + 1 else k) := ⟨_, rfl⟩
  obtain ⟨h1, hh1⟩ : ∃ h1, h1 = (if isAt s k 94 = true then h.set p (.cells (cI s (k + 1) false v) .solo p) else h) := ⟨_, rfl⟩
  have hb1 : k ≤ b ∧ b ≤ s.size := by
    by_cases hc : isAt s k 94 = true
    · rw [if_pos hc] at hb; have := isAt_lt hc; omega
    · rw [if_neg hc] at hb; omega
  have e1 : h1.ob p = .cells [.string (s.extract b s.size), v, .bool false] .solo p := by
    by_cases hc : isAt s k 94 = true
    · rw [if_pos hc] at hb hh1; rw [hh1, hb]; exact set_same _ _
    · rw [if_neg hc] at hb hh1; rw [hh1, hb]; exact e
  have n1 : h1.n = h.n := by rw [hh1]; split <;> rfl
  have f1 : ∀ i, i ≠ p → h1.ob i = h.ob i := fun i hi => by rw [hh1]; split <;> first | exact set_ne _ hi | rfl
  have w1 : Pcs n0 p h1 v L := w.keep (by omega) (fun i _ hi => f1 i hi)
  have hp1 : p < h1.n := by omega
  have fr1 : Fr n0 h h1 := ⟨by omega, fun i hi => f1 i (by omega)⟩
  rw [← hh1] at hT0
  have t := Txt.of s b hb1.2
  have hbx := brk_ix s b hb1.2
  have hlt := ixB_lt (s.extract b s.size) 93 (by decide)
  have hC := Cut_c (s.extract b s.size) (by rw [t.size]; omega)
  have hle : L.length = out.length := by rw [← hL]; simp
  have eP : pSet s k out = (if brk s b = s.size ∨ brk s b = b then none else some (brk s b + 1, out ++ [⟨if isAt s k 94 then 4 else 3, s.extract b (brk s b), []⟩], out.length)) := by unfold pSet; rw [← hb]
  rw [eP]
  have bad : ∀ r : Nat, Ro (cI s) s n0 p h (out.length + 2 * (s.size - k)) none (.int .i64 (r : Nat)) (h1.set p (.cells [.string (s.extract b s.size), v, .bool true] .solo p)) := fun r =>
    ⟨fr1.set hn _, .inr ⟨rfl, ⟨r, rfl⟩, Rb.atP hp1 hn w1 (by omega) hb1.2⟩⟩
  unfold cutO at hC
  rw [t.size] at hC
  have ts := t.size
  have tm := t.mid
  have tr := t.rest
  generalize s.extract b s.size = T at *
  generalize ixB T 93 = x at *
  clear hh1 hb eP
  generalize hop : (if isAt s k 94 = true then 4 else 3) = op at *
  have op1 : isAt s k 94 = true → op = 4 := fun e => by rw [if_pos e] at hop; omega
  have op2 : isAt s k 94 = false → op = 3 := fun e => by rw [e] at hop; simp at hop; omega
  rcases hlt with rfl | ⟨o, rfl, ho⟩
  · rw [if_pos (by omega)] at hC hbx
    rw [if_pos (.inl hbx)]
    refine CC.ofN Tryz.func174 Tryz.ntmps174 Tryz.results174 rfl (by decide) (by kernel_rfl) ?_
    simp (maxSteps := 1000000) -implicitDefEqProofs only [push_cast, seval]
    with_reducible refine CD.to hT0 ?_
    simp (maxSteps := 1000000) -implicitDefEqProofs only [push_cast, seval]
    clear hT0
    cases hc : isAt s k 94 with
    | true =>
      simp (maxSteps := 1000000) -implicitDefEqProofs only [push_cast, seval, e1, rd_of e1, rd1_of e1, hp1]
      with_reducible refine CD.to (hC _) ?_
      simp (maxSteps := 1000000) -implicitDefEqProofs only [push_cast, seval, e1, rd_of e1, rd1_of e1, hp1]
      exact bad 0
    | false =>
      simp (maxSteps := 1000000) -implicitDefEqProofs only [push_cast, seval, e1, rd_of e1, rd1_of e1, hp1]
      with_reducible refine CD.to (hC _) ?_
      simp (maxSteps := 1000000) -implicitDefEqProofs only [push_cast, seval, e1, rd_of e1, rd1_of e1, hp1]
      exact bad 0
  · rw [if_neg (by omega), show ((o : Int)).toNat = o from rfl] at hC hbx
    have hE : (T.extract 0 o = ⟨#[]⟩) = (o = 0) := propext ⟨fun e => by
      have := congrArg ByteArray.size e
      rw [ByteArray.size_extract] at this
      have e0 : (⟨#[]⟩ : ByteArray).size = 0 := rfl
      omega, fun e => by subst e; exact ByteArray.ext (Array.eq_empty_of_size_eq_zero (by show (T.extract 0 0).size = 0; rw [ByteArray.size_extract]; omega))⟩
    have tm' := tm o (by omega)
    have tr' := tr (o + 1) (by omega)
    rw [hbx]
    have hP : pSet s k out = pSet s k out := rfl
    have good : 0 < o → ∀ (h2 : AH) (y : Value), (y = .int .i64 (out.length : Nat) ∧ Fr n0 (h1.set p (.cells (cI s (b + (o + 1)) false v) .solo p)) h2 ∧ Rg (cI s) s n0 p h2 (b + (o + 1)) (out ++ [⟨op, T.extract 0 o, []⟩])) →
        Ro (cI s) s n0 p h (out.length + 2 * (s.size - k)) (if b + o = s.size ∨ b + o = b then none else some (b + o + 1, out ++ [⟨op, s.extract b (b + o), []⟩], out.length)) y h2 := fun h0 h2 y hy => by
      rw [if_neg (by omega), ← tm']
      exact ⟨(fr1.set hn _).trans hy.2.1, .inl ⟨_, _, _, rfl, hy.1, hy.2.2⟩⟩
    have hR : Rg (cI s) s n0 p (h1.set p (.cells (cI s (b + (o + 1)) false v) .solo p)) (b + (o + 1)) out := by rw [← hL]; exact Rg.at hp1 hn w1 (by omega)
    have hU : ∀ oi : Int, (op : Int) = oi → _ := fun oi hoi => putG n0 p s (b + (o + 1)) out (.slice none 0 0) op oi hoi (T.extract 0 o) [] _ hR (by omega) (RdV.nil _ _ _ _) (by simp)
    simp only [cI] at hU
    refine CC.ofN Tryz.func174 Tryz.ntmps174 Tryz.results174 rfl (by decide) (by kernel_rfl) ?_
    simp (maxSteps := 1000000) -implicitDefEqProofs only [push_cast, seval]
    with_reducible refine CD.to hT0 ?_
    simp (maxSteps := 1000000) -implicitDefEqProofs only [push_cast, seval]
    clear hT0
    cases hc : isAt s k 94 with
    | true =>
      simp (maxSteps := 1000000) -implicitDefEqProofs only [push_cast, seval, e1, rd_of e1, rd1_of e1, hp1]
      with_reducible refine CD.to (hC _) ?_
      simp (maxSteps := 1000000) -implicitDefEqProofs only [push_cast, seval, e1, rd_of e1, rd1_of e1, hp1, hE]
      with_reducible refine bcase_d (fun hb => ?_) (fun hb => ?_)
      · rw [if_pos (.inr (by omega))]
        simp (maxSteps := 1000000) -implicitDefEqProofs only [push_cast, seval, e1, rd_of e1, rd1_of e1, hp1]
        exact bad 0
      · simp (maxSteps := 1000000) -implicitDefEqProofs only [push_cast, seval, e1, rd_of e1, rd1_of e1, hp1, tr']
        with_reducible refine CC.mono (hU 4 (by have := op1 hc; omega)) (fun y h2 hy => ?_)
        have gd := good (by omega) h2 y hy
        have ey := hy.1
        clear hy
        subst ey
        simp (maxSteps := 1000000) -implicitDefEqProofs only [push_cast, seval]
        exact gd
    | false =>
      simp (maxSteps := 1000000) -implicitDefEqProofs only [push_cast, seval, e1, rd_of e1, rd1_of e1, hp1]
      with_reducible refine CD.to (hC _) ?_
      simp (maxSteps := 1000000) -implicitDefEqProofs only [push_cast, seval, e1, rd_of e1, rd1_of e1, hp1, hE]
      with_reducible refine bcase_d (fun hb => ?_) (fun hb => ?_)
      · rw [if_pos (.inr (by omega))]
        simp (maxSteps := 1000000) -implicitDefEqProofs only [push_cast, seval, e1, rd_of e1, rd1_of e1, hp1]
        exact bad 0
      · simp (maxSteps := 1000000) -implicitDefEqProofs only [push_cast, seval, e1, rd_of e1, rd1_of e1, hp1, tr']
        with_reducible refine CC.mono (hU 3 (by have := op2 hc; omega)) (fun y h2 hy => ?_)
        have gd := good (by omega) h2 y hy
        have ey := hy.1
        clear hy
        subst ey
        simp (maxSteps := 1000000) -implicitDefEqProofs only [push_cast, seval]
        exact gd
end Go.Proofs.YtdlpdfclljnmhaaGreat
namespace Go.Proofs.YtdlpdfclljnmhaaGreat
open Go Go.Sim Go.Proofs
set_option linter.unusedSimpArgs false
set_option linter.unusedVariables false
set_option maxRecDepth 100000
set_option maxHeartbeats 1000000
theorem signs_all : ∀ c : Fin 256, decide (0 ≤ ixB ⟨#[42, 43, 63, 124, 40, 41, 91, 93, 46, 94, 36, 92]⟩ c.val) = special c.val := by decide
theorem signs_ix (c : Nat) (hc : c < 256) : (0 ≤ ixB ⟨#[42, 43, 63, 124, 40, 41, 91, 93, 46, 94, 36, 92]⟩ c) = (special c = true) := by
  rw [← signs_all ⟨c, hc⟩]; simp
theorem single_i (n0 p : Nat) (s : ByteArray) (k : Nat) (out : List Pc) (h : AH) (hs : s.size ≤ 24) (G : Rg (cI s) s n0 p h k out) (hj : out.length + 2 * (s.size - k) ≤ 100) :
    CC Tryz.prog 176 [.pointer (some ⟨p, 0, none⟩)] h (Ro (cI s) s n0 p h (out.length + 2 * (s.size - k)) (pSingle s k out)) := by
  have hp := G.lt
  have hn := G.le
  have hk := G.hi
  obtain ⟨v, L, e, w, hL⟩ := G.ex
  have hT0 := takeD p s k false v 92 92 rfl h e hp hk hs
  obtain ⟨b, hb⟩ : ∃ b, b = (if isAt s k 92 = true then k + 1 else k) := ⟨_, rfl⟩
  obtain ⟨h1, hh1⟩ : ∃ h1, h1 = (if isAt s k 92 = true then h.set p (.cells (cI s (k + 1) false v) .solo p) else h) := ⟨_, rfl⟩
  have hb1 : k ≤ b ∧ b ≤ s.size := by
    by_cases hc : isAt s k 92 = true
    · rw [if_pos hc] at hb; have := isAt_lt hc; omega
    · rw [if_neg hc] at hb; omega
  have e1 : h1.ob p = .cells [.string (s.extract b s.size), v, .bool false] .solo p := by
    by_cases hc : isAt s k 92 = true
    · rw [if_pos hc] at hb hh1; rw [hh1, hb]; exact set_same _ _
    · rw [if_neg hc] at hb hh1; rw [hh1, hb]; exact e
  have n1 : h1.n = h.n := by rw [hh1]; split <;> rfl
  have f1 : ∀ i, i ≠ p → h1.ob i = h.ob i := fun i hi => by rw [hh1]; split <;> first | exact set_ne _ hi | rfl
  have w1 : Pcs n0 p h1 v L := w.keep (by omega) (fun i _ hi => f1 i hi)
  have hp1 : p < h1.n := by omega
  have fr1 : Fr n0 h h1 := ⟨by omega, fun i hi => f1 i (by omega)⟩
  rw [← hh1] at hT0
  have t := Txt.of s b hb1.2
  have hle : L.length = out.length := by rw [← hL]; simp
  have eP : pSingle s k out = (if b < s.size ∧ isAt s k 92 = special (byteAt s b).toNat then some (b + 1, out ++ [⟨1, s.extract b (b + 1), []⟩], out.length) else none) := by unfold pSingle; rw [← hb]
  rw [eP]
  have bad : ∀ r : Nat, Ro (cI s) s n0 p h (out.length + 2 * (s.size - k)) none (.int .i64 (r : Nat)) (h1.set p (.cells [.string (s.extract b s.size), v, .bool true] .solo p)) := fun r =>
    ⟨fr1.set hn _, .inr ⟨rfl, ⟨r, rfl⟩, Rb.atP hp1 hn w1 (by omega) hb1.2⟩⟩
  have ts := t.size
  have tE := t.emp
  by_cases hbs : b < s.size
  · have tm := t.mid 1 (by omega)
    have tr := t.rest 1 (by omega)
    have tb := t.byte 0 (by omega)
    rw [Nat.add_zero] at tb
    have tb := congrArg UInt8.toNat tb
    have hsp := signs_ix (byteAt s b).toNat (by have := (byteAt s b).toNat_lt; omega)
    have good : ∀ (h2 : AH) (y : Value), (y = .int .i64 (out.length : Nat) ∧ Fr n0 (h1.set p (.cells (cI s (b + 1) false v) .solo p)) h2 ∧ Rg (cI s) s n0 p h2 (b + 1) (out ++ [⟨1, s.extract b (b + 1), []⟩])) →
        Ro (cI s) s n0 p h (out.length + 2 * (s.size - k)) (some (b + 1, out ++ [⟨1, s.extract b (b + 1), []⟩], out.length)) y h2 := fun h2 y hy =>
      ⟨(fr1.set hn _).trans hy.2.1, .inl ⟨_, _, _, rfl, hy.1, hy.2.2⟩⟩
    have hR : Rg (cI s) s n0 p (h1.set p (.cells (cI s (b + 1) false v) .solo p)) (b + 1) out := by rw [← hL]; exact Rg.at hp1 hn w1 (by omega)
    have hU := putG n0 p s (b + 1) out (.slice none 0 0) 1 1 rfl (s.extract b (b + 1)) [] _ hR (by omega) (RdV.nil _ _ _ _) (by simp)
    simp only [cI] at hU
    have hI := IndexByte_c ⟨#[42, 43, 63, 124, 40, 41, 91, 93, 46, 94, 36, 92]⟩ (byteAt s b).toNat
    generalize s.extract b s.size = T at *
    generalize (byteAt s b).toNat = B at *
    generalize ixB ⟨#[42, 43, 63, 124, 40, 41, 91, 93, 46, 94, 36, 92]⟩ B = x at *
    clear hh1 hb eP
    refine CC.ofN Tryz.func176 Tryz.ntmps176 Tryz.results176 rfl (by decide) (by kernel_rfl) ?_
    simp (maxSteps := 1000000) -implicitDefEqProofs only [push_cast, seval]
    with_reducible refine CD.to hT0 ?_
    simp (maxSteps := 1000000) -implicitDefEqProofs only [push_cast, seval]
    clear hT0
    simp (maxSteps := 1000000) -implicitDefEqProofs only [push_cast, seval, e1, rd_of e1, rd1_of e1, hp1, tE, ts, tb]
    with_reducible refine bcase_d (fun hb => ?_) (fun hb => ?_)
    · exfalso; omega
    simp (maxSteps := 1000000) -implicitDefEqProofs only [push_cast, seval, e1, rd_of e1, rd1_of e1, hp1, tE, ts, tb]
    repeat (with_reducible refine And.intro ?_ ?_; · (first | omega | decide))
    with_reducible refine CD.to (hI _) ?_
    simp (maxSteps := 1000000) -implicitDefEqProofs only [push_cast, seval, e1, rd_of e1, rd1_of e1, hp1, tE, ts, tb, hsp]
    with_reducible refine bcase_mk (fun hb => ?_) (fun hb => ?_)
    · have hb' : isAt s k 92 = special B := by
        have := beq_iff_eq.1 hb
        rw [this]; simp
      rw [if_pos ⟨hbs, hb'⟩]
      simp (maxSteps := 1000000) -implicitDefEqProofs only [push_cast, seval, e1, rd_of e1, rd1_of e1, hp1, tE, ts, tb, tm, tr]
      repeat (with_reducible refine And.intro ?_ ?_; · (first | omega | decide))
      with_reducible refine CC.mono hU (fun y h2 hy => ?_)
      have gd := good h2 y hy
      have ey := hy.1
      clear hy
      subst ey
      simp (maxSteps := 1000000) -implicitDefEqProofs only [push_cast, seval]
      exact gd
    · have hb' : ¬ isAt s k 92 = special B := fun hh => by rw [hh] at hb; simp at hb
      rw [if_neg (fun hh => hb' hh.2)]
      simp (maxSteps := 1000000) -implicitDefEqProofs only [push_cast, seval, e1, rd_of e1, rd1_of e1, hp1, tE, ts, tb]
      exact bad 0
  · rw [if_neg (fun hh => hbs hh.1)]
    generalize s.extract b s.size = T at *
    clear hh1 hb eP
    have tN : T = ⟨#[]⟩ := by rw [tE]; omega
    refine CC.ofN Tryz.func176 Tryz.ntmps176 Tryz.results176 rfl (by decide) (by kernel_rfl) ?_
    simp (maxSteps := 1000000) -implicitDefEqProofs only [push_cast, seval]
    with_reducible refine CD.to hT0 ?_
    simp (maxSteps := 1000000) -implicitDefEqProofs only [push_cast, seval]
    clear hT0
    simp (maxSteps := 1000000) -implicitDefEqProofs only [push_cast, seval, e1, rd_of e1, rd1_of e1, hp1, tN]
    rw [tN] at bad
    exact bad 0
end Go.Proofs.YtdlpdfclljnmhaaGreat
namespace Go.Proofs.YtdlpdfclljnmhaaGreat
open Go Go.Sim Go.Proofs
set_option linter.unusedSimpArgs false
set_option linter.unusedVariables false
set_option maxRecDepth 100000
set_option maxHeartbeats 1000000
/-- What a reading method owes, from a place on. -/
def OweI (fn : FuncId) (s : ByteArray) (lo : Nat) (rd : Nat → List Pc → PRes) : Prop := ∀ n0 p k out h, lo ≤ k → Rg (cI s) s n0 p h k out → out.length + 2 * (s.size - k) ≤ 100 → CC Tryz.prog fn [.pointer (some ⟨p, 0, none⟩)] h (Ro (cI s) s n0 p h (out.length + 2 * (s.size - k)) (rd k out))
theorem group_i (n0 p : Nat) (s : ByteArray) (k : Nat) (out : List Pc) (h : AH) (hs : s.size ≤ 24) (alt : Nat → List Pc → PRes) (ha : OweI 129 s k alt) (hg : GoodR 1 s alt) (G : Rg (cI s) s n0 p h k out) (hj : out.length + 2 * (s.size - k) ≤ 100) :
    CC Tryz.prog 175 [.pointer (some ⟨p, 0, none⟩)] h (Ro (cI s) s n0 p h (out.length + 2 * (s.size - k) + 1) (pClose s (alt k out))) := by
  have hA := ha n0 p k out h (Nat.le_refl _) G hj
  have hb0 := fun k' o' r => hg k out k' o' r G.hi
  generalize alt k out = res at *
  have hn := G.le
  refine CC.ofN Tryz.func175 Tryz.ntmps175 Tryz.results175 rfl (by decide) (by kernel_rfl) ?_
  simp (maxSteps := 1000000) -implicitDefEqProofs only [push_cast, seval]
  with_reducible refine CC.mono hA (fun y h1 hy => ?_)
  with_reducible refine hy.cases (fun k1 o1 r1 er ey f1 G1 => ?_) (fun er r1 ey f1 B1 => ?_)
  · clear hy
    subst ey er
    have hb1 := (hb0 _ _ _ rfl).pot
    have hp1 := G1.lt
    have hk1 := G1.hi
    with_reducible refine G1.cell (fun v L e w hL hl => ?_)
    have hT := takeD p s k1 false v 41 41 rfl h1 e G1.lt G1.hi hs
    simp only [cI] at e
    simp (maxSteps := 1000000) -implicitDefEqProofs only [push_cast, seval]
    with_reducible refine CD.to hT ?_
    clear hT
    simp only [pClose]
    cases hc : isAt s k1 41 with
    | true =>
      simp (maxSteps := 1000000) -implicitDefEqProofs only [push_cast, seval, e, rd_of e, rd1_of e, hp1]
      have := isAt_lt hc
      refine Ro.some (f1.set hn _) ?_
      rw [← hL]
      exact Rg.at hp1 hn w (by omega)
    | false =>
      simp (maxSteps := 1000000) -implicitDefEqProofs only [push_cast, seval, e, rd_of e, rd1_of e, hp1]
      exact Ro.none (f1.set hn _) (Rb.atP hp1 hn w (by omega) hk1)
  · clear hy
    subst ey er
    simp (maxSteps := 1000000) -implicitDefEqProofs only [push_cast, seval]
    with_reducible refine CC.mono (takeB n0 p _ s 41 41 rfl h1 B1 hs) (fun y2 h2 hy2 => ?_)
    with_reducible refine Exists.elim hy2.1 (fun b eb => ?_)
    have f2 := hy2.2.1
    have B2 := hy2.2.2
    clear hy2
    subst eb
    have hp2 := B2.lt
    with_reducible refine B2.cell (fun k v cs j a e g d c f => ?_)
    simp only [cI] at e
    simp (maxSteps := 1000000) -implicitDefEqProofs only [push_cast, seval]
    with_reducible refine bcase_mk (fun hb => ?_) (fun hb => ?_)
    · simp (maxSteps := 1000000) -implicitDefEqProofs only [push_cast, seval, e, rd_of e, rd1_of e, hp2]
      exact Ro.none (f1.trans f2) (B2.mono (by omega))
    · simp (maxSteps := 1000000) -implicitDefEqProofs only [push_cast, seval, e, rd_of e, rd1_of e, hp2]
      exact Ro.none ((f1.trans f2).set hn _) (Rb.at hp2 hn g d (by omega) f a)
theorem base_i (n0 p : Nat) (s : ByteArray) (k : Nat) (out : List Pc) (h : AH) (hs : s.size ≤ 24) (alt : Nat → List Pc → PRes) (ha : OweI 129 s (k + 1) alt) (hg : GoodR 1 s alt) (G : Rg (cI s) s n0 p h k out) (hj : out.length + 2 * (s.size - k) ≤ 100) :
    CC Tryz.prog 171 [.pointer (some ⟨p, 0, none⟩)] h (Ro (cI s) s n0 p h (out.length + 2 * (s.size - k)) (pBase alt s k out)) := by
  have hp := G.lt
  have hn := G.le
  have hk := G.hi
  with_reducible refine G.cell (fun v L e w hL hl => ?_)
  have hT := fun (c : Nat) (ci : Int) (hci : (c : Int) = ci) => takeD p s k false v c ci hci h e hp hk hs
  have hm : ∀ c, isAt s k c = true → Rg (cI s) s n0 p (h.set p (.cells (cI s (k + 1) false v) .solo p)) (k + 1) out ∧ k < s.size := fun c hc => by
    have := isAt_lt hc
    rw [← hL]
    exact ⟨Rg.at hp hn w (by omega), this⟩
  have fr : Fr n0 h (h.set p (.cells (cI s (k + 1) false v) .solo p)) := (Fr.refl _ _).set hn _
  generalize hH : h.set p (.cells (cI s (k + 1) false v) .solo p) = H at *
  have leaf : ∀ (op : Nat) (oi : Int) (hoi : (op : Int) = oi) (c : Nat), isAt s k c = true → CC Tryz.prog 149 [.pointer (some ⟨p, 0, none⟩), .int .i64 oi, .string ⟨#[]⟩, .slice none 0 0] H (Ro (cI s) s n0 p h (out.length + 2 * (s.size - k)) (some (k + 1, out ++ [⟨op, ⟨#[]⟩, []⟩], out.length))) := fun op oi hoi c hc =>
    CC.mono (putG n0 p s (k + 1) out (.slice none 0 0) op oi hoi ⟨#[]⟩ [] H (hm c hc).1 (by omega) (RdV.nil _ _ _ _) (by simp)) (fun y h2 hy => by rw [hy.1]; exact Ro.some (fr.trans hy.2.1) hy.2.2)
  have dT : ∀ (c : Nat) (ci : Int) (hci : (c : Int) = ci), isAt s k c = true → CD Tryz.prog 148 [.pointer (some ⟨p, 0, none⟩), .int .u8 ci] h (.bool true) H := fun c ci hci hc => by have := hT c ci hci; rw [hc] at this; exact this
  have dF : ∀ (c : Nat) (ci : Int) (hci : (c : Int) = ci), isAt s k c = false → CD Tryz.prog 148 [.pointer (some ⟨p, 0, none⟩), .int .u8 ci] h (.bool false) h := fun c ci hci hc => by have := hT c ci hci; rw [hc] at this; exact this
  clear hT
  unfold pBase
  by_cases x0 : isAt s k 94 = true
  · rw [if_pos x0]
    refine CC.ofN Tryz.func171 Tryz.ntmps171 Tryz.results171 rfl (by decide) (by kernel_rfl) ?_
    simp (maxSteps := 1000000) -implicitDefEqProofs only [push_cast, seval]
    with_reducible refine CD.to (dT 94 94 rfl x0) ?_
    simp (maxSteps := 1000000) -implicitDefEqProofs only [push_cast, seval]
    with_reducible refine CC.mono (leaf 10 10 rfl 94 x0) (fun y h2 hy => ?_)
    simp (maxSteps := 1000000) -implicitDefEqProofs only [push_cast, seval]
    exact hy
  rw [if_neg x0]
  have c0 := Bool.eq_false_iff.2 x0
  by_cases x1 : isAt s k 36 = true
  · rw [if_pos x1]
    refine CC.ofN Tryz.func171 Tryz.ntmps171 Tryz.results171 rfl (by decide) (by kernel_rfl) ?_
    simp (maxSteps := 1000000) -implicitDefEqProofs only [push_cast, seval]
    with_reducible refine CD.to (dF 94 94 rfl c0) ?_
    simp (maxSteps := 1000000) -implicitDefEqProofs only [push_cast, seval]
    with_reducible refine CD.to (dT 36 36 rfl x1) ?_
    simp (maxSteps := 1000000) -implicitDefEqProofs only [push_cast, seval]
    with_reducible refine CC.mono (leaf 11 11 rfl 36 x1) (fun y h2 hy => ?_)
    simp (maxSteps := 1000000) -implicitDefEqProofs only [push_cast, seval]
    exact hy
  rw [if_neg x1]
  have c1 := Bool.eq_false_iff.2 x1
  by_cases x2 : isAt s k 46 = true
  · rw [if_pos x2]
    refine CC.ofN Tryz.func171 Tryz.ntmps171 Tryz.results171 rfl (by decide) (by kernel_rfl) ?_
    simp (maxSteps := 1000000) -implicitDefEqProofs only [push_cast, seval]
    with_reducible refine CD.to (dF 94 94 rfl c0) ?_
    simp (maxSteps := 1000000) -implicitDefEqProofs only [push_cast, seval]
    with_reducible refine CD.to (dF 36 36 rfl c1) ?_
    simp (maxSteps := 1000000) -implicitDefEqProofs only [push_cast, seval]
    with_reducible refine CD.to (dT 46 46 rfl x2) ?_
    simp (maxSteps := 1000000) -implicitDefEqProofs only [push_cast, seval]
    with_reducible refine CC.mono (leaf 2 2 rfl 46 x2) (fun y h2 hy => ?_)
    simp (maxSteps := 1000000) -implicitDefEqProofs only [push_cast, seval]
    exact hy
  rw [if_neg x2]
  have c2 := Bool.eq_false_iff.2 x2
  by_cases x3 : isAt s k 91 = true
  · rw [if_pos x3]
    refine CC.ofN Tryz.func171 Tryz.ntmps171 Tryz.results171 rfl (by decide) (by kernel_rfl) ?_
    simp (maxSteps := 1000000) -implicitDefEqProofs only [push_cast, seval]
    with_reducible refine CD.to (dF 94 94 rfl c0) ?_
    simp (maxSteps := 1000000) -implicitDefEqProofs only [push_cast, seval]
    with_reducible refine CD.to (dF 36 36 rfl c1) ?_
    simp (maxSteps := 1000000) -implicitDefEqProofs only [push_cast, seval]
    with_reducible refine CD.to (dF 46 46 rfl c2) ?_
    simp (maxSteps := 1000000) -implicitDefEqProofs only [push_cast, seval]
    with_reducible refine CD.to (dT 91 91 rfl x3) ?_
    simp (maxSteps := 1000000) -implicitDefEqProofs only [push_cast, seval]
    have hx := (hm 91 x3).2
    with_reducible refine CC.mono (set_i n0 p s (k + 1) out H hs (hm 91 x3).1 (by omega)) (fun y h2 hy => ?_)
    simp (maxSteps := 1000000) -implicitDefEqProofs only [push_cast, seval]
    exact hy.from fr (by omega)
  rw [if_neg x3]
  have c3 := Bool.eq_false_iff.2 x3
  by_cases x4 : isAt s k 40 = true
  · rw [if_pos x4]
    refine CC.ofN Tryz.func171 Tryz.ntmps171 Tryz.results171 rfl (by decide) (by kernel_rfl) ?_
    simp (maxSteps := 1000000) -implicitDefEqProofs only [push_cast, seval]
    with_reducible refine CD.to (dF 94 94 rfl c0) ?_
    simp (maxSteps := 1000000) -implicitDefEqProofs only [push_cast, seval]
    with_reducible refine CD.to (dF 36 36 rfl c1) ?_
    simp (maxSteps := 1000000) -implicitDefEqProofs only [push_cast, seval]
    with_reducible refine CD.to (dF 46 46 rfl c2) ?_
    simp (maxSteps := 1000000) -implicitDefEqProofs only [push_cast, seval]
    with_reducible refine CD.to (dF 91 91 rfl c3) ?_
    simp (maxSteps := 1000000) -implicitDefEqProofs only [push_cast, seval]
    with_reducible refine CD.to (dT 40 40 rfl x4) ?_
    simp (maxSteps := 1000000) -implicitDefEqProofs only [push_cast, seval]
    have hx := (hm 40 x4).2
    with_reducible refine CC.mono (group_i n0 p s (k + 1) out H hs alt ha hg (hm 40 x4).1 (by omega)) (fun y h2 hy => ?_)
    simp (maxSteps := 1000000) -implicitDefEqProofs only [push_cast, seval]
    exact hy.from fr (by omega)
  rw [if_neg x4]
  have c4 := Bool.eq_false_iff.2 x4
  refine CC.ofN Tryz.func171 Tryz.ntmps171 Tryz.results171 rfl (by decide) (by kernel_rfl) ?_
  simp (maxSteps := 1000000) -implicitDefEqProofs only [push_cast, seval]
  with_reducible refine CD.to (dF 94 94 rfl c0) ?_
  simp (maxSteps := 1000000) -implicitDefEqProofs only [push_cast, seval]
  with_reducible refine CD.to (dF 36 36 rfl c1) ?_
  simp (maxSteps := 1000000) -implicitDefEqProofs only [push_cast, seval]
  with_reducible refine CD.to (dF 46 46 rfl c2) ?_
  simp (maxSteps := 1000000) -implicitDefEqProofs only [push_cast, seval]
  with_reducible refine CD.to (dF 91 91 rfl c3) ?_
  simp (maxSteps := 1000000) -implicitDefEqProofs only [push_cast, seval]
  with_reducible refine CD.to (dF 40 40 rfl c4) ?_
  simp (maxSteps := 1000000) -implicitDefEqProofs only [push_cast, seval]
  with_reducible refine CC.mono (single_i n0 p s k out h hs G (by omega)) (fun y h2 hy => ?_)
  simp (maxSteps := 1000000) -implicitDefEqProofs only [push_cast, seval]
  exact hy
end Go.Proofs.YtdlpdfclljnmhaaGreat
namespace Go.Proofs.YtdlpdfclljnmhaaGreat
open Go Go.Sim Go.Proofs
set_option linter.unusedSimpArgs false
set_option linter.unusedVariables false
set_option maxRecDepth 100000
set_option maxHeartbeats 1000000
theorem takeG (n0 p : Nat) (s : ByteArray) (k : Nat) (out : List Pc) (c : Nat) (ci : Int) (hci : (c : Int) = ci) (h : AH) (hs : s.size ≤ 24) (G : Rg (cI s) s n0 p h k out) :
    CC Tryz.prog 148 [.pointer (some ⟨p, 0, none⟩), .int .u8 ci] h (fun y h' => (isAt s k c = true ∧ y = .bool true ∧ Fr n0 h h' ∧ Rg (cI s) s n0 p h' (k + 1) out) ∨ (isAt s k c = false ∧ y = .bool false ∧ h' = h)) := by
  obtain ⟨v, L, e, w, hL⟩ := G.ex
  refine CC.mono (takeD p s k false v c ci hci h e G.lt G.hi hs) (fun y h' hy => ?_)
  obtain ⟨rfl, rfl⟩ := hy
  cases hc : isAt s k c with
  | true =>
    have := isAt_lt hc
    refine .inl ⟨rfl, rfl, (Fr.refl _ _).set G.le _, ?_⟩
    rw [← hL]
    exact Rg.at G.lt G.le w (by omega)
  | false => exact .inr ⟨rfl, rfl, rfl⟩
theorem putG1 (n0 p : Nat) (s : ByteArray) (k : Nat) (out : List Pc) (op r : Nat) (oi : Int) (hoi : (op : Int) = oi) (h : AH) (G : Rg (cI s) s n0 p h k out) (hj : out.length ≤ 500) :
    CC Tryz.prog 149 [.pointer (some ⟨p, 0, none⟩), .int .i64 oi, .string ⟨#[]⟩, .slice (some ⟨h.n, 0, none⟩) 1 1] (h.alloc (.cells [.int .i64 (r : Nat)] .solo h.n)) (fun y h' => y = .int .i64 (out.length : Nat) ∧ Fr n0 h h' ∧ Rg (cI s) s n0 p h' k (out ++ [⟨op, ⟨#[]⟩, [r]⟩])) :=
  CC.mono (putG n0 p s k out _ op oi hoi ⟨#[]⟩ [r] _ (G.pre ((Pre.refl h).alloc _)) hj (RdV.lit [r] 1) (by simp)) (fun y h' hy => ⟨hy.1, ((Fr.refl n0 h).alloc (by have := G.lt; have := G.le; omega) _).trans hy.2.1, hy.2.2⟩)
theorem putG2 (n0 p : Nat) (s : ByteArray) (k : Nat) (out : List Pc) (op r r' : Nat) (oi : Int) (hoi : (op : Int) = oi) (h : AH) (G : Rg (cI s) s n0 p h k out) (hj : out.length ≤ 500) :
    CC Tryz.prog 149 [.pointer (some ⟨p, 0, none⟩), .int .i64 oi, .string ⟨#[]⟩, .slice (some ⟨h.n, 0, none⟩) 2 1] (h.alloc (.cells [.int .i64 (r : Nat), .int .i64 (r' : Nat)] .solo h.n)) (fun y h' => y = .int .i64 (out.length : Nat) ∧ Fr n0 h h' ∧ Rg (cI s) s n0 p h' k (out ++ [⟨op, ⟨#[]⟩, [r, r']⟩])) :=
  CC.mono (putG n0 p s k out _ op oi hoi ⟨#[]⟩ [r, r'] _ (G.pre ((Pre.refl h).alloc _)) hj (RdV.lit [r, r'] 1) (by simp)) (fun y h' hy => ⟨hy.1, ((Fr.refl n0 h).alloc (by have := G.lt; have := G.le; omega) _).trans hy.2.1, hy.2.2⟩)
theorem putB2 (n0 p m : Nat) (s : ByteArray) (op r r' : Nat) (oi : Int) (hoi : (op : Int) = oi) (h : AH) (G : Rb (cI s) s n0 p h m) (hj : m ≤ 500) :
    CC Tryz.prog 149 [.pointer (some ⟨p, 0, none⟩), .int .i64 oi, .string ⟨#[]⟩, .slice (some ⟨h.n, 0, none⟩) 2 1] (h.alloc (.cells [.int .i64 (r : Nat), .int .i64 (r' : Nat)] .solo h.n)) (fun y h' => (∃ r : Nat, y = .int .i64 (r : Nat)) ∧ Fr n0 h h' ∧ Rb (cI s) s n0 p h' (m + 1)) :=
  CC.mono (putB n0 p m s _ op oi hoi ⟨#[]⟩ [r, r'] _ (G.pre ((Pre.refl h).alloc _)) hj (RdV.lit [r, r'] 1) (by simp)) (fun y h' hy => ⟨hy.1, ((Fr.refl n0 h).alloc (by have := G.lt; have := G.le; omega) _).trans hy.2.1, hy.2.2⟩)
/-- Where a loop stands: g is what may be done yet, cont what comes of it. -/
def LpI (s : ByteArray) (n0 p : Nat) (h : AH) (m : Nat) (cont : Nat → Nat → List Pc → Nat → PRes) (res : PRes) (a : Nat × Nat × List Pc × Nat) (h' : AH) : Prop :=
  Fr n0 h h' ∧ ((s.size - a.2.1 < a.1 ∧ Rg (cI s) s n0 p h' a.2.1 a.2.2.1 ∧ cont a.1 a.2.1 a.2.2.1 a.2.2.2 = res ∧ a.2.2.1.length + 2 * (s.size - a.2.1) ≤ m) ∨ (a.1 = 0 ∧ res = none ∧ Rb (cI s) s n0 p h' m))
def LgI (s : ByteArray) (n0 p : Nat) (h : AH) (m : Nat) (cont : Nat → Nat → List Pc → Nat → PRes) (res : PRes) (a : Nat × Nat × List Pc × Nat) (h' : AH) : Prop :=
  Fr n0 h h' ∧ s.size - a.2.1 < a.1 ∧ Rg (cI s) s n0 p h' a.2.1 a.2.2.1 ∧ cont a.1 a.2.1 a.2.2.1 a.2.2.2 = res ∧ a.2.2.1.length + 2 * (s.size - a.2.1) ≤ m
theorem thing_i (n0 p : Nat) (s : ByteArray) (k : Nat) (out : List Pc) (h : AH) (hs : s.size ≤ 24) (alt : Nat → List Pc → PRes) (ha : OweI 129 s (k + 1) alt) (hg : GoodR 1 s alt) (G : Rg (cI s) s n0 p h k out) (hj : out.length + 2 * (s.size - k) ≤ 100) :
    CC Tryz.prog 164 [.pointer (some ⟨p, 0, none⟩)] h (Ro (cI s) s n0 p h (out.length + 2 * (s.size - k)) (pThing alt s k out)) := by
  have hb0 := fun k' o' r => pBase_gd hg k out k' o' r G.hi
  have hB := base_i n0 p s k out h hs alt ha hg G hj
  have hp := G.lt
  have hn := G.le
  generalize hm : out.length + 2 * (s.size - k) = m at *
  unfold pThing
  generalize pBase alt s k out = res at *
  refine CC.ofN Tryz.func164 Tryz.ntmps164 Tryz.results164 rfl (by decide) (by kernel_rfl) ?_
  simp (maxSteps := 1000000) -implicitDefEqProofs only [push_cast, seval]
  with_reducible refine CC.mono hB (fun y h1 hy => ?_)
  clear hB
  with_reducible refine hy.cases (fun k1 o1 r1 er ey f1 G1 => ?_) (fun er r1 ey f1 B1 => ?_)
  · clear hy
    subst ey er
    have hb1 := (hb0 _ _ _ rfl).pot
    have hp1 := G1.lt
    have hk1 := G1.hi
    simp (maxSteps := 1000000) -implicitDefEqProofs only [push_cast, seval]
    simp only
    generalize hres : some (pStars s (s.size + 1) k1 o1 r1) = res
    refine WC.loopA (by kernel_rfl) [3] [2, 6, 7, 8, 9, 10, 11, 12, 13, 14, 15, 16, 17, 18, 19, 20, 21, 22, 23, 24, 25, 26, 27, 28, 29, 30, 31, 32] (fun a : Nat × Nat × List Pc × Nat => [.int .i64 (a.2.2.2 : Nat)]) (LgI s n0 p h m (fun g k o r => some (pStars s g k o r)) res) (fun a => a.1) (s.size + 1, k1, o1, r1) (by kernel_rfl) ⟨f1, by show s.size - k1 < s.size + 1; omega, G1, hres, by show o1.length + 2 * (s.size - k1) ≤ m; omega⟩ ?_
    clear G1 hp1 hk1 f1 hres
    intro a g h2 hJ
    unfold LgI at hJ
    have f2 := hJ.1
    have hg2 := hJ.2.1
    have G2 := hJ.2.2.1
    have hr2 := hJ.2.2.2.1
    have hb2 := hJ.2.2.2.2
    clear hJ
    simp only at hr2
    have hp2 := G2.lt
    with_reducible refine G2.cell (fun v L e w hL hl2 => ?_)
    simp only [cI] at e
    have hk2 := G2.hi
    simp (maxSteps := 1000000) -implicitDefEqProofs only [push_cast, seval, e, rd_of e, rd1_of e, hp2]
    with_reducible refine CC.mono (takeG n0 p s _ _ 42 42 rfl h2 hs G2) (fun y h3 hy => ?_)
    with_reducible refine Or.elim hy (fun hy => ?_) (fun hy => ?_)
    · have c1 := hy.1
      have ey := hy.2.1
      have f3 := hy.2.2.1
      have G3 := hy.2.2.2
      have := isAt_lt c1
      clear hy
      subst ey
      simp (maxSteps := 1000000) -implicitDefEqProofs only [push_cast, seval]
      with_reducible refine CC.mono (putG1 n0 p s _ _ 7 a.2.2.2 7 rfl h3 G3 (by omega)) (fun y h4 hy => ?_)
      have ey := hy.1
      have f4 := hy.2.1
      have G4 := hy.2.2
      clear hy
      subst ey
      simp (maxSteps := 1000000) -implicitDefEqProofs only [push_cast, seval]
      refine ⟨(a.1 - 1, a.2.1 + 1, a.2.2.1 ++ [⟨7, ⟨#[]⟩, [a.2.2.2]⟩], a.2.2.1.length), by kernel_rfl, ⟨f2.trans (f3.trans f4), by show s.size - (a.2.1 + 1) < a.1 - 1; omega, G4, ?_, by show (a.2.2.1 ++ [_]).length + 2 * (s.size - (a.2.1 + 1)) ≤ m; rw [List.length_append]; simp only [List.length_cons, List.length_nil]; omega⟩, by show a.1 - 1 < a.1; omega⟩
      rw [← hr2]
      obtain ⟨g0, hg0⟩ : ∃ g0, a.1 = g0 + 1 := ⟨a.1 - 1, by omega⟩
      rw [hg0]
      simp only [pStars, c1, if_true, Bool.false_eq_true, if_false, Nat.add_sub_cancel]
    · have c1 := hy.1
      have ey := hy.2.1
      have eh := hy.2.2.symm
      clear hy
      subst ey eh
      simp (maxSteps := 1000000) -implicitDefEqProofs only [push_cast, seval]
      with_reducible refine CC.mono (takeG n0 p s _ _ 43 43 rfl h2 hs G2) (fun y h3 hy => ?_)
      with_reducible refine Or.elim hy (fun hy => ?_) (fun hy => ?_)
      · have c2 := hy.1
        have ey := hy.2.1
        have f3 := hy.2.2.1
        have G3 := hy.2.2.2
        have := isAt_lt c2
        clear hy
        subst ey
        simp (maxSteps := 1000000) -implicitDefEqProofs only [push_cast, seval]
        with_reducible refine CC.mono (putG1 n0 p s _ _ 8 a.2.2.2 8 rfl h3 G3 (by omega)) (fun y h4 hy => ?_)
        have ey := hy.1
        have f4 := hy.2.1
        have G4 := hy.2.2
        clear hy
        subst ey
        simp (maxSteps := 1000000) -implicitDefEqProofs only [push_cast, seval]
        refine ⟨(a.1 - 1, a.2.1 + 1, a.2.2.1 ++ [⟨8, ⟨#[]⟩, [a.2.2.2]⟩], a.2.2.1.length), by kernel_rfl, ⟨f2.trans (f3.trans f4), by show s.size - (a.2.1 + 1) < a.1 - 1; omega, G4, ?_, by show (a.2.2.1 ++ [_]).length + 2 * (s.size - (a.2.1 + 1)) ≤ m; rw [List.length_append]; simp only [List.length_cons, List.length_nil]; omega⟩, by show a.1 - 1 < a.1; omega⟩
        rw [← hr2]
        obtain ⟨g0, hg0⟩ : ∃ g0, a.1 = g0 + 1 := ⟨a.1 - 1, by omega⟩
        rw [hg0]
        simp only [pStars, c1, c2, if_true, Bool.false_eq_true, if_false, Nat.add_sub_cancel]
      · have c2 := hy.1
        have ey := hy.2.1
        have eh := hy.2.2.symm
        clear hy
        subst ey eh
        simp (maxSteps := 1000000) -implicitDefEqProofs only [push_cast, seval]
        with_reducible refine CC.mono (takeG n0 p s _ _ 63 63 rfl h2 hs G2) (fun y h3 hy => ?_)
        with_reducible refine Or.elim hy (fun hy => ?_) (fun hy => ?_)
        · have c3 := hy.1
          have ey := hy.2.1
          have f3 := hy.2.2.1
          have G3 := hy.2.2.2
          have := isAt_lt c3
          clear hy
          subst ey
          simp (maxSteps := 1000000) -implicitDefEqProofs only [push_cast, seval]
          with_reducible refine CC.mono (putG1 n0 p s _ _ 9 a.2.2.2 9 rfl h3 G3 (by omega)) (fun y h4 hy => ?_)
          have ey := hy.1
          have f4 := hy.2.1
          have G4 := hy.2.2
          clear hy
          subst ey
          simp (maxSteps := 1000000) -implicitDefEqProofs only [push_cast, seval]
          refine ⟨(a.1 - 1, a.2.1 + 1, a.2.2.1 ++ [⟨9, ⟨#[]⟩, [a.2.2.2]⟩], a.2.2.1.length), by kernel_rfl, ⟨f2.trans (f3.trans f4), by show s.size - (a.2.1 + 1) < a.1 - 1; omega, G4, ?_, by show (a.2.2.1 ++ [_]).length + 2 * (s.size - (a.2.1 + 1)) ≤ m; rw [List.length_append]; simp only [List.length_cons, List.length_nil]; omega⟩, by show a.1 - 1 < a.1; omega⟩
          rw [← hr2]
          obtain ⟨g0, hg0⟩ : ∃ g0, a.1 = g0 + 1 := ⟨a.1 - 1, by omega⟩
          rw [hg0]
          simp only [pStars, c1, c2, c3, if_true, Bool.false_eq_true, if_false, Nat.add_sub_cancel]
        · have c3 := hy.1
          have ey := hy.2.1
          have eh := hy.2.2.symm
          clear hy
          subst ey eh
          simp (maxSteps := 1000000) -implicitDefEqProofs only [push_cast, seval]
          obtain ⟨g0, hg0⟩ : ∃ g0, a.1 = g0 + 1 := ⟨a.1 - 1, by omega⟩
          rw [hg0] at hr2
          simp only [pStars, c1, c2, c3, Bool.false_eq_true, if_false] at hr2
          rw [← hr2]
          exact Ro.some f2 G2
  · clear hy
    subst ey er
    simp (maxSteps := 1000000) -implicitDefEqProofs only [push_cast, seval]
    refine WC.loopA (by kernel_rfl) [3] [2, 6, 7, 8, 9, 10, 11, 12, 13, 14, 15, 16, 17, 18, 19, 20, 21, 22, 23, 24, 25, 26, 27, 28, 29, 30, 31, 32] (fun _ : Nat => [.int .i64 (r1 : Nat)]) (fun _ h' => h' = h1) (fun a => a) 0 (by kernel_rfl) rfl ?_
    intro a g h2 hJ
    subst hJ
    have hp1 := B1.lt
    with_reducible refine B1.cell (fun k v cs j a e g d c f => ?_)
    simp only [cI] at e
    simp (maxSteps := 1000000) -implicitDefEqProofs only [push_cast, seval, e, rd_of e, rd1_of e, hp1]
    exact Ro.none f1 B1
end Go.Proofs.YtdlpdfclljnmhaaGreat
namespace Go.Proofs.YtdlpdfclljnmhaaGreat
open Go Go.Sim Go.Proofs
set_option linter.unusedSimpArgs false
set_option linter.unusedVariables false
set_option maxRecDepth 100000
set_option maxHeartbeats 1000000
theorem isD (p : Nat) (s : ByteArray) (k : Nat) (bad : Bool) (v : Value) (c : Nat) (ci : Int) (hci : (c : Int) = ci) (h : AH) (e : h.ob p = .cells [.string (s.extract k s.size), v, .bool bad] .solo p) (hp : p < h.n) (hk : k ≤ s.size) (hs : s.size ≤ 24) :
    CD Tryz.prog 163 [.pointer (some ⟨p, 0, none⟩), .int .u8 ci] h (.bool (isAt s k c)) h := by
  subst hci
  exact is_c p s k bad v c h e hp hk hs
def pK (res : PRes) (f : Nat → List Pc → Nat → PRes) : PRes := match res with
  | none => none
  | some (k, o, r) => f k o r
theorem pRow_eq (th : Nat → List Pc → PRes) (s : ByteArray) (k : Nat) (out : List Pc) : pRow th s k out = if pStop s k then some (k, out ++ [⟨12, ⟨#[]⟩, []⟩], out.length) else pK (th k out) (pCats th s (s.size + 1)) := rfl
theorem pCats_eq (th : Nat → List Pc → PRes) (s : ByteArray) (g k : Nat) (out : List Pc) (r : Nat) : pCats th s (g + 1) k out r = if pStop s k then some (k, out, r) else pK (th k out) (fun k' o' r' => pCats th s g k' (o' ++ [⟨5, ⟨#[]⟩, [r, r']⟩]) o'.length) := rfl
theorem pAlt_eq (s : ByteArray) (f k : Nat) (out : List Pc) : pAlt s (f + 1) k out = pK (pRow (pThing (pAlt s f) s) s k out) (pBars (pRow (pThing (pAlt s f) s) s) s (s.size + 1)) := rfl
theorem pBars_eq (row : Nat → List Pc → PRes) (s : ByteArray) (g k : Nat) (out : List Pc) (r : Nat) : pBars row s (g + 1) k out r = if isAt s k 124 then pK (row (k + 1) out) (fun k' o' r' => pBars row s g k' (o' ++ [⟨6, ⟨#[]⟩, [r, r']⟩]) o'.length) else some (k, out, r) := rfl
def LqI (s : ByteArray) (k0 n0 p : Nat) (h : AH) (m mg : Nat) (cont : Nat → Nat → List Pc → Nat → PRes) (res : PRes) (a : Nat × Nat × List Pc × Nat) (h' : AH) : Prop :=
  Fr n0 h h' ∧ ((k0 ≤ a.2.1 ∧ s.size - a.2.1 < a.1 ∧ Rg (cI s) s n0 p h' a.2.1 a.2.2.1 ∧ cont a.1 a.2.1 a.2.2.1 a.2.2.2 = res ∧ a.2.2.1.length + 2 * (s.size - a.2.1) ≤ mg) ∨ (a.1 = 0 ∧ res = none ∧ Rb (cI s) s n0 p h' m))
theorem thing_o (s : ByteArray) (hs : s.size ≤ 24) (lo : Nat) (alt : Nat → List Pc → PRes) (ha : OweI 129 s (lo + 1) alt) (hg : GoodR 1 s alt) : OweI 164 s lo (pThing alt s) :=
  fun n0 p k out h hlo G hj => thing_i n0 p s k out h hs alt (fun n0 p k' out h hk => ha n0 p k' out h (by omega)) hg G hj
theorem row_o (s : ByteArray) (hs : s.size ≤ 24) (lo : Nat) (th : Nat → List Pc → PRes) (ht : OweI 164 s lo th) (hg : GoodR 3 s th) : OweI 147 s lo (pRow th s) := by
  intro n0 p k out h hlo G hj
  have hA := ht n0 p k out h hlo G hj
  have hb0 := fun k' o' r => hg k out k' o' r G.hi
  have hp := G.lt
  have hn := G.le
  have hk := G.hi
  have hz : k ≤ s.size := G.hi
  generalize hm : out.length + 2 * (s.size - k) = m at *
  rw [pRow_eq]
  with_reducible refine G.cell (fun v L e w hL hl => ?_)
  simp only [cI] at e
  have t := Txt.of s k hk
  have hi := fun c ci hci => isD p s k false v c ci hci h e hp hk hs
  have hput := putG n0 p s k out (.slice none 0 0) 12 12 rfl ⟨#[]⟩ [] h G (by omega) (RdV.nil _ _ _ _) (by simp)
  have ts := t.size
  have tE := t.emp
  generalize s.extract k s.size = T at *
  have i1 := hi 124 124 rfl
  have i2 := hi 41 41 rfl
  by_cases hst : pStop s k = true
  · rw [if_pos hst]
    simp only [pStop, Bool.or_eq_true, decide_eq_true_eq] at hst
    refine CC.ofN Tryz.func147 Tryz.ntmps147 Tryz.results147 rfl (by decide) (by kernel_rfl) ?_
    simp (maxSteps := 1000000) -implicitDefEqProofs only [push_cast, seval, e, rd_of e, rd1_of e, hp, tE]
    with_reducible refine bcase_d (fun hb => ?_) (fun hb => ?_)
    · simp (maxSteps := 1000000) -implicitDefEqProofs only [push_cast, seval, e, rd_of e, rd1_of e, hp, tE]
      with_reducible refine CC.mono hput (fun y h2 hy => ?_)
      have ey := hy.1
      have f2 := hy.2.1
      have G2 := hy.2.2
      clear hy
      subst ey
      simp (maxSteps := 1000000) -implicitDefEqProofs only [push_cast, seval]
      exact Ro.some f2 G2
    · simp (maxSteps := 1000000) -implicitDefEqProofs only [push_cast, seval, e, rd_of e, rd1_of e, hp, tE]
      with_reducible refine CD.to i1 ?_
      cases c1 : isAt s k 124 with
      | true =>
        simp (maxSteps := 1000000) -implicitDefEqProofs only [push_cast, seval, e, rd_of e, rd1_of e, hp, tE]
        with_reducible refine CC.mono hput (fun y h2 hy => ?_)
        have ey := hy.1
        have f2 := hy.2.1
        have G2 := hy.2.2
        clear hy
        subst ey
        simp (maxSteps := 1000000) -implicitDefEqProofs only [push_cast, seval]
        exact Ro.some f2 G2
      | false =>
        have c2 : isAt s k 41 = true := by
          rcases hst with (h1 | h1) | h1
          · omega
          · rw [c1] at h1; cases h1
          · exact h1
        rw [c2] at i2
        simp (maxSteps := 1000000) -implicitDefEqProofs only [push_cast, seval, e, rd_of e, rd1_of e, hp, tE]
        with_reducible refine CD.to i2 ?_
        simp (maxSteps := 1000000) -implicitDefEqProofs only [push_cast, seval, e, rd_of e, rd1_of e, hp, tE]
        with_reducible refine CC.mono hput (fun y h2 hy => ?_)
        have ey := hy.1
        have f2 := hy.2.1
        have G2 := hy.2.2
        clear hy
        subst ey
        simp (maxSteps := 1000000) -implicitDefEqProofs only [push_cast, seval]
        exact Ro.some f2 G2
  · rw [if_neg hst]
    simp only [pStop, Bool.or_eq_true, decide_eq_true_eq, not_or, Bool.not_eq_true] at hst
    have n1 := hst.1.1
    have c1 := hst.1.2
    have c2 := hst.2
    rw [c1] at i1
    rw [c2] at i2
    generalize th k out = res0 at *
    refine CC.ofN Tryz.func147 Tryz.ntmps147 Tryz.results147 rfl (by decide) (by kernel_rfl) ?_
    simp (maxSteps := 1000000) -implicitDefEqProofs only [push_cast, seval, e, rd_of e, rd1_of e, hp, tE]
    with_reducible refine bcase_d (fun hb => ?_) (fun hb => ?_)
    · exact absurd hb n1
    simp (maxSteps := 1000000) -implicitDefEqProofs only [push_cast, seval, e, rd_of e, rd1_of e, hp, tE]
    with_reducible refine CD.to i1 ?_
    simp (maxSteps := 1000000) -implicitDefEqProofs only [push_cast, seval, e, rd_of e, rd1_of e, hp, tE]
    with_reducible refine CD.to i2 ?_
    simp (maxSteps := 1000000) -implicitDefEqProofs only [push_cast, seval, e, rd_of e, rd1_of e, hp, tE]
    with_reducible refine CC.mono hA (fun y h1 hy => ?_)
    have key : ∃ (a : Nat × Nat × List Pc × Nat) (res : PRes), LqI s k n0 p h m (m - 1) (pCats th s) res a h1 ∧ y = .int .i64 (a.2.2.2 : Nat) ∧ res = pK res0 (pCats th s (s.size + 1)) := by
      refine hy.cases (fun k1 o1 r1 er ey f1 G1 => ?_) (fun er r1 ey f1 B1 => ?_)
      · subst er
        have hb1 := (hb0 _ _ _ rfl).pot
        exact ⟨(s.size + 1, k1, o1, r1), _, ⟨f1, .inl ⟨(hb0 _ _ _ rfl).le, by show s.size - k1 < s.size + 1; omega, G1, rfl, by show o1.length + 2 * (s.size - k1) ≤ m - 1; omega⟩⟩, ey, rfl⟩
      · subst er
        exact ⟨(0, 0, [], r1), none, ⟨f1, .inr ⟨rfl, rfl, B1⟩⟩, ey, rfl⟩
    clear hy hA
    with_reducible refine Exists.elim key (fun a0 key => ?_)
    with_reducible refine Exists.elim key (fun res key => ?_)
    have hJ0 := key.1
    have ey := key.2.1
    have er := key.2.2
    clear key
    rw [← er]
    subst ey
    clear er hb0
    simp (maxSteps := 1000000) -implicitDefEqProofs only [push_cast, seval]
    refine WC.loopA (by kernel_rfl) [3] [4, 22, 23, 24, 25, 26, 27, 28, 29, 30, 31, 32, 33, 34, 35, 36, 37, 38, 39, 40, 41, 42, 43, 44, 45, 46, 47, 48, 49, 50] (fun a : Nat × Nat × List Pc × Nat => [.int .i64 (a.2.2.2 : Nat)]) (LqI s k n0 p h m (m - 1) (pCats th s) res) (fun a => a.1) a0 (by kernel_rfl) hJ0 ?_
    clear hJ0 i1 i2 hput e w hi
    intro a g h2 hJ
    unfold LqI at hJ
    have f2 := hJ.1
    with_reducible refine Or.elim hJ.2 (fun hl => ?_) (fun hl => ?_)
    · have hk0 := hl.1
      have hg2 := hl.2.1
      have G2 := hl.2.2.1
      have hr2 := hl.2.2.2.1
      have hb2 := hl.2.2.2.2
      clear hl hJ
      have hgs : ∃ g0, a.1 = g0 + 1 := ⟨a.1 - 1, by omega⟩
      with_reducible refine Exists.elim hgs (fun g0 hg0 => ?_)
      rw [hg0, pCats_eq] at hr2
      have ex : pStop s a.2.1 = true → Ro (cI s) s n0 p h m res (.int .i64 (a.2.2.2 : Nat)) h2 := fun hs => by
        rw [if_pos hs] at hr2
        rw [← hr2]
        exact Ro.some f2 G2
      have hp2 := G2.lt
      have hk2 := G2.hi
      with_reducible refine G2.cell (fun v L e w hL hl2 => ?_)
      simp only [cI] at e
      have t := Txt.of s a.2.1 hk2
      have j1 := isD p s a.2.1 false v 124 124 rfl h2 e hp2 hk2 hs
      have j2 := isD p s a.2.1 false v 41 41 rfl h2 e hp2 hk2 hs
      have tE := t.emp
      clear t
      generalize s.extract a.2.1 s.size = T at *
      simp (maxSteps := 1000000) -implicitDefEqProofs only [push_cast, seval, e, rd_of e, rd1_of e, hp2, tE]
      with_reducible refine bcase_d (fun hb => ?_) (fun hb => ?_)
      · simp (maxSteps := 1000000) -implicitDefEqProofs only [push_cast, seval, e, rd_of e, rd1_of e, hp2, tE]
        exact ex (by simp [pStop, hb])
      simp (maxSteps := 1000000) -implicitDefEqProofs only [push_cast, seval, e, rd_of e, rd1_of e, hp2, tE]
      with_reducible refine CD.to j1 ?_
      cases c1 : isAt s a.2.1 124 with
      | true =>
        simp (maxSteps := 1000000) -implicitDefEqProofs only [push_cast, seval, e, rd_of e, rd1_of e, hp2, tE]
        exact ex (by simp [pStop, c1])
      | false =>
      simp (maxSteps := 1000000) -implicitDefEqProofs only [push_cast, seval, e, rd_of e, rd1_of e, hp2, tE]
      with_reducible refine CD.to j2 ?_
      cases c2 : isAt s a.2.1 41 with
      | true =>
        simp (maxSteps := 1000000) -implicitDefEqProofs only [push_cast, seval, e, rd_of e, rd1_of e, hp2, tE]
        exact ex (by simp [pStop, c2])
      | false =>
      simp (maxSteps := 1000000) -implicitDefEqProofs only [push_cast, seval, e, rd_of e, rd1_of e, hp2, tE]
      clear ex
      have hst : ¬ pStop s a.2.1 = true := by simp [pStop, c1, c2]; omega
      rw [if_neg hst] at hr2
      have hA := ht n0 p a.2.1 a.2.2.1 h2 (by omega) G2 (by omega)
      have hb0 := fun k' o' r => hg a.2.1 a.2.2.1 k' o' r G2.hi
      generalize th a.2.1 a.2.2.1 = res0 at *
      with_reducible refine CC.mono hA (fun y h3 hy => ?_)
      clear hA j1 j2
      with_reducible refine hy.cases (fun k3 o3 r3 er ey f3 G3 => ?_) (fun er r3 ey f3 B3 => ?_)
      · clear hy
        subst er ey
        have GG := hb0 _ _ _ rfl
        have gp := GG.pot
        have gl := GG.lt (Nat.le_refl _)
        have gh := GG.hi
        clear hb0 GG
        simp (maxSteps := 1000000) -implicitDefEqProofs only [push_cast, seval]
        with_reducible refine CC.mono (putG2 n0 p s _ _ 5 a.2.2.2 r3 5 rfl h3 G3 (by omega)) (fun y h4 hy => ?_)
        have ey := hy.1
        have f4 := hy.2.1
        have G4 := hy.2.2
        clear hy
        subst ey
        simp (maxSteps := 1000000) -implicitDefEqProofs only [push_cast, seval]
        refine ⟨(g0, k3, o3 ++ ([⟨5, ⟨#[]⟩, [a.2.2.2, r3]⟩] : List Pc), o3.length), by kernel_rfl, ⟨f2.trans (f3.trans f4), .inl ⟨by show k ≤ k3; omega, by show s.size - k3 < g0; omega, G4, hr2, by show (o3 ++ [_]).length + 2 * (s.size - k3) ≤ m - 1; rw [List.length_append]; simp only [List.length_cons, List.length_nil]; omega⟩⟩, by show g0 < a.1; omega⟩
      · clear hy
        subst er ey
        simp (maxSteps := 1000000) -implicitDefEqProofs only [push_cast, seval]
        with_reducible refine CC.mono (putB2 n0 p _ s 5 a.2.2.2 r3 5 rfl h3 B3 (by omega)) (fun y h4 hy => ?_)
        with_reducible refine Exists.elim hy.1 (fun r4 ey => ?_)
        have f4 := hy.2.1
        have B4 := hy.2.2
        clear hy
        subst ey
        simp (maxSteps := 1000000) -implicitDefEqProofs only [push_cast, seval]
        refine ⟨(0, 0, [], r4), by kernel_rfl, ⟨f2.trans (f3.trans f4), .inr ⟨rfl, hr2.symm, B4.mono (by omega)⟩⟩, by show 0 < a.1; omega⟩
    · have hB := hl.2.2
      have hr := hl.2.1
      clear hl hJ
      have hp2 := hB.lt
      with_reducible refine hB.cell (fun k v cs j a e g d c f => ?_)
      simp only [cI] at e
      simp (maxSteps := 1000000) -implicitDefEqProofs only [push_cast, seval, e, rd_of e, rd1_of e, hp2]
      rw [hr]
      exact Ro.none f2 hB
end Go.Proofs.YtdlpdfclljnmhaaGreat
namespace Go.Proofs.YtdlpdfclljnmhaaGreat
open Go Go.Sim Go.Proofs
set_option linter.unusedSimpArgs false
set_option linter.unusedVariables false
set_option maxRecDepth 100000
set_option maxHeartbeats 1000000
theorem alt_o (s : ByteArray) (hs : s.size ≤ 24) (lo : Nat) (rw_ : Nat → List Pc → PRes) (ht : OweI 147 s lo rw_) (hg : GoodR 1 s rw_) : OweI 129 s lo (fun k out => pK (rw_ k out) (pBars rw_ s (s.size + 1))) := by
  intro n0 p k out h hlo G hj
  have hA := ht n0 p k out h hlo G hj
  have hb0 := fun k' o' r => hg k out k' o' r G.hi
  have hp := G.lt
  have hn := G.le
  have hk := G.hi
  have hz : k ≤ s.size := G.hi
  generalize hm : out.length + 2 * (s.size - k) = m at *
  simp only
  generalize rw_ k out = res0 at *
  refine CC.ofN Tryz.func129 Tryz.ntmps129 Tryz.results129 rfl (by decide) (by kernel_rfl) ?_
  simp (maxSteps := 1000000) -implicitDefEqProofs only [push_cast, seval]
  with_reducible refine CC.mono hA (fun y h1 hy => ?_)
  have key : ∃ (a : Nat × Nat × List Pc × Nat) (res : PRes), LqI s k n0 p h m (m + 1) (pBars rw_ s) res a h1 ∧ y = .int .i64 (a.2.2.2 : Nat) ∧ res = pK res0 (pBars rw_ s (s.size + 1)) := by
    refine hy.cases (fun k1 o1 r1 er ey f1 G1 => ?_) (fun er r1 ey f1 B1 => ?_)
    · subst er
      have hb1 := (hb0 _ _ _ rfl).pot
      exact ⟨(s.size + 1, k1, o1, r1), _, ⟨f1, .inl ⟨(hb0 _ _ _ rfl).le, by show s.size - k1 < s.size + 1; omega, G1, rfl, by show o1.length + 2 * (s.size - k1) ≤ m + 1; omega⟩⟩, ey, rfl⟩
    · subst er
      exact ⟨(0, 0, [], r1), none, ⟨f1, .inr ⟨rfl, rfl, B1⟩⟩, ey, rfl⟩
  clear hy hA
  with_reducible refine Exists.elim key (fun a0 key => ?_)
  with_reducible refine Exists.elim key (fun res key => ?_)
  have hJ0 := key.1
  have ey := key.2.1
  have er := key.2.2
  clear key
  rw [← er]
  subst ey
  clear er hb0
  simp (maxSteps := 1000000) -implicitDefEqProofs only [push_cast, seval]
  refine WC.loopA (by kernel_rfl) [3] [4, 7, 8, 9, 10, 11, 12, 13, 14, 15, 16, 17, 18, 19, 20, 21, 22] (fun a : Nat × Nat × List Pc × Nat => [.int .i64 (a.2.2.2 : Nat)]) (LqI s k n0 p h m (m + 1) (pBars rw_ s) res) (fun a => a.1) a0 (by kernel_rfl) hJ0 ?_
  clear hJ0
  intro a g h2 hJ
  unfold LqI at hJ
  have f2 := hJ.1
  with_reducible refine Or.elim hJ.2 (fun hl => ?_) (fun hl => ?_)
  · have hk0 := hl.1
    have hg2 := hl.2.1
    have G2 := hl.2.2.1
    have hr2 := hl.2.2.2.1
    have hb2 := hl.2.2.2.2
    clear hl hJ
    have hgs : ∃ g0, a.1 = g0 + 1 := ⟨a.1 - 1, by omega⟩
    with_reducible refine Exists.elim hgs (fun g0 hg0 => ?_)
    rw [hg0, pBars_eq] at hr2
    have hp2 := G2.lt
    have hk2 := G2.hi
    with_reducible refine G2.cell (fun v L e w hL hl2 => ?_)
    simp only [cI] at e
    simp (maxSteps := 1000000) -implicitDefEqProofs only [push_cast, seval, e, rd_of e, rd1_of e, hp2]
    with_reducible refine CC.mono (takeG n0 p s _ _ 124 124 rfl h2 hs G2) (fun y h3 hy => ?_)
    with_reducible refine Or.elim hy (fun hy => ?_) (fun hy => ?_)
    · have c1 := hy.1
      have ey := hy.2.1
      have f3 := hy.2.2.1
      have G3 := hy.2.2.2
      have hlt := isAt_lt c1
      clear hy
      subst ey
      rw [if_pos c1] at hr2
      simp (maxSteps := 1000000) -implicitDefEqProofs only [push_cast, seval]
      have hA := ht n0 p (a.2.1 + 1) a.2.2.1 h3 (by omega) G3 (by omega)
      have hb0 := fun k' o' r => hg (a.2.1 + 1) a.2.2.1 k' o' r G3.hi
      generalize rw_ (a.2.1 + 1) a.2.2.1 = res0 at *
      with_reducible refine CC.mono hA (fun y h3b hy => ?_)
      clear hA
      with_reducible refine hy.cases (fun k3 o3 r3 er ey f3b G3b => ?_) (fun er r3 ey f3b B3 => ?_)
      · clear hy
        subst er ey
        have GG := hb0 _ _ _ rfl
        have gp := GG.pot
        have gl := GG.le
        have gh := GG.hi
        clear hb0 GG
        simp (maxSteps := 1000000) -implicitDefEqProofs only [push_cast, seval]
        with_reducible refine CC.mono (putG2 n0 p s _ _ 6 a.2.2.2 r3 6 rfl h3b G3b (by omega)) (fun y h4 hy => ?_)
        have ey := hy.1
        have f4 := hy.2.1
        have G4 := hy.2.2
        clear hy
        subst ey
        simp (maxSteps := 1000000) -implicitDefEqProofs only [push_cast, seval]
        refine ⟨(g0, k3, o3 ++ ([⟨6, ⟨#[]⟩, [a.2.2.2, r3]⟩] : List Pc), o3.length), by kernel_rfl, ⟨f2.trans (f3.trans (f3b.trans f4)), .inl ⟨by show k ≤ k3; omega, by show s.size - k3 < g0; omega, G4, hr2, by show (o3 ++ [_]).length + 2 * (s.size - k3) ≤ m + 1; rw [List.length_append]; simp only [List.length_cons, List.length_nil]; omega⟩⟩, by show g0 < a.1; omega⟩
      · clear hy
        subst er ey
        simp (maxSteps := 1000000) -implicitDefEqProofs only [push_cast, seval]
        with_reducible refine CC.mono (putB2 n0 p _ s 6 a.2.2.2 r3 6 rfl h3b B3 (by omega)) (fun y h4 hy => ?_)
        with_reducible refine Exists.elim hy.1 (fun r4 ey => ?_)
        have f4 := hy.2.1
        have B4 := hy.2.2
        clear hy
        subst ey
        simp (maxSteps := 1000000) -implicitDefEqProofs only [push_cast, seval]
        refine ⟨(0, 0, [], r4), by kernel_rfl, ⟨f2.trans (f3.trans (f3b.trans f4)), .inr ⟨rfl, hr2.symm, B4.mono (by omega)⟩⟩, by show 0 < a.1; omega⟩
    · have c1 := hy.1
      have ey := hy.2.1
      have eh := hy.2.2.symm
      clear hy
      subst ey eh
      simp (maxSteps := 1000000) -implicitDefEqProofs only [push_cast, seval]
      rw [if_neg (by rw [c1]; decide)] at hr2
      rw [← hr2]
      exact Ro.some f2 G2
  · have hB := hl.2.2
    have hr := hl.2.1
    clear hl hJ
    have hp2 := hB.lt
    with_reducible refine hB.cell (fun k v cs j a e g d c f => ?_)
    simp only [cI] at e
    simp (maxSteps := 1000000) -implicitDefEqProofs only [push_cast, seval, e, rd_of e, rd1_of e, hp2]
    rw [hr]
    exact Ro.none f2 hB
theorem alternatives_o (s : ByteArray) (hs : s.size ≤ 24) : ∀ (f lo : Nat), s.size < lo + f → OweI 129 s lo (pAlt s f)
  | 0, lo, hl => fun n0 p k out h hk G => by have := G.hi; omega
  | f + 1, lo, hl => by
    have ha := alternatives_o s hs f (lo + 1) (by omega)
    have gt := pThing_gd (pAlt_gd s f)
    exact alt_o s hs lo _ (row_o s hs lo _ (thing_o s hs lo _ ha (pAlt_gd s f)) gt) (pRow_gd gt)
end Go.Proofs.YtdlpdfclljnmhaaGreat
namespace Go.Proofs.YtdlpdfclljnmhaaGreat
open Go Go.Sim Go.Proofs
set_option linter.unusedSimpArgs false
set_option linter.unusedVariables false
set_option maxRecDepth 100000
set_option maxHeartbeats 1000000
theorem kidsAhead_c (v : Value) (l : List Nat) (at_ : Nat) (h : AH) (r : RdV h v 1 encNa l) (hl : l.length ≤ 1000) (hall : ∀ k ∈ l, k < at_) (ha : at_ ≤ 1000) :
    CD Tryz.prog 62 [v, .int .i64 (at_ : Nat)] h (.bool true) h := by
  refine CD.withBig (fun big => ?_)
  refine CD.quiet ?_ (low_bool _ _)
  obtain ⟨A, c, rfl, hR⟩ := r.rde (fun _ => rfl)
  refine CC.ofN Tryz.func62 Tryz.ntmps62 Tryz.results62 rfl (by decide) (by kernel_rfl) ?_
  simp (maxSteps := 1000000) -implicitDefEqProofs only [push_cast, seval]
  refine WC.loopA (by kernel_rfl) [9] [4, 6, 10, 11, 12, 13, 14, 15, 16, 17, 18] (fun i : Nat => [.int .i64 i]) (fun i h' => i ≤ l.length ∧ Pre h h') (fun i => l.length - i) 0 (by kernel_rfl) ⟨Nat.zero_le _, Pre.refl _⟩ ?_
  intro i g h1 hJ
  have hi := hJ.1
  have p1 := hJ.2
  clear hJ
  simp (maxSteps := 1000000) -implicitDefEqProofs only [push_cast, seval]
  with_reducible refine bcase_d (fun hb => ?_) (fun hb => ?_)
  · have hi' : i < l.length := by omega
    have hk := hall l[i] (List.getElem_mem hi')
    with_reducible refine hR.use big p1 hi' (fun id off eA hlt hr => ?_)
    subst eA
    simp only [encNa] at hr
    have r0 := rd_1 hr
    simp (maxSteps := 1000000) -implicitDefEqProofs only [push_cast, seval, hr, r0, hlt]
    refine And.intro (by omega) (And.intro (by omega) ?_)
    rw [show IntKind.i64.wrap ((at_ : Int) - 1) = (at_ : Int) - 1 by rw [w64 (by omega) (by omega)]]
    with_reducible refine CD.to (within_c _ _ _ _) ?_
    have hin : inB (l[i] : Nat) 0 ((at_ : Int) - 1) = true := by simp only [inB, Bool.and_eq_true, decide_eq_true_eq]; omega
    rw [hin]
    simp (maxSteps := 1000000) -implicitDefEqProofs only [push_cast, seval]
    rw [wrapSucc (by omega)]
    exact ⟨i + 1, by kernel_rfl, ⟨by omega, p1⟩, by omega⟩
  · simp (maxSteps := 1000000) -implicitDefEqProofs only [push_cast, seval]
    exact p1.keep
theorem pieceOk_c (x : Pc) (kv : Value) (at_ : Nat) (h : AH) (r : RdV h kv 1 encNa x.kids) (ok : OkPc x at_) (ha : at_ ≤ 1000) :
    CD Tryz.prog 150 [.agg #[.int .i64 (x.op : Nat), .string x.text, kv], .int .i64 (at_ : Nat)] h (.bool true) h := by
  refine CD.quiet ?_ (low_bool _ _)
  have y1 := r.one
  have y2 := rdv_cells r
  have hop := ok.op
  have hkl := ok.kids
  have hte := ok.text
  have hK : kidsN x.op ≤ 2 := by unfold kidsN; split <;> (try split) <;> omega
  obtain ⟨A, c, rfl, hR⟩ := r.rde (fun _ => rfl)
  have hk := fun h' (p : Pre h h') => kidsAhead_c _ x.kids at_ h' (r.pre p) (by omega) ok.ahead ha
  have hin : inB (x.op : Nat) 1 12 = true := by simp only [inB, Bool.and_eq_true, decide_eq_true_eq]; omega
  obtain ⟨op, text, kids⟩ := x
  simp only at *
  have tE : (text = ⟨#[]⟩) = (text.size = 0) := propext ⟨fun e => by rw [e]; rfl, fun e => ByteArray.ext (Array.eq_empty_of_size_eq_zero e)⟩
  have hcase : op = 1 ∨ op = 2 ∨ op = 3 ∨ op = 4 ∨ op = 5 ∨ op = 6 ∨ op = 7 ∨ op = 8 ∨ op = 9 ∨ op = 10 ∨ op = 11 ∨ op = 12 := by omega
  generalize hLk : kids.length = K at *
  generalize hts : text.size = Z at *
  have hw : (op = 3 ∨ op = 4) → inB (Z : Nat) 1 24 = true := fun e => by
    unfold textOk at hte
    rw [hts, if_neg (by omega), if_pos e] at hte
    simp only [inB, Bool.and_eq_true, decide_eq_true_eq]; omega
  rcases hcase with rfl | rfl | rfl | rfl | rfl | rfl | rfl | rfl | rfl | rfl | rfl | rfl
  all_goals
    simp [textOk, kidsN, hts] at hte hkl hw
    try subst hkl
    try subst hte
    refine CC.ofN Tryz.func150 Tryz.ntmps150 Tryz.results150 rfl (by decide) (by kernel_rfl) ?_
    simp (maxSteps := 1000000) -implicitDefEqProofs only [push_cast, seval, y1, y2, tE, hLk, hts]
    repeat' (first | with_reducible (first | exact Keep.refl _ _ | assumption | exact byte_lt _ _ | apply Keep.alloc | (refine Keep.set ?_ ?_; rotate_left; · omega) | apply Pre.alloc | apply Pre.set | exact Pre.refl _ | exact le_alloc _ | (refine Pre.keep ?_; assumption) | (refine Pre.n ?_; assumption)) | ((with_reducible (first | refine CD.to (within_c _ _ _ _) ?_ | refine CQ.pure (fun _ => within_c _ _ _ _) ?_ | refine CD.to (hk _ ?_) ?_ | refine CQ.pure (fun _ => hk _ ?_) ?_ | refine bcase_d (fun hb => ?_) (fun hb => ?_) | refine bcase_mk (fun hb => ?_) (fun hb => ?_))) <;> try simp (maxSteps := 1000000) -implicitDefEqProofs only [push_cast, seval, y1, y2, tE, hLk, hts, hin, hw]) | with_reducible refine And.intro ?_ ?_ | omega | (simp only [alloc_n, set_n, kill_n]; omega) | (exfalso; omega))
    all_goals exact absurd hb (by decide)
theorem PatternOk_c (v : Value) (L : List (Pc × Value)) (h : AH) (w : RdPat h v L) (ok : Okp (L.map Prod.fst)) (h1 : 1 ≤ L.length) (h2 : L.length ≤ 60) :
    CD Tryz.prog 130 [.agg #[v]] h (.bool true) h := by
  refine CD.withBig (fun big => ?_)
  refine CD.quiet ?_ (low_bool _ _)
  have r := w.r
  obtain ⟨A, c, rfl, hR⟩ := r.rde encP_len
  refine CC.ofN Tryz.func130 Tryz.ntmps130 Tryz.results130 rfl (by decide) (by kernel_rfl) ?_
  simp (maxSteps := 1000000) -implicitDefEqProofs only [push_cast, seval]
  refine WC.loopA (by kernel_rfl) [8] [2, 3, 4, 9, 10, 11, 12, 13, 14, 15, 16, 17] (fun i : Nat => [.int .i64 i]) (fun i h' => i ≤ L.length ∧ Pre (h.alloc (AOb.cells [.slice A L.length c] .solo h.n)) h') (fun i => L.length - i) 0 (by kernel_rfl) ⟨Nat.zero_le _, Pre.refl _⟩ ?_
  intro i g h1 hJ
  have hi := hJ.1
  have p0 := hJ.2
  clear hJ
  have p1 : Pre h h1 := ((Pre.refl h).alloc _).trans p0
  have e1 : h1.ob h.n = _ := (p0.ob _ (lt_alloc _)).trans (alloc_same _)
  have l1 : h.n < h1.n := Nat.lt_of_lt_of_le (lt_alloc _) p0.n
  simp (maxSteps := 1000000) -implicitDefEqProofs only [push_cast, seval]
  with_reducible refine bcase_d (fun hb => ?_) (fun hb => ?_)
  · have hi' : i < L.length := by omega
    have ok1 : OkPc L[i].1 i := by have := ok i (by rw [List.length_map]; exact hi'); simpa using this
    have kr := (w.kids L[i] (List.getElem_mem hi'))
    with_reducible refine hR.use big p1 hi' (fun id off eA hlt hr => ?_)
    subst eA
    simp only [encP] at hr
    have r0 := (rd_3 hr).1
    have r1 := (rd_3 hr).2.1
    have r2 := (rd_3 hr).2.2
    have y1 := kr.one
    have y2 := rdv_cells kr
    simp (maxSteps := 1000000) -implicitDefEqProofs only [push_cast, seval, hr, r0, r1, r2, hlt, y1, y2]
    repeat (with_reducible refine And.intro ?_ ?_; · (first | omega | decide))
    have pp : Pre h1 ((h1.alloc (AOb.cells [Value.int IntKind.i64 0, Value.string ⟨#[]⟩, Value.slice none 0 0] .solo h1.n)).set h1.n (AOb.cells [Value.int IntKind.i64 (L[i].fst.op : Nat), Value.string L[i].fst.text, L[i].snd] .solo h1.n)) := ((Pre.refl h1).alloc _).set (Nat.le_refl _) _
    with_reducible refine CD.to (pieceOk_c L[i].1 L[i].2 i _ (kr.pre (p1.trans pp)) ok1 (by omega)) ?_
    simp (maxSteps := 1000000) -implicitDefEqProofs only [push_cast, seval]
    rw [wrapSucc (by omega)]
    exact ⟨i + 1, by kernel_rfl, ⟨by omega, p0.trans pp⟩, by omega⟩
  · simp (maxSteps := 1000000) -implicitDefEqProofs only [push_cast, seval, e1, rd_of e1, rd1_of e1, l1]
    have hin : inB (L.length : Nat) 1 60 = true := by simp only [inB, Bool.and_eq_true, decide_eq_true_eq]; omega
    with_reducible refine CD.to (within_c _ _ _ _) ?_
    rw [hin]
    simp (maxSteps := 1000000) -implicitDefEqProofs only [push_cast, seval]
    exact p1.keep
end Go.Proofs.YtdlpdfclljnmhaaGreat
namespace Go.Proofs.YtdlpdfclljnmhaaGreat
open Go Go.Sim Go.Proofs
set_option linter.unusedSimpArgs false
set_option linter.unusedVariables false
set_option maxRecDepth 100000
set_option maxHeartbeats 1000000
/-- What reading a pattern gives. -/
def PatV (s : ByteArray) (v : Value) (h' : AH) : Prop :=
  (readP s = none ∧ v = .tuple #[.agg #[.slice none 0 0], .bool false]) ∨ ∃ rv L, readP s = some (L.map Prod.fst) ∧ v = .tuple #[.agg #[rv], .bool true] ∧ RdPat h' rv L
/-- As PatV; all of it newly made. -/
def PatVF (s : ByteArray) (b : Nat) (v : Value) (h' : AH) : Prop :=
  (readP s = none ∧ v = .tuple #[.agg #[.slice none 0 0], .bool false]) ∨ ∃ rv L, readP s = some (L.map Prod.fst) ∧ v = .tuple #[.agg #[rv], .bool true] ∧ RdPat h' rv L ∧ (∀ i, (atBlock rv i ∨ ∃ x ∈ L, atBlock x.2 i) → b ≤ i)
theorem PatVF.v {s : ByteArray} {b : Nat} {v : Value} {h' : AH} (w : PatVF s b v h') : PatV s v h' := by
  rcases w with w | ⟨rv, L, a, b, c, _⟩
  · exact .inl w
  · exact .inr ⟨rv, L, a, b, c⟩
theorem ReadPattern_iF (s : ByteArray) (h : AH) (hs0 : s.size ≤ maxLen) : CC Tryz.prog 89 [.string s] h (fun v h' => Pre h h' ∧ PatVF s h.n v h') := by
  have hml := maxLen_eq
  by_cases hs : 1 ≤ s.size ∧ s.size ≤ 24
  · have hin : inB (s.size : Nat) 1 24 = true := by simp only [inB, Bool.and_eq_true, decide_eq_true_eq]; omega
    have eN : pAlt s (s.size + 1) 0 [] = none → readP s = none := fun e => by unfold readP; rw [if_pos hs, e]
    have eS : ∀ k o r, pAlt s (s.size + 1) 0 [] = some (k, o, r) → readP s = if k = s.size then some o else none := fun k o r e => by unfold readP; rw [if_pos hs, e]
    have e0 : s.extract 0 s.size = s := ByteArray.extract_zero_size
    refine CC.ofN Tryz.func89 Tryz.ntmps89 Tryz.results89 rfl (by decide) (by kernel_rfl) ?_
    simp (maxSteps := 1000000) -implicitDefEqProofs only [push_cast, seval]
    with_reducible refine CD.to (within_c _ _ _ _) ?_
    rw [hin]
    simp (maxSteps := 1000000) -implicitDefEqProofs only [push_cast, seval]
    have hA := alternatives_o s hs.2 (s.size + 1) 0 (by omega) (h.n + 1) (h.n + 1) 0 [] ((h.alloc (AOb.cells [.slice none 0 0] .solo h.n)).alloc (AOb.cells [.string s, .slice none 0 0, .bool false] .solo (h.n + 1))) (Nat.zero_le _)
      ⟨Nat.lt_succ_self _, Nat.le_refl _, Nat.zero_le _, .slice none 0 0, [], by simp only [cI, e0]; exact alloc_same _, Pcs.nil _ _ _ _, rfl⟩ (by simp; omega)
    have p0 : Pre h ((h.alloc (AOb.cells [.slice none 0 0] .solo h.n)).alloc (AOb.cells [.string s, .slice none 0 0, .bool false] .solo (h.n + 1))) := ((Pre.refl h).alloc _).alloc _
    have c0 : ((h.alloc (AOb.cells [.slice none 0 0] .solo h.n)).alloc (AOb.cells [.string s, .slice none 0 0, .bool false] .solo (h.n + 1))).ob h.n = AOb.cells [.slice none 0 0] .solo h.n := (alloc_lt _ (Nat.lt_succ_self _)).trans (alloc_same _)
    have l0 : ((h.alloc (AOb.cells [.slice none 0 0] .solo h.n)).alloc (AOb.cells [.string s, .slice none 0 0, .bool false] .solo (h.n + 1))).n = h.n + 2 := rfl
    generalize (h.alloc (AOb.cells [.slice none 0 0] .solo h.n)).alloc (AOb.cells [.string s, .slice none 0 0, .bool false] .solo (h.n + 1)) = H at *
    generalize pAlt s (s.size + 1) 0 [] = res at *
    with_reducible refine CC.mono hA (fun y h1 hy => ?_)
    clear hA
    with_reducible refine hy.cases (fun k1 o1 r1 er ey f1 G1 => ?_) (fun er r1 ey f1 B1 => ?_)
    · clear hy
      subst ey
      have eS := eS _ _ _ er
      clear er eN
      have hp1 := G1.lt
      have hk1 := G1.hi
      have c1 : h1.ob h.n = _ := (f1.ob _ (Nat.lt_succ_self _)).trans c0
      have lc : h.n < h1.n := by have := f1.n; omega
      have fp : Pre h h1 := ⟨by have := f1.n; omega, fun i hi => (f1.ob i (by omega)).trans (p0.ob i hi)⟩
      with_reducible refine G1.cell (fun v L e w hL hl => ?_)
      simp only [cI] at e
      have t := Txt.of s k1 hk1
      have tE := t.emp
      clear t
      generalize s.extract k1 s.size = T at *
      simp (maxSteps := 1000000) -implicitDefEqProofs only [push_cast, seval, e, rd_of e, rd1_of e, hp1, c1, rd_of c1, rd1_of c1, lc, tE]
      with_reducible refine bcase_d (fun hb => ?_) (fun hb => ?_)
      · have ek : k1 = s.size := by omega
        rw [if_pos ek] at eS
        have hok := readP_ok eS
        rw [← hL] at hok eS
        rw [List.length_map] at hok
        simp (maxSteps := 1000000) -implicitDefEqProofs only [push_cast, seval, e, rd_of e, rd1_of e, hp1, c1, rd_of c1, rd1_of c1, lc, tE]
        with_reducible refine CD.to (PatternOk_c v L h1 w.pat hok.1 hok.2.1 hok.2.2) ?_
        have y1 := w.pat.r.one
        have y2 := rdv_cells w.pat.r
        simp (maxSteps := 1000000) -implicitDefEqProofs only [push_cast, seval, e, rd_of e, rd1_of e, hp1, c1, rd_of c1, rd1_of c1, lc, tE, y1, y2]
        refine ⟨fp.set (Nat.le_refl _) _, .inr ⟨v, L, eS, rfl, ⟨w.pat.r.keep (Nat.le_refl _) (fun i hi => set_ne _ ?_), fun x hx => (w.kids x hx).keep (Nat.le_refl _) (fun i hi => set_ne _ ?_)⟩, fun i hi => hi.elim (fun e => by have := (w.gr.range e).1; omega) (fun ⟨x, hx, e⟩ => by have := (w.far x hx i e).1; omega)⟩⟩
        · have := (w.gr.range hi).1
          omega
        · have := (w.far x hx i hi).1
          omega
      · have ek : ¬ k1 = s.size := by omega
        rw [if_neg ek] at eS
        simp (maxSteps := 1000000) -implicitDefEqProofs only [push_cast, seval, e, rd_of e, rd1_of e, hp1, c1, rd_of c1, rd1_of c1, lc, tE]
        exact ⟨fp.set (Nat.le_refl _) _, .inl ⟨eS, rfl⟩⟩
    · clear hy
      subst ey
      have eN := eN er
      clear er eS
      have c1 : h1.ob h.n = _ := (f1.ob _ (Nat.lt_succ_self _)).trans c0
      have lc : h.n < h1.n := by have := f1.n; omega
      have fp : Pre h h1 := ⟨by have := f1.n; omega, fun i hi => (f1.ob i (by omega)).trans (p0.ob i hi)⟩
      have hp1 := B1.lt
      with_reducible refine B1.cell (fun k v cs j a e g d c f => ?_)
      simp only [cI] at e
      simp (maxSteps := 1000000) -implicitDefEqProofs only [push_cast, seval, e, rd_of e, rd1_of e, hp1, c1, rd_of c1, rd1_of c1, lc]
      exact ⟨fp.set (Nat.le_refl _) _, .inl ⟨eN, rfl⟩⟩
  · have hin : inB (s.size : Nat) 1 24 = false := by rw [Bool.eq_false_iff]; simp only [inB, ne_eq, Bool.and_eq_true, decide_eq_true_eq]; omega
    have eR : readP s = none := by unfold readP; rw [if_neg hs]
    refine CC.ofN Tryz.func89 Tryz.ntmps89 Tryz.results89 rfl (by decide) (by kernel_rfl) ?_
    simp (maxSteps := 1000000) -implicitDefEqProofs only [push_cast, seval]
    with_reducible refine CD.to (within_c _ _ _ _) ?_
    rw [hin]
    simp (maxSteps := 1000000) -implicitDefEqProofs only [push_cast, seval]
    exact ⟨((Pre.refl h).alloc _).set (Nat.le_refl _) _, .inl ⟨eR, rfl⟩⟩
theorem ReadPattern_i (s : ByteArray) (h : AH) (hs0 : s.size ≤ maxLen) : CC Tryz.prog 89 [.string s] h (fun v h' => Pre h h' ∧ PatV s v h') :=
  CC.mono (ReadPattern_iF s h hs0) (fun _ _ hv => ⟨hv.1, hv.2.v⟩)
end Go.Proofs.YtdlpdfclljnmhaaGreat
namespace Go.Proofs.YtdlpdfclljnmhaaGreat
open Go Go.Sim Go.Proofs
set_option linter.unusedSimpArgs false
set_option linter.unusedVariables false
set_option maxRecDepth 100000
set_option maxHeartbeats 1000000
/-- The cells of the document's reader. -/
def cS (s : ByteArray) (k : Nat) (bad : Bool) (v : Value) : List Value := [.string s, .int .i64 (k : Nat), .bool bad, v]
def signsB : ByteArray := ⟨#[42, 43, 63, 124, 40, 41, 91, 93, 46, 94, 36, 92]⟩
theorem sp_yes : ∀ j : Fin 12, special (byteAt signsB j.val).toNat = true := by decide
theorem sp_in : ∀ b : Fin 256, special b.val = true → ∃ j : Fin 12, (byteAt signsB j.val).toNat = b.val := by decide
theorem l04Special_c (b : Nat) (hb : b < 256) (h : AH) : CD Tryz.prog 179 [.int .u8 (b : Nat)] h (.bool (special b)) h := by
  refine CD.quiet ?_ (low_bool _ _)
  have hz : signsB.size = 12 := rfl
  have hS : (⟨#[42, 43, 63, 124, 40, 41, 91, 93, 46, 94, 36, 92]⟩ : ByteArray) = signsB := rfl
  refine CC.ofN Tryz.func179 Tryz.ntmps179 Tryz.results179 rfl (by decide) (by kernel_rfl) ?_
  simp (maxSteps := 1000000) -implicitDefEqProofs only [push_cast, seval]
  rw [hS]
  refine WC.loopA (by kernel_rfl) [4] [2, 5, 6, 7, 8, 9, 10, 11, 12, 13, 14, 15] (fun i : Nat => [.int .i64 i]) (fun i h' => (i ≤ 12 ∧ ∀ j, j < i → (byteAt signsB j).toNat ≠ b) ∧ h' = h) (fun i => 12 - i) 0 (by kernel_rfl) ⟨⟨Nat.zero_le _, fun j hj => by omega⟩, rfl⟩ ?_
  intro i g h1 hJ
  have hi := hJ.1.1
  have hj := hJ.1.2
  have hh := hJ.2
  clear hJ
  subst hh
  simp (maxSteps := 1000000) -implicitDefEqProofs only [push_cast, seval, hz]
  with_reducible refine bcase_d (fun hb2 => ?_) (fun hb2 => ?_)
  · have hi' : i < 12 := by omega
    simp (maxSteps := 1000000) -implicitDefEqProofs only [push_cast, seval, hz]
    refine And.intro (by omega) (And.intro (by omega) ?_)
    with_reducible refine bcase_d (fun hb3 => ?_) (fun hb3 => ?_)
    · have := sp_yes ⟨i, hi'⟩
      simp only at this
      rw [show (byteAt signsB i).toNat = b by omega] at this
      rw [this]
      simp (maxSteps := 1000000) -implicitDefEqProofs only [push_cast, seval, hz]
      exact Keep.refl _ _
    · simp (maxSteps := 1000000) -implicitDefEqProofs only [push_cast, seval, hz]
      rw [wrapSucc (by omega)]
      refine ⟨i + 1, by kernel_rfl, ⟨by omega, fun j hj' => ?_⟩, by omega⟩
      by_cases e : j = i
      · subst e; omega
      · exact hj j (by omega)
  · have e12 : i = 12 := by omega
    have : special b = false := by
      rw [Bool.eq_false_iff]
      intro hsp
      obtain ⟨j, hj'⟩ := sp_in ⟨b, hb⟩ hsp
      exact hj j.val (by have := j.isLt; omega) hj'
    rw [this]
    simp (maxSteps := 1000000) -implicitDefEqProofs only [push_cast, seval]
    exact Keep.refl _ _
theorem is_s (p : Nat) (s : ByteArray) (k : Nat) (bad : Bool) (v : Value) (c : Nat) (ci : Int) (hci : (c : Int) = ci) (h : AH) (e : h.ob p = .cells (cS s k bad v) .solo p) (hp : p < h.n) (hs : s.size ≤ 24) :
    CD Tryz.prog 161 [.pointer (some ⟨p, 0, none⟩), .int .u8 ci] h (.bool (!bad && isAt s k c)) h := by
  subst hci
  refine CD.quiet ?_ (low_bool _ _)
  have e : h.ob p = .cells [.string s, .int .i64 (k : Nat), .bool bad, v] .solo p := e
  refine CC.ofN Tryz.func161 Tryz.ntmps161 Tryz.results161 rfl (by decide) (by kernel_rfl) ?_
  simp (maxSteps := 1000000) -implicitDefEqProofs only [push_cast, seval]
  refine WC.draw' (by kernel_rfl) (by kernel_rfl) (.q 0 (.q 1 (.q 2 (.q 3 (.q 4 (.q 5 (.q 6 (.q 7 (.q 8 (.q 9 (.q 10 (.q 11 (.q 12 (.q 13 (.q 14 (.q 15 (.q 16 (.q 17 (.q 18 (.q 19 (.q 20 (.q 21 (.q 22 (.q 23 (.q 24 (.q 25 (.q 26 (.q 27 (.q 28 (.q 29 (.q 30 (.done)))))))))))))))))))))))))))))))) (by kernel_rfl) ?_
  simp (maxSteps := 1000000) -implicitDefEqProofs only [push_cast, seval, e, rd_of e, rd1_of e, hp]
  cases bad with
  | true =>
    simp (maxSteps := 1000000) -implicitDefEqProofs only [push_cast, seval, e, rd_of e, rd1_of e, hp]
    exact Keep.refl _ _
  | false =>
    simp (maxSteps := 1000000) -implicitDefEqProofs only [push_cast, seval, e, rd_of e, rd1_of e, hp]
    with_reducible refine bcase_d (fun hb => ?_) (fun hb => ?_)
    · simp (maxSteps := 1000000) -implicitDefEqProofs only [push_cast, seval, e, rd_of e, rd1_of e, hp]
      refine ⟨by omega, by omega, ?_, Keep.refl _ _⟩
      rw [isAt_of (by omega), decide_cast]
    · simp (maxSteps := 1000000) -implicitDefEqProofs only [push_cast, seval, e, rd_of e, rd1_of e, hp]
      rw [isAt_no (by omega)]
      exact ⟨rfl, Keep.refl _ _⟩
theorem put_s (n0 p : Nat) (s : ByteArray) (k : Nat) (bad : Bool) (v x : Value) (op : Nat) (text : ByteArray) (kids : List Nat) (cs : List Value) (j : Nat) (h : AH) (e : h.ob p = .cells (cS s k bad v) .solo p) (hp : p < h.n) (hn : n0 ≤ p) (g : Gr n0 h v 3 cs) (hc : cs.length = j * 3) (hj : j ≤ 1000) (vp : ∀ i, atBlock v i → i ≠ p) (r : RdV h x 1 encNa kids) (xn : ∀ i, atBlock x i → n0 ≤ i ∧ i ≠ p ∧ ¬ atBlock v i) (hb : bad = true ∨ j + 1 ≤ 60) :
    CC Tryz.prog 162 [.pointer (some ⟨p, 0, none⟩), .agg #[.int .i64 (op : Nat), .string text, x]] h (fun y h' => y = .int .i64 (j : Nat) ∧ ∃ v', Put n0 p h h' v v' x cs op text kids ∧ h'.ob p = .cells (cS s k bad v') .solo p) := by
  have e : h.ob p = .cells [.string s, .int .i64 (k : Nat), .bool bad, v] .solo p := e
  have y1 := r.one
  have y2 := rdv_cells r
  refine CC.ofN Tryz.func162 Tryz.ntmps162 Tryz.results162 rfl (by decide) (by kernel_rfl) ?_
  simp (maxSteps := 1000000) -implicitDefEqProofs only [push_cast, seval, e, rd_of e, rd1_of e, hp, y1, y2]
  refine WC.drawR (by kernel_rfl) (by kernel_rfl) (.q 0 (.q 1 (.q 2 (.q 3 (.q 4 (.q 5 (.a 6 false (.a 7 false (.q 8 (.q 9 (.a 10 true (.done)))))))))))) (by kernel_rfl) ?_
  simp (maxSteps := 1000000) -implicitDefEqProofs only [push_cast, seval, e, rd_of e, rd1_of e, hp, y1, y2]
  have p1 : Pre h (h.alloc (AOb.cells [Value.int IntKind.i64 (op : Nat), Value.string text, x] .solo h.n)) := (Pre.refl h).alloc _
  have g1 := g.pre p1
  have e1 : (h.alloc (AOb.cells [Value.int IntKind.i64 (op : Nat), Value.string text, x] .solo h.n)).ob p = _ := (p1.ob _ hp).trans e
  have n1 : (h.alloc (AOb.cells [Value.int IntKind.i64 (op : Nat), Value.string text, x] .solo h.n)).n = h.n + 1 := rfl
  have kr := r.pre p1
  have gl : ∀ i, atBlock v i → i < h.n := fun i hi => (g.range hi).2
  have xl : ∀ i, atBlock x i → i < h.n := fun i hi => r.lt hi
  generalize hH : h.alloc (AOb.cells [Value.int IntKind.i64 (op : Nat), Value.string text, x] .solo h.n) = h1 at *
  have hp1 : p < h1.n := by omega
  rw [← n1]
  refine Gr.app1 (h0 := ⟨n0, h1.ob⟩) si114 (by decide) (by decide) (notInt_sl und114) g1 ⟨by show n0 ≤ h1.n; omega, fun _ _ => rfl⟩ (m := 1) rfl (by omega) (by decide) (fun h2 gr2 ow2 _ n2 f2 => ?_)
  have e2 : h2.ob p = _ := (f2 p hp1 (fun hi => vp p hi rfl)).trans e1
  have hp2 : p < h2.n := by omega
  simp (maxSteps := 1000000) -implicitDefEqProofs only [push_cast, seval, e2, rd_of e2, rd1_of e2, hp2, e1, e, y1, y2]
  have fin : ∀ bad', bad' = bad → ∃ v', Put n0 p h (h2.set p (AOb.cells [Value.string s, Value.int IntKind.i64 (k : Nat), Value.bool bad', Value.slice (some ⟨h1.n + 1, 0, none⟩) (cs.length / 3 + 1) 3] .solo p)) v v' x cs op text kids ∧ AOb.cells [Value.string s, Value.int IntKind.i64 (k : Nat), Value.bool bad', Value.slice (some ⟨h1.n + 1, 0, none⟩) (cs.length / 3 + 1) 3] .solo p = .cells (cS s k bad v') .solo p := fun bad' hbb => by
    subst hbb
    refine ⟨_, ⟨by show h.n ≤ h2.n; omega, gr2.keep (Nat.le_refl _) (fun i hi => ?_), fun i hi => ?_, kr.keep (by show h1.n ≤ h2.n; omega) (fun i hi => ?_), fun i hi => ⟨(xn i hi).1, (xn i hi).2.1, fun hi2 => ?_⟩, fun i hi hip hv => ?_⟩, rfl⟩
    · have : h1.n + 1 = i := hi
      exact set_ne _ (by omega)
    · have : h1.n + 1 = i := hi
      omega
    · have := xn i hi
      have := xl i hi
      exact (set_ne _ (by omega)).trans (f2 i (by omega) (fun e' => by have := xn i hi; exact this.2.2 e'))
    · have := xl i hi
      have : h1.n + 1 = i := hi2
      omega
    · exact (set_ne _ hip).trans ((f2 i (by omega) hv).trans (p1.ob i hi))
  refine And.intro ((f2 h.n (by omega) (fun hh => by have := gl _ hh; omega)).trans (alloc_lt _ (by omega)).symm) (And.intro ((alloc_lt _ hp1).trans e1).symm ?_)
  have wr : IntKind.i64.wrap ((cs.length : Int) / 3 + 1 - 1) = (j : Nat) := by rw [w64 (by omega) (by omega)]; omega
  with_reducible refine bcase_d (fun hb2 => ?_) (fun hb2 => ?_)
  · have hbt : bad = true := by
      rcases hb with hb | hb
      · exact hb
      · omega
    simp (maxSteps := 1000000) -implicitDefEqProofs only [push_cast, seval, e2, rd_of e2, rd1_of e2, hp2, e1, e, y1, y2]
    rw [wr]
    exact ⟨rfl, fin true hbt.symm⟩
  · simp (maxSteps := 1000000) -implicitDefEqProofs only [push_cast, seval, e2, rd_of e2, rd1_of e2, hp2, e1, e, y1, y2]
    rw [wr]
    exact ⟨rfl, fin bad rfl⟩
end Go.Proofs.YtdlpdfclljnmhaaGreat
namespace Go.Proofs.YtdlpdfclljnmhaaGreat
open Go Go.Sim Go.Proofs
set_option linter.unusedSimpArgs false
set_option linter.unusedVariables false
set_option maxRecDepth 100000
set_option maxHeartbeats 1000000
theorem putGs (n0 p : Nat) (s : ByteArray) (k : Nat) (out : List Pc) (x : Value) (op : Nat) (oi : Int) (hoi : (op : Int) = oi) (text : ByteArray) (kids : List Nat) (h : AH) (G : Rg (cS s) s n0 p h k out) (hj : out.length + 1 ≤ 60) (r : RdV h x 1 encNa kids)
    (xn : ∀ i, atBlock x i → n0 ≤ i ∧ i ≠ p ∧ ∀ v, h.ob p = .cells (cS s k false v) .solo p → ¬ atBlock v i) :
    CC Tryz.prog 162 [.pointer (some ⟨p, 0, none⟩), .agg #[.int .i64 oi, .string text, x]] h (fun y h' => y = .int .i64 (out.length : Nat) ∧ Fr n0 h h' ∧ Rg (cS s) s n0 p h' k (out ++ [⟨op, text, kids⟩])) := by
  subst hoi
  obtain ⟨v, L, e, w, rfl⟩ := G.ex
  rw [List.length_map] at hj ⊢
  refine CC.mono (put_s n0 p s k false v x op text kids _ L.length h e G.lt G.le w.gr (flatP_len L) (by omega) w.vp r (fun i hi => ⟨(xn i hi).1, (xn i hi).2.1, (xn i hi).2.2 v e⟩) (.inr hj)) (fun y h' hy => ?_)
  obtain ⟨hy, v', q, e'⟩ := hy
  exact ⟨hy, q.fr G.lt G.le w.gr, q.good G.lt G.le G.hi w e'⟩
theorem putNs (n0 p : Nat) (s : ByteArray) (k : Nat) (out : List Pc) (op : Nat) (oi : Int) (hoi : (op : Int) = oi) (text : ByteArray) (h : AH) (G : Rg (cS s) s n0 p h k out) (hj : out.length + 1 ≤ 60) :
    CC Tryz.prog 162 [.pointer (some ⟨p, 0, none⟩), .agg #[.int .i64 oi, .string text, .slice none 0 0]] h (fun y h' => y = .int .i64 (out.length : Nat) ∧ Fr n0 h h' ∧ Rg (cS s) s n0 p h' k (out ++ [⟨op, text, []⟩])) :=
  putGs n0 p s k out _ op oi hoi text [] h G hj (RdV.nil _ _ _ _) (fun i hi => False.elim hi)
theorem lit_far (n0 p : Nat) (s : ByteArray) (k : Nat) (out : List Pc) (h : AH) (G : Rg (cS s) s n0 p h k out) (n : Nat) (o : AOb) : ∀ i, atBlock (.slice (some ⟨h.n, 0, none⟩) n 1) i → n0 ≤ i ∧ i ≠ p ∧ ∀ v, (h.alloc o).ob p = .cells (cS s k false v) .solo p → ¬ atBlock v i := fun i hi => by
  have hi' : h.n = i := hi
  have h1 := G.lt
  have h2 := G.le
  refine ⟨by omega, by omega, fun v e ev => ?_⟩
  obtain ⟨v', L, e', w, _⟩ := G.ex
  rw [alloc_lt _ h1, e'] at e
  have : v' = v := by simpa [cS] using e
  subst this
  have := (w.gr.range ev).2
  omega
theorem putGs1 (n0 p : Nat) (s : ByteArray) (k : Nat) (out : List Pc) (op r : Nat) (oi : Int) (hoi : (op : Int) = oi) (h : AH) (G : Rg (cS s) s n0 p h k out) (hj : out.length + 1 ≤ 60) :
    CC Tryz.prog 162 [.pointer (some ⟨p, 0, none⟩), .agg #[.int .i64 oi, .string ⟨#[]⟩, .slice (some ⟨h.n, 0, none⟩) 1 1]] (h.alloc (.cells [.int .i64 (r : Nat)] .solo h.n)) (fun y h' => y = .int .i64 (out.length : Nat) ∧ Fr n0 h h' ∧ Rg (cS s) s n0 p h' k (out ++ [⟨op, ⟨#[]⟩, [r]⟩])) :=
  CC.mono (putGs n0 p s k out _ op oi hoi ⟨#[]⟩ [r] _ (G.pre ((Pre.refl h).alloc _)) hj (RdV.lit [r] 1) (lit_far n0 p s k out h G 1 _)) (fun y h' hy => ⟨hy.1, ((Fr.refl n0 h).alloc (by have := G.lt; have := G.le; omega) _).trans hy.2.1, hy.2.2⟩)
theorem putGs2 (n0 p : Nat) (s : ByteArray) (k : Nat) (out : List Pc) (op r r' : Nat) (oi : Int) (hoi : (op : Int) = oi) (h : AH) (G : Rg (cS s) s n0 p h k out) (hj : out.length + 1 ≤ 60) :
    CC Tryz.prog 162 [.pointer (some ⟨p, 0, none⟩), .agg #[.int .i64 oi, .string ⟨#[]⟩, .slice (some ⟨h.n, 0, none⟩) 2 1]] (h.alloc (.cells [.int .i64 (r : Nat), .int .i64 (r' : Nat)] .solo h.n)) (fun y h' => y = .int .i64 (out.length : Nat) ∧ Fr n0 h h' ∧ Rg (cS s) s n0 p h' k (out ++ [⟨op, ⟨#[]⟩, [r, r']⟩])) :=
  CC.mono (putGs n0 p s k out _ op oi hoi ⟨#[]⟩ [r, r'] _ (G.pre ((Pre.refl h).alloc _)) hj (RdV.lit [r, r'] 1) (lit_far n0 p s k out h G 2 _)) (fun y h' hy => ⟨hy.1, ((Fr.refl n0 h).alloc (by have := G.lt; have := G.le; omega) _).trans hy.2.1, hy.2.2⟩)
theorem putBs2 (n0 p m : Nat) (s : ByteArray) (op r r' : Nat) (oi : Int) (hoi : (op : Int) = oi) (h : AH) (G : Rb (cS s) s n0 p h m) (hj : m ≤ 500) :
    CC Tryz.prog 162 [.pointer (some ⟨p, 0, none⟩), .agg #[.int .i64 oi, .string ⟨#[]⟩, .slice (some ⟨h.n, 0, none⟩) 2 1]] (h.alloc (.cells [.int .i64 (r : Nat), .int .i64 (r' : Nat)] .solo h.n)) (fun y h' => (∃ r : Nat, y = .int .i64 (r : Nat)) ∧ Fr n0 h h' ∧ Rb (cS s) s n0 p h' (m + 1)) := by
  subst hoi
  have h1 := G.lt
  have h2 := G.le
  have p1 : Pre h (h.alloc (.cells [.int .i64 (r : Nat), .int .i64 (r' : Nat)] .solo h.n)) := (Pre.refl h).alloc _
  obtain ⟨k, v, cs, j, a, b, c, d, e, f⟩ := G.ex
  refine CC.mono (put_s n0 p s k true v _ op ⟨#[]⟩ [r, r'] _ j _ ((p1.ob _ h1).trans b) (Nat.lt_of_lt_of_le h1 p1.n) h2 (c.pre p1) d (by omega) f (RdV.lit [r, r'] 1) (fun i hi => ?_) (.inl rfl)) (fun y h' hy => ?_)
  · have hi' : h.n = i := hi
    refine ⟨by omega, by omega, fun ev => ?_⟩
    have := (c.range ev).2
    omega
  · obtain ⟨hy, v', q, e'⟩ := hy
    exact ⟨⟨_, hy⟩, ((Fr.refl n0 h).alloc (by omega) _).trans (q.fr (Nat.lt_of_lt_of_le h1 p1.n) h2 (c.pre p1)), q.bad (Nat.lt_of_lt_of_le h1 p1.n) h2 a d e e'⟩
theorem brk_here {s : ByteArray} {a : Nat} (h : a < s.size) (e : (byteAt s a).toNat = 93) : brk s a = a := by rw [brk, if_pos h, if_pos e]
theorem brk_next {s : ByteArray} {a : Nat} (h : a < s.size) (e : ¬ (byteAt s a).toNat = 93) : brk s a = brk s (a + 1) := by rw [brk, if_pos h, if_neg e]
theorem brk_end {s : ByteArray} {a : Nat} (h : ¬ a < s.size) : brk s a = s.size := by rw [brk, if_neg h]
theorem set_s (n0 p : Nat) (s : ByteArray) (k : Nat) (out : List Pc) (h : AH) (hs : s.size ≤ 24) (G : Rg (cS s) s n0 p h k out) (hk1 : k < s.size) (hj : out.length + 2 * (s.size - k) ≤ 50) :
    CC Tryz.prog 178 [.pointer (some ⟨p, 0, none⟩)] h (Ro (cS s) s n0 p h (out.length + 2 * (s.size - k)) (pSet s (k + 1) out)) := by
  have hp := G.lt
  have hn := G.le
  have hk := G.hi
  obtain ⟨v, L, e, w, hL⟩ := G.ex
  have hle : L.length = out.length := by rw [← hL]; simp
  obtain ⟨k1, ek1⟩ : ∃ k1, k1 = k + 1 := ⟨_, rfl⟩
  rw [← ek1]
  have hI := is_s p s k1 false v 94 94 rfl (h.set p (.cells (cS s k1 false v) .solo p)) (set_same _ _) hp hs
  simp only [cS] at e hI
  have w0 : IntKind.i64.wrap ((k : Int) + 1) = (k1 : Int) := by rw [wrapSucc (by omega), ek1]
  have eP : pSet s k1 out = (if brk s (if isAt s k1 94 then k1 + 1 else k1) = s.size ∨ brk s (if isAt s k1 94 then k1 + 1 else k1) = (if isAt s k1 94 then k1 + 1 else k1) then none else some (brk s (if isAt s k1 94 then k1 + 1 else k1) + 1, out ++ [⟨if isAt s k1 94 then 4 else 3, s.extract (if isAt s k1 94 then k1 + 1 else k1) (brk s (if isAt s k1 94 then k1 + 1 else k1)), []⟩], out.length)) := rfl
  rw [eP]
  have bad : ∀ a : Nat, a ≤ s.size → ∀ r : Nat, Ro (cS s) s n0 p h (out.length + 2 * (s.size - k)) none (.int .i64 (r : Nat)) (h.set p (.cells [.string s, .int .i64 (a : Nat), .bool true, v] .solo p)) := fun a ha r =>
    ⟨(Fr.refl n0 h).set hn _, .inr ⟨rfl, ⟨r, rfl⟩, Rb.atP G.lt hn w (by omega) ha⟩⟩
  cases hc : isAt s k1 94 with
  | true =>
    rw [hc] at hI
    have hlt := isAt_lt hc
    simp only [if_true]
    obtain ⟨b, eb⟩ : ∃ b, b = k1 + 1 := ⟨_, rfl⟩
    rw [← eb]
    have w1 : IntKind.i64.wrap ((k1 : Int) + 1) = (b : Int) := by rw [wrapSucc (by omega), eb]
    refine CC.ofN Tryz.func178 Tryz.ntmps178 Tryz.results178 rfl (by decide) (by kernel_rfl) ?_
    simp (maxSteps := 1000000) -implicitDefEqProofs only [push_cast, seval, e, rd_of e, rd1_of e, hp, w0]
    with_reducible refine CD.to hI ?_
    simp (maxSteps := 1000000) -implicitDefEqProofs only [push_cast, seval, e, rd_of e, rd1_of e, hp, w0, w1]
    have hbb : b ≤ s.size := by omega
    have hbr := brk_le s b hbb
    refine WC.loopA (by kernel_rfl) [] [28, 29, 30, 31, 32, 33, 34, 35, 36, 37, 38, 39, 40, 41, 42, 43, 44, 45, 46, 47, 48, 49, 50, 51, 52, 53, 54, 55, 56, 57] (fun a : Nat => []) (fun a h' => (b ≤ a ∧ a ≤ s.size ∧ brk s a = brk s b) ∧ h' = h.set p (.cells [.string s, .int .i64 (a : Nat), .bool false, v] .solo p)) (fun a => s.size - a) b (by kernel_rfl) ⟨⟨Nat.le_refl _, hbb, rfl⟩, rfl⟩ ?_
    intro a g h1 hJ
    have ha1 := hJ.1.1
    have ha2 := hJ.1.2.1
    have ha3 := hJ.1.2.2
    have hh := hJ.2
    clear hJ
    subst hh
    have wa : IntKind.i64.wrap ((a : Int) + 1) = ((a + 1 : Nat) : Int) := by rw [wrapSucc (by omega)]
    simp (maxSteps := 1000000) -implicitDefEqProofs only [push_cast, seval, hp]
    refine WC.draw' (by kernel_rfl) (by kernel_rfl) (.q 0 (.q 1 (.q 2 (.q 3 (.q 4 (.q 5 (.q 6 (.q 7 (.q 8 (.q 9 (.q 10 (.q 11 (.q 12 (.q 13 (.q 14 (.q 15 (.q 16 (.q 17 (.q 18 (.q 19 (.q 20 (.q 21 (.done))))))))))))))))))))))) (by kernel_rfl) ?_
    simp (maxSteps := 1000000) -implicitDefEqProofs only [push_cast, seval, hp]
    with_reducible refine bcase_d (fun hb => ?_) (fun hb => ?_)
    · have hi : a < s.size := by omega
      simp (maxSteps := 1000000) -implicitDefEqProofs only [push_cast, seval, hp]
      repeat (with_reducible refine And.intro ?_ ?_; · (first | omega | decide))
      with_reducible refine bcase_d (fun hb2 => ?_) (fun hb2 => ?_)
      · have eb2 := ha3.symm.trans (brk_here hi (by omega))
        rw [eb2]
        simp (maxSteps := 1000000) -implicitDefEqProofs only [push_cast, seval, hp]
        refine WC.draw' (by kernel_rfl) (by kernel_rfl) (.q 0 (.q 1 (.q 2 (.q 3 (.q 4 (.q 5 (.q 6 (.q 7 (.q 8 (.q 9 (.q 10 (.q 11 (.q 12 (.q 13 (.q 14 (.q 15 (.q 16 (.q 17 (.done))))))))))))))))))) (by kernel_rfl) ?_
        simp (maxSteps := 1000000) -implicitDefEqProofs only [push_cast, seval, hp]
        with_reducible refine bcase_d (fun hb3 => ?_) (fun hb3 => ?_)
        · exfalso; omega
        simp (maxSteps := 1000000) -implicitDefEqProofs only [push_cast, seval, hp]
        with_reducible refine bcase_d (fun hb4 => ?_) (fun hb4 => ?_)
        · rw [if_pos (.inr (by omega))]
          simp (maxSteps := 1000000) -implicitDefEqProofs only [push_cast, seval, hp]
          exact bad a ha2 0
        · rw [if_neg (by omega)]
          simp (maxSteps := 1000000) -implicitDefEqProofs only [push_cast, seval, hp]
          refine WC.draw' (by kernel_rfl) (by kernel_rfl) (.q 0 (.q 1 (.q 2 (.q 3 (.q 4 (.q 5 (.q 6 (.q 7 (.q 8 (.q 9 (.q 10 (.done)))))))))))) (by kernel_rfl) ?_
          simp (maxSteps := 1000000) -implicitDefEqProofs only [push_cast, seval, hp]
          repeat (with_reducible refine And.intro ?_ ?_; · (first | omega | decide))
          obtain ⟨a1, ea1⟩ : ∃ a1, a1 = a + 1 := ⟨_, rfl⟩
          have wa' : IntKind.i64.wrap ((a : Int) + 1) = (a1 : Int) := by rw [wa, ea1]
          rw [wa', ← ea1]
          have hR : Rg (cS s) s n0 p (h.set p (.cells (cS s a1 false v) .solo p)) a1 out := by rw [← hL]; exact Rg.at hp hn w (by omega)
          have hU := putNs n0 p s a1 out 4 4 rfl (s.extract b a) _ hR (by omega)
          simp only [cS] at hU
          with_reducible refine CC.mono hU (fun y h2 hy => ?_)
          have ey := hy.1
          have f2 := hy.2.1
          have G2 := hy.2.2
          clear hy hU
          subst ey
          simp (maxSteps := 1000000) -implicitDefEqProofs only [push_cast, seval]
          exact Ro.some (((Fr.refl n0 h).set hn _).trans f2) G2
      · have eb2 := brk_next hi (by omega)
        simp (maxSteps := 1000000) -implicitDefEqProofs only [push_cast, seval, hp]
        rw [wa]
        exact ⟨a + 1, ⟨⟨by omega, by omega, eb2.symm.trans ha3⟩, rfl⟩, by omega⟩
    · have eb2 := ha3.symm.trans (brk_end (s := s) (a := a) (by omega))
      rw [if_pos (.inl eb2)]
      have ea : a = s.size := by omega
      simp (maxSteps := 1000000) -implicitDefEqProofs only [push_cast, seval, hp]
      refine WC.draw' (by kernel_rfl) (by kernel_rfl) (.q 0 (.q 1 (.q 2 (.q 3 (.q 4 (.q 5 (.q 6 (.q 7 (.q 8 (.q 9 (.q 10 (.q 11 (.q 12 (.q 13 (.q 14 (.q 15 (.q 16 (.q 17 (.done))))))))))))))))))) (by kernel_rfl) ?_
      simp (maxSteps := 1000000) -implicitDefEqProofs only [push_cast, seval, hp]
      with_reducible refine bcase_d (fun hb3 => ?_) (fun hb3 => ?_)
      · simp (maxSteps := 1000000) -implicitDefEqProofs only [push_cast, seval, hp]
        exact bad a ha2 0
      · exfalso; omega
  | false =>
    rw [hc] at hI
    simp only [Bool.false_eq_true, if_false]
    refine CC.ofN Tryz.func178 Tryz.ntmps178 Tryz.results178 rfl (by decide) (by kernel_rfl) ?_
    simp (maxSteps := 1000000) -implicitDefEqProofs only [push_cast, seval, e, rd_of e, rd1_of e, hp, w0]
    with_reducible refine CD.to hI ?_
    simp (maxSteps := 1000000) -implicitDefEqProofs only [push_cast, seval, e, rd_of e, rd1_of e, hp, w0]
    have hbb : k1 ≤ s.size := by omega
    have hbr := brk_le s k1 hbb
    refine WC.loopA (by kernel_rfl) [] [28, 29, 30, 31, 32, 33, 34, 35, 36, 37, 38, 39, 40, 41, 42, 43, 44, 45, 46, 47, 48, 49, 50, 51, 52, 53, 54, 55, 56, 57] (fun a : Nat => []) (fun a h' => (k1 ≤ a ∧ a ≤ s.size ∧ brk s a = brk s k1) ∧ h' = h.set p (.cells [.string s, .int .i64 (a : Nat), .bool false, v] .solo p)) (fun a => s.size - a) k1 (by kernel_rfl) ⟨⟨Nat.le_refl _, hbb, rfl⟩, rfl⟩ ?_
    intro a g h1 hJ
    have ha1 := hJ.1.1
    have ha2 := hJ.1.2.1
    have ha3 := hJ.1.2.2
    have hh := hJ.2
    clear hJ
    subst hh
    have wa : IntKind.i64.wrap ((a : Int) + 1) = ((a + 1 : Nat) : Int) := by rw [wrapSucc (by omega)]
    simp (maxSteps := 1000000) -implicitDefEqProofs only [push_cast, seval, hp]
    refine WC.draw' (by kernel_rfl) (by kernel_rfl) (.q 0 (.q 1 (.q 2 (.q 3 (.q 4 (.q 5 (.q 6 (.q 7 (.q 8 (.q 9 (.q 10 (.q 11 (.q 12 (.q 13 (.q 14 (.q 15 (.q 16 (.q 17 (.q 18 (.q 19 (.q 20 (.q 21 (.done))))))))))))))))))))))) (by kernel_rfl) ?_
    simp (maxSteps := 1000000) -implicitDefEqProofs only [push_cast, seval, hp]
    with_reducible refine bcase_d (fun hb => ?_) (fun hb => ?_)
    · have hi : a < s.size := by omega
      simp (maxSteps := 1000000) -implicitDefEqProofs only [push_cast, seval, hp]
      repeat (with_reducible refine And.intro ?_ ?_; · (first | omega | decide))
      with_reducible refine bcase_d (fun hb2 => ?_) (fun hb2 => ?_)
      · have eb2 := ha3.symm.trans (brk_here hi (by omega))
        rw [eb2]
        simp (maxSteps := 1000000) -implicitDefEqProofs only [push_cast, seval, hp]
        refine WC.draw' (by kernel_rfl) (by kernel_rfl) (.q 0 (.q 1 (.q 2 (.q 3 (.q 4 (.q 5 (.q 6 (.q 7 (.q 8 (.q 9 (.q 10 (.q 11 (.q 12 (.q 13 (.q 14 (.q 15 (.q 16 (.q 17 (.done))))))))))))))))))) (by kernel_rfl) ?_
        simp (maxSteps := 1000000) -implicitDefEqProofs only [push_cast, seval, hp]
        with_reducible refine bcase_d (fun hb3 => ?_) (fun hb3 => ?_)
        · exfalso; omega
        simp (maxSteps := 1000000) -implicitDefEqProofs only [push_cast, seval, hp]
        with_reducible refine bcase_d (fun hb4 => ?_) (fun hb4 => ?_)
        · rw [if_pos (.inr (by omega))]
          simp (maxSteps := 1000000) -implicitDefEqProofs only [push_cast, seval, hp]
          exact bad a ha2 0
        · rw [if_neg (by omega)]
          simp (maxSteps := 1000000) -implicitDefEqProofs only [push_cast, seval, hp]
          refine WC.draw' (by kernel_rfl) (by kernel_rfl) (.q 0 (.q 1 (.q 2 (.q 3 (.q 4 (.q 5 (.q 6 (.q 7 (.q 8 (.q 9 (.q 10 (.done)))))))))))) (by kernel_rfl) ?_
          simp (maxSteps := 1000000) -implicitDefEqProofs only [push_cast, seval, hp]
          repeat (with_reducible refine And.intro ?_ ?_; · (first | omega | decide))
          obtain ⟨a1, ea1⟩ : ∃ a1, a1 = a + 1 := ⟨_, rfl⟩
          have wa' : IntKind.i64.wrap ((a : Int) + 1) = (a1 : Int) := by rw [wa, ea1]
          rw [wa', ← ea1]
          have hR : Rg (cS s) s n0 p (h.set p (.cells (cS s a1 false v) .solo p)) a1 out := by rw [← hL]; exact Rg.at hp hn w (by omega)
          have hU := putNs n0 p s a1 out 3 3 rfl (s.extract k1 a) _ hR (by omega)
          simp only [cS] at hU
          with_reducible refine CC.mono hU (fun y h2 hy => ?_)
          have ey := hy.1
          have f2 := hy.2.1
          have G2 := hy.2.2
          clear hy hU
          subst ey
          simp (maxSteps := 1000000) -implicitDefEqProofs only [push_cast, seval]
          exact Ro.some (((Fr.refl n0 h).set hn _).trans f2) G2
      · have eb2 := brk_next hi (by omega)
        simp (maxSteps := 1000000) -implicitDefEqProofs only [push_cast, seval, hp]
        rw [wa]
        exact ⟨a + 1, ⟨⟨by omega, by omega, eb2.symm.trans ha3⟩, rfl⟩, by omega⟩
    · have eb2 := ha3.symm.trans (brk_end (s := s) (a := a) (by omega))
      rw [if_pos (.inl eb2)]
      have ea : a = s.size := by omega
      simp (maxSteps := 1000000) -implicitDefEqProofs only [push_cast, seval, hp]
      refine WC.draw' (by kernel_rfl) (by kernel_rfl) (.q 0 (.q 1 (.q 2 (.q 3 (.q 4 (.q 5 (.q 6 (.q 7 (.q 8 (.q 9 (.q 10 (.q 11 (.q 12 (.q 13 (.q 14 (.q 15 (.q 16 (.q 17 (.done))))))))))))))))))) (by kernel_rfl) ?_
      simp (maxSteps := 1000000) -implicitDefEqProofs only [push_cast, seval, hp]
      with_reducible refine bcase_d (fun hb3 => ?_) (fun hb3 => ?_)
      · simp (maxSteps := 1000000) -implicitDefEqProofs only [push_cast, seval, hp]
        exact bad a ha2 0
      · exfalso; omega
end Go.Proofs.YtdlpdfclljnmhaaGreat
