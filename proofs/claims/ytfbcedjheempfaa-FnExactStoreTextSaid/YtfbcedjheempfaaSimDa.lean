/- Exact contracts: what a call gives and the heap then, each one thing; objects that nothing leads to any more are forgotten. Conditions: those that each theorem names. -/
import Derived.Test.YtfbcedjheempfaaSimD
set_option linter.unusedVariables false
set_option linter.unusedSimpArgs false
namespace Go.Sim
variable {P : Program} {FB : Nat → Prop} {w0 : World} {μ : Nat → Option Loc} {h : AH} {w : World}

/-- Values all of whose objects are elder than n. -/
inductive Low (n : Nat) : Value → Prop
  | plain (v : Value) (h : isPlain v = true) : Low n v
  | ptr (i off : Nat) (h : i < n) : Low n (.pointer (some ⟨i, off, none⟩))
  | sl (i off m k : Nat) (h : i < n) : Low n (.slice (some ⟨i, off, none⟩) m k)
  | sl0 (c : Nat) : Low n (.slice none 0 c)
  | map (i : Nat) (h : i < n) : Low n (.map (some i))
  | func (fn : Fn) (f c : Array Value) (hf : ∀ j (hj : j < f.size), Low n f[j]) (hc : ∀ j (hj : j < c.size), Low n c[j]) : Low n (.func fn f c)
  | agg (a : Array Value) (h : ∀ j (hj : j < a.size), Low n a[j]) : Low n (.agg a)
  | tuple (a : Array Value) (h : ∀ j (hj : j < a.size), Low n a[j]) : Low n (.tuple a)

theorem VR.low {μ μ' : Nat → Option Loc} {n : Nat} (hx : ∀ i l, i < n → μ i = some l → μ' i = some l) {v c : Value} (hv : VR μ v c) : Low n v → VR μ' v c := by
  induction hv with
  | plain v h => exact fun _ => .plain v h
  | ptr i off l h => exact fun q => by cases q with
    | plain _ hp => simp [isPlain] at hp
    | ptr _ _ hi => exact .ptr i off l (hx i l hi h)
  | sl i off n k cap l h hn hr => exact fun q => by cases q with
    | plain _ hp => simp [isPlain] at hp
    | sl _ _ _ _ hi => exact .sl i off n k cap l (hx i l hi h) hn hr
  | slz i off k l h ho A' => exact fun q => by cases q with
    | plain _ hp => simp [isPlain] at hp
    | sl _ _ _ _ hi => exact .slz i off k l (hx i l hi h) ho A'
  | sl0 A' c => exact fun _ => .sl0 A' c
  | map i l h => exact fun q => by cases q with
    | plain _ hp => simp [isPlain] at hp
    | map _ hi => exact .map i l (hx i l hi h)
  | func fn f f' c c' hf hc _ _ ef ec => exact fun q => by cases q with
    | plain _ hp => simp [isPlain] at hp
    | func _ _ _ q1 q2 => exact .func fn f f' c c' hf hc (fun j a b => ef j a b (q1 j a)) (fun j a b => ec j a b (q2 j a))
  | agg a a' hs _ e => exact fun q => by cases q with
    | plain _ hp => simp [isPlain] at hp
    | agg _ q1 => exact .agg a a' hs (fun j x y => e j x y (q1 j x))
  | tuple a a' hs _ e => exact fun q => by cases q with
    | plain _ hp =>
      refine .tuple a a' hs (fun j x y => ?_)
      simp [isPlain] at hp; subst hp; simp at x
    | tuple _ q1 => exact .tuple a a' hs (fun j x y => e j x y (q1 j x))

theorem VR.toLow {μ : Nat → Option Loc} {n : Nat} (hd : ∀ i l, μ i = some l → i < n) {v c : Value} (hv : VR μ v c) : Low n v := by
  induction hv with
  | plain v h => exact .plain v h
  | ptr i off l h => exact .ptr i off (hd i l h)
  | sl i off n k cap l h hn hr => exact .sl i off _ k (hd i l h)
  | slz i off k l h ho A' => exact .sl i off 0 k (hd i l h)
  | sl0 A' c => exact .sl0 c
  | map i l h => exact .map i (hd i l h)
  | func fn f f' c c' hf hc _ _ ef ec => exact .func fn f c (fun j a => ef j a (by rw [← hf]; exact a)) (fun j a => ec j a (by rw [← hc]; exact a))
  | agg a a' hs _ e => exact .agg a (fun j x => e j x (by rw [← hs]; exact x))
  | tuple a a' hs _ e => exact .tuple a (fun j x => e j x (by rw [← hs]; exact x))

/-- An object whose values are elder than n. -/
def LowOb (n : Nat) : AOb → Prop
  | .none => True
  | .cells cs _ _ => ∀ v ∈ cs, Low n v
  | .map es => ∀ p ∈ es, Low n p.2

/-- What is new is forgotten. -/
theorem Sim.trunc {h' H : AH} {μ' : Nat → Option Loc} {w' : World} (s : Sim P FB w0 μ h w) (p : Post P FB w0 μ h μ' h' w') (hn : H.n = h.n) (hH : ∀ i, i < h.n → h'.ob i = H.ob i) (hb : ∀ i, h.n ≤ i → H.ob i = h.ob i)
    (hl : ∀ i, i < h.n → H.ob i = h.ob i ∨ LowOb h.n (H.ob i)) : Post P FB w0 μ h (fun i => if i < h.n then μ' i else none) H w' := by
  have hν : ∀ {i l}, (if i < h.n then μ' i else none) = some l → i < h.n ∧ μ' i = some l := fun {i l} e => by
    split at e
    · rename_i hi; exact ⟨hi, e⟩
    · cases e
  have hz : ∀ i, h.n ≤ i → H.ob i = .none := fun i hi => (hb i hi).trans (s.big i hi)
  have lt : ∀ {i}, H.ob i ≠ .none → i < h.n := fun {i} e => Nat.lt_of_not_le (fun hi => e (hz i hi))
  have ltown : ∀ {i n}, (H.ob i).own = some n → i < h.n ∧ (h'.ob i).own = some n := fun {i n} e => by
    have hi := lt (i := i) (fun e' => by rw [e'] at e; cases e)
    exact ⟨hi, by rw [hH i hi]; exact e⟩
  have q := p.sim
  have keep : ∀ {v c}, VR μ' v c → Low h.n v → VR (fun i => if i < h.n then μ' i else none) v c := fun hv hlow =>
    hv.low (fun i l hi e => by rw [if_pos hi]; exact e) hlow
  have lowc : ∀ {i l}, i < h.n → μ' i = some l → LowOb h.n (H.ob i) := fun {i l} hi e => by
    rcases hl i hi with e1 | e1
    · rw [e1]
      have hm : ∃ l0, μ i = some l0 := by
        cases e2 : μ i with
        | some l0 => exact ⟨l0, rfl⟩
        | none => rw [(p.unt.2 i hi e2).1] at e; cases e
      obtain ⟨l0, e2⟩ := hm
      cases e3 : h.ob i with
      | none => trivial
      | cells cs st ln =>
        intro v hv
        obtain ⟨j, hj, rfl⟩ := List.mem_iff_getElem.1 hv
        obtain ⟨cv, _, hr⟩ := s.cell i l0 cs st ln e2 e3 j hj
        exact hr.toLow s.dom
      | map es =>
        intro v hv
        obtain ⟨j, hj, rfl⟩ := List.mem_iff_getElem.1 hv
        obtain ⟨_, ents, _, _, hsz, hr⟩ := s.mp i l0 es e2 e3
        exact (hr j hj (by rw [← hsz]; exact hj)).2.2.toLow s.dom
    · exact e1
  refine ⟨?_, fun i l e => ?_, ?_⟩
  · refine { os := q.os, tape := q.tape, out := q.out, frame := q.frame, dom := fun i l e => by rw [hn]; exact (hν e).1, big := fun i hi => hz i (by rw [← hn]; exact hi), glob := ?_, cell := ?_, blk := ?_, rob := ?_, onec := ?_, sep := ?_, tip := ?_, tipu := ?_, solo := ?_, lin := ?_, linc := ?_, mp := ?_, mpu := ?_ }
    · intro g hg
      obtain ⟨l, h1, h2⟩ := s.glob g hg
      exact ⟨l, by rw [if_pos (s.dom g l h1)]; exact p.ext g l h1, h2⟩
    · intro i l cs st ln e eo j hj
      obtain ⟨hi, e'⟩ := hν e
      obtain ⟨cv, h1, h2⟩ := q.cell i l cs st ln e' (by rw [hH i hi]; exact eo) j hj
      have := lowc hi e'
      rw [eo] at this
      exact ⟨cv, h1, keep h2 (this _ (List.getElem_mem hj))⟩
    · intro i l cs st ln e eo
      obtain ⟨hi, e'⟩ := hν e
      exact q.blk i l cs st ln e' (by rw [hH i hi]; exact eo)
    · intro i l cs ln e eo
      obtain ⟨hi, e'⟩ := hν e
      exact q.rob i l cs ln e' (by rw [hH i hi]; exact eo)
    · intro i cs st ln eo
      have hi := lt (i := i) (by rw [eo]; exact fun e => AOb.noConfusion e)
      exact q.onec i cs st ln (by rw [hH i hi]; exact eo)
    · intro i j li lj ni nj ei ej oi oj
      exact q.sep i j li lj ni nj (hν ei).2 (hν ej).2 (ltown oi).2 (ltown oj).2
    · intro i j li lj ci cj sj ni nj ei ej oi oj hs
      exact q.tip i j li lj ci cj sj ni nj (hν ei).2 (hν ej).2 (by rw [hH i (hν ei).1]; exact oi) (by rw [hH j (hν ej).1]; exact oj) hs
    · intro i j ci cj n oi oj
      have hi := lt (i := i) (by rw [oi]; exact fun e => AOb.noConfusion e)
      have hj := lt (i := j) (by rw [oj]; exact fun e => AOb.noConfusion e)
      exact q.tipu i j ci cj n (by rw [hH i hi]; exact oi) (by rw [hH j hj]; exact oj)
    · intro i cs n oi
      have hi := lt (i := i) (by rw [oi]; exact fun e => AOb.noConfusion e)
      obtain ⟨a, b⟩ := q.solo i cs n (by rw [hH i hi]; exact oi)
      exact ⟨a, fun j hj => b j (ltown hj).2⟩
    · intro i n oi
      exact q.lin i n (ltown oi).2
    · intro i j n oi oj hne
      obtain ⟨hi, oi'⟩ := ltown oi
      obtain ⟨hj, oj'⟩ := ltown oj
      simp only [hi, hj, if_true] at hne ⊢
      exact q.linc i j n oi' oj' hne
    · intro i l es e eo
      obtain ⟨hi, e'⟩ := hν e
      obtain ⟨a, ents, clock, b, hsz, hr⟩ := q.mp i l es e' (by rw [hH i hi]; exact eo)
      have := lowc hi e'
      rw [eo] at this
      exact ⟨a, ents, clock, b, hsz, fun j hj hj' => ⟨(hr j hj hj').1, (hr j hj hj').2.1, keep (hr j hj hj').2.2 (this _ (List.getElem_mem hj))⟩⟩
    · intro i j li lj es es' ei ej oi oj
      exact q.mpu i j li lj es es' (hν ei).2 (hν ej).2 (by rw [hH i (hν ei).1]; exact oi) (by rw [hH j (hν ej).1]; exact oj)
  · rw [if_pos (s.dom i l e)]; exact p.ext i l e
  · refine ⟨Nat.le_of_eq hn.symm, fun i hi hm => ?_⟩
    obtain ⟨a, b⟩ := p.unt.2 i hi hm
    exact ⟨by show (if i < h.n then μ' i else none) = none; rw [if_pos hi]; exact a, by rw [← hH i hi]; exact b⟩

/-- What stays of a heap, of a call's: all that was there is as in H, what H does not know is forgotten. -/
structure Kp (h H h' : AH) : Prop where
  n : H.n = h.n
  ob : ∀ i, i < h.n → h'.ob i = H.ob i
  big : ∀ i, h.n ≤ i → H.ob i = h.ob i
  low : ∀ i, i < h.n → H.ob i = h.ob i ∨ LowOb h.n (H.ob i)

theorem CC.trunc {f : FuncId} {args : List Value} {R R' : Value → AH → Prop} (hc : CC P f args h R) (hR : ∀ v h', R v h' → ∃ H, Kp h H h' ∧ Low h.n v ∧ R' v H) : CC P f args h R' := by
  intro FB w0 μ w cargs o a K Q s ha hk
  refine hc FB w0 μ w cargs o a K Q s ha (fun v h' μ' cv w' r p hv => ?_)
  obtain ⟨H, k, hl, hr⟩ := hR v h' r
  exact hk v H _ cv w' hr (s.trunc p k.n k.ob k.big k.low) (hv.low (fun i l hi e => by rw [if_pos hi]; exact e) hl)

/-- An exact contract. -/
def CD (P : Program) (f : FuncId) (args : List Value) (h : AH) (V : Value) (H : AH) : Prop := CC P f args h fun v h' => v = V ∧ h' = H
theorem CD.to {f : FuncId} {args : List Value} {V : Value} {H : AH} {K : Value → AH → Prop} (hc : CD P f args h V H) (hk : K V H) : CC P f args h K :=
  CC.mono hc (fun _ _ ⟨a, b⟩ => a ▸ b ▸ hk)

/-- As it was, as far as it was. -/
def Keep (n : Nat) (H h' : AH) : Prop := ∀ i, i < n → h'.ob i = H.ob i
theorem Keep.refl (n : Nat) (h : AH) : Keep n h h := fun _ _ => rfl
theorem keep_refl (n : Nat) (h : AH) : Keep n h h = True := propext ⟨fun _ => trivial, fun _ _ _ => rfl⟩
theorem Keep.alloc {n : Nat} {H h' : AH} {o : AOb} (k : Keep n H h') (e : n ≤ h'.n) : Keep n H (h'.alloc o) := fun i hi => by
  rw [alloc_lt o (Nat.lt_of_lt_of_le hi e)]; exact k i hi
theorem Keep.set {n j : Nat} {H h' : AH} {o : AOb} (k : Keep n H h') (e : n ≤ j) : Keep n H (h'.set j o) := fun i hi => by
  rw [set_ne o (Nat.ne_of_lt (Nat.lt_of_lt_of_le hi e))]; exact k i hi
theorem Keep.pre {n : Nat} {H h' h'' : AH} (k : Keep n H h') (e : n ≤ h'.n) (p : Pre h' h'') : Keep n H h'' := fun i hi => by
  rw [p.ob i (Nat.lt_of_lt_of_le hi e)]; exact k i hi
theorem Keep.trans {n : Nat} {H h' h'' : AH} (k : Keep n H h') (k' : Keep n h' h'') : Keep n H h'' := fun i hi => (k' i hi).trans (k i hi)

/-- A contract that leaves the heap as it was. -/
theorem CC.quiet {f : FuncId} {args : List Value} {R : Value → Prop} (hc : CC P f args h fun v h' => R v ∧ Keep h.n h h') (hl : ∀ v, R v → Low h.n v) : CC P f args h fun v h' => R v ∧ h' = h :=
  hc.trunc (fun v h' ⟨r, k⟩ => ⟨h, ⟨rfl, k, fun _ _ => rfl, fun _ _ => .inl rfl⟩, hl v r, r, rfl⟩)
theorem CD.quiet {f : FuncId} {args : List Value} {V : Value} (hc : CC P f args h fun v h' => v = V ∧ Keep h.n h h') (hl : Low h.n V) : CD P f args h V h :=
  CC.quiet hc (fun v e => by rw [e]; exact hl)
/-- A contract that writes one object. -/
theorem CC.wrote {f : FuncId} {args : List Value} {R : Value → AOb → Prop} {p : Nat} (hp : p < h.n) (hc : CC P f args h fun v h' => ∃ o, R v o ∧ Keep h.n (h.set p o) h') (hl : ∀ v o, R v o → Low h.n v ∧ LowOb h.n o) :
    CC P f args h fun v h' => ∃ o, R v o ∧ h' = h.set p o :=
  hc.trunc (fun v h' ⟨o, r, k⟩ => ⟨h.set p o, ⟨rfl, k, fun i hi => set_ne o (by omega), fun i hi => by
    by_cases e : i = p
    · subst e; exact .inr (by rw [set_same]; exact (hl v o r).2)
    · exact .inl (set_ne o e)⟩, (hl v o r).1, o, r, rfl⟩)
theorem CD.wrote {f : FuncId} {args : List Value} {V : Value} {p : Nat} {o : AOb} (hp : p < h.n) (hc : CC P f args h fun v h' => v = V ∧ Keep h.n (h.set p o) h') (hl : Low h.n V) (hlo : LowOb h.n o) : CD P f args h V (h.set p o) :=
  (CC.wrote (R := fun v o' => v = V ∧ o' = o) hp (hc.mono (fun v h' ⟨a, b⟩ => ⟨o, ⟨a, rfl⟩, b⟩)) (fun v o' ⟨a, b⟩ => by subst a; subst b; exact ⟨hl, hlo⟩)).mono (fun v h' ⟨o', ⟨a, b⟩, c⟩ => ⟨a, by rw [← b]; exact c⟩)

/-! low values, by their form -/
theorem low_int (n : Nat) (k : IntKind) (x : Int) : Low n (.int k x) := .plain _ rfl
theorem low_bool (n : Nat) (x : Bool) : Low n (.bool x) := .plain _ rfl
theorem low_string (n : Nat) (x : ByteArray) : Low n (.string x) := .plain _ rfl
theorem low_nil (n : Nat) : Low n (.tuple #[]) := .plain _ rfl
theorem low_list {n : Nat} {a : Array Value} (h : ∀ v ∈ a.toList, Low n v) : ∀ j (hj : j < a.size), Low n a[j] := fun j hj => h _ (by simp)
theorem low_tuple {n : Nat} {l : List Value} (h : ∀ v ∈ l, Low n v) : Low n (.tuple l.toArray) := .tuple _ (low_list (by simpa using h))
theorem low_agg {n : Nat} {l : List Value} (h : ∀ v ∈ l, Low n v) : Low n (.agg l.toArray) := .agg _ (low_list (by simpa using h))

/-- A call that leaves all as it was, whatever else lies in memory: what it gives, and which objects it looks at. -/
def CQ (P : Program) (f : FuncId) (args : List Value) (h : AH) (X : Value → List Nat → Prop) : Prop :=
  ∃ v ids, (∀ h' : AH, (∀ id ∈ ids, h'.ob id = h.ob id) → CD P f args h' v h') ∧ X v ids
@[congr] theorem CQ_congr {tk : Prop} (_ : tick = tk) {f f2 : FuncId} {l l2 : List Value} {h h2 : AH} {X : Value → List Nat → Prop} (ef : f = f2) (el : l = l2) (eh : h = h2) : CQ P f l h X = CQ P f2 l2 h2 X := by subst ef; subst el; subst eh; rfl
theorem CQ.pure {f : FuncId} {args : List Value} {X : Value → List Nat → Prop} {V : Value} (hc : ∀ h', CD P f args h' V h') (hx : X V []) : CQ P f args h X := ⟨V, [], fun h' _ => hc h', hx⟩
theorem CQ.look {f : FuncId} {args : List Value} {X : Value → List Nat → Prop} {V : Value} (ids : List Nat) (hc : ∀ h' : AH, (∀ id ∈ ids, h'.ob id = h.ob id) → CD P f args h' V h') (hx : X V ids) : CQ P f args h X := ⟨V, ids, hc, hx⟩
end Go.Sim
