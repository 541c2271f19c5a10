/- Parts of the proof of the row: the ground, contracts of the functions that it reaches (SimMap, SimA, SimB, SimC, SimD, SimDa, SimE, SimF, SimG). Conditions: those that each theorem names. -/
import Derived.LoopN
import Derived.Scope
import Derived.Test.YtcggnolnakgkeaaB1
/- Maps with keys of one kind of numbers: look-up and store. Conditions: those that each theorem names. -/
set_option linter.unusedVariables false
set_option linter.unusedSimpArgs false
namespace Go.Sim
variable {P : Program} {FB : Nat → Prop} {w0 : World} {μ : Nat → Option Loc} {h : AH} {w : World}
/-- What stands at a key; none where a key is of another kind. -/
def aget : List (Value × Value) → IntKind → Int → Option (Option Value)
  | [], _, _ => some none
  | (.int k' a, v) :: r, k, n => if k' = k then (if a = n then some (some v) else aget r k n) else none
  | _ :: _, _, _ => none
def aput : List (Value × Value) → IntKind → Int → Value → Option (List (Value × Value))
  | [], k, n, v => some [(.int k n, v)]
  | (.int k' a, u) :: r, k, n, v => if k' = k then (if a = n then some ((.int k n, v) :: r) else (aput r k n v).map ((.int k' a, u) :: ·)) else none
  | _ :: _, _, _, _ => none
def MR (μ : Nat → Option Loc) : List (Value × Value) → List MapEntry → Prop
  | [], [] => True
  | x :: r, e :: s => isPlain x.1 = true ∧ x.1 = e.key ∧ VR μ x.2 e.val ∧ MR μ r s
  | _, _ => False
theorem MR.of : ∀ {es : List (Value × Value)} {ents : List MapEntry}, es.length = ents.length → (∀ j (h : j < es.length) (h' : j < ents.length), isPlain es[j].1 = true ∧ es[j].1 = ents[j].key ∧ VR μ es[j].2 ents[j].val) → MR μ es ents
  | [], [], _, _ => trivial
  | [], _ :: _, h, _ => by simp at h
  | _ :: _, [], h, _ => by simp at h
  | x :: r, e :: s, h, f => ⟨(f 0 (by simp) (by simp)).1, (f 0 (by simp) (by simp)).2.1, (f 0 (by simp) (by simp)).2.2, MR.of (by simpa using h) (fun j a b => f (j + 1) (by simpa using a) (by simpa using b))⟩
theorem MR.len : ∀ {es : List (Value × Value)} {ents : List MapEntry}, MR μ es ents → es.length = ents.length
  | [], [], _ => rfl
  | [], _ :: _, h => h.elim
  | _ :: _, [], h => h.elim
  | x :: r, e :: s, h => by simp [MR.len h.2.2.2]
theorem MR.get : ∀ {es : List (Value × Value)} {ents : List MapEntry}, MR μ es ents → ∀ j (h : j < es.length) (h' : j < ents.length), isPlain es[j].1 = true ∧ es[j].1 = ents[j].key ∧ VR μ es[j].2 ents[j].val
  | [], [], _, j, h, _ => by simp at h
  | [], _ :: _, h, _, _, _ => h.elim
  | _ :: _, [], h, _, _, _ => h.elim
  | x :: r, e :: s, h, 0, _, _ => ⟨h.1, h.2.1, h.2.2.1⟩
  | x :: r, e :: s, h, j + 1, a, b => MR.get h.2.2.2 j (by simpa using a) (by simpa using b)
theorem MapR.mr {es : List (Value × Value)} {ents : Array MapEntry} (m : MapR μ es ents) : MR μ es ents.toList := MR.of (by simpa using m.1) (fun j a b => by simpa using m.2 j a (by simpa using b))
theorem MR.mapR {es : List (Value × Value)} {ents : Array MapEntry} (m : MR μ es ents.toList) : MapR μ es ents := ⟨by simpa using m.len, fun j a b => by have := m.get j a (by simpa using b); rw [Array.getElem_toList] at this; exact this⟩
theorem find_get {q k : IntKind} {n : Int} : ∀ {es : List (Value × Value)} {ents : List MapEntry} {r : Option Value} (i : Nat), MR μ es ents → aget es k n = some r →
    (r = none ∧ Instr.findNow (.int q) (.int k n) ents i = some none) ∨ ∃ v cv j, r = some v ∧ VR μ v cv ∧ Instr.findNow (.int q) (.int k n) ents i = some (some (j, cv))
  | [], [], r, i, _, e => by
    simp only [aget, Option.some.injEq] at e
    exact .inl ⟨e.symm, rfl⟩
  | [], _ :: _, _, _, m, _ => m.elim
  | _ :: _, [], _, _, m, _ => m.elim
  | (x, v) :: es, en :: ents, r, i, m, e => by
    obtain ⟨m1, m2, m3, m4⟩ := m
    simp only at m1 m2 m3
    cases x <;> try (simp [aget] at e; done)
    rename_i k' a
    simp only [aget] at e
    split at e
    · rename_i hk
      subst hk
      split at e
      · rename_i ha
        subst ha
        simp only [Option.some.injEq] at e
        refine .inr ⟨v, en.val, i, e.symm, m3, ?_⟩
        unfold Instr.findNow
        rw [← m2]
        simp [Instr.sameNow]
      · rename_i ha
        rcases find_get (q := q) (i + 1) m4 e with ⟨h1, h2⟩ | ⟨u, cv, j, h1, h2, h3⟩
        · refine .inl ⟨h1, ?_⟩
          unfold Instr.findNow
          rw [← m2]
          simp only [Instr.sameNow, if_true, show (n == a) = false by simp; exact fun h => ha h.symm]
          exact h2
        · refine .inr ⟨u, cv, j, h1, h2, ?_⟩
          unfold Instr.findNow
          rw [← m2]
          simp only [Instr.sameNow, if_true, show (n == a) = false by simp; exact fun h => ha h.symm]
          exact h3
    · cases e
theorem find_put {q k : IntKind} {n : Int} {v cv : Value} (hv : VR μ v cv) (b : Nat) : ∀ {es es' : List (Value × Value)} {ents : List MapEntry} (i : Nat), MR μ es ents → aput es k n v = some es' →
    (Instr.findNow (.int q) (.int k n) ents i = some none ∧ MR μ es' (ents ++ [⟨.int k n, cv, b⟩])) ∨ ∃ u j, Instr.findNow (.int q) (.int k n) ents i = some (some (i + j, u)) ∧ (ents[j]?).map (·.key) = some (.int k n) ∧ MR μ es' (ents.modify j fun e => { e with key := .int k n, val := cv })
  | [], es', [], i, _, e => by
    simp only [aput, Option.some.injEq] at e
    subst e
    exact .inl ⟨rfl, rfl, rfl, hv, trivial⟩
  | [], _, _ :: _, _, m, _ => m.elim
  | _ :: _, _, [], _, m, _ => m.elim
  | (x, v') :: es, es', en :: ents, i, m, e => by
    obtain ⟨m1, m2, m3, m4⟩ := m
    simp only at m1 m2 m3
    cases x <;> try (simp [aput] at e; done)
    rename_i k' a
    simp only [aput] at e
    split at e
    · rename_i hk
      subst hk
      split at e
      · rename_i ha
        subst ha
        simp only [Option.some.injEq] at e
        subst e
        refine .inr ⟨en.val, 0, ?_, by simp [← m2], ?_⟩
        · unfold Instr.findNow
          rw [← m2]
          simp [Instr.sameNow]
        · simp only [List.modify_zero_cons]
          exact ⟨rfl, rfl, hv, m4⟩
      · rename_i ha
        obtain ⟨r, hr, rfl⟩ := Option.map_eq_some_iff.1 e
        rcases find_put hv b (q := q) (i + 1) m4 hr with ⟨h1, h2⟩ | ⟨u, j, h1, h2, h3⟩
        · refine .inl ⟨?_, m1, m2, m3, h2⟩
          unfold Instr.findNow
          rw [← m2]
          simp only [Instr.sameNow, if_true, show (n == a) = false by simp; exact fun h => ha h.symm]
          exact h1
        · refine .inr ⟨u, j + 1, ?_, by simpa using h2, ?_⟩
          · unfold Instr.findNow
            rw [← m2]
            simp only [Instr.sameNow, if_true, show (n == a) = false by simp; exact fun h => ha h.symm]
            rw [h1, show i + (j + 1) = i + 1 + j by omega]
          · simp only [List.modify_succ_cons]
            exact ⟨m1, m2, m3, h3⟩
    · cases e
/-- A map is written. -/
theorem Sim.putMap (s : Sim P FB w0 μ h w) {r : Nat} {l : Loc} {es es' : List (Value × Value)} {ents : Array MapEntry} {clock : Nat} (hm : μ r = some l) (ho : h.ob r = .map es) (hr : MapR μ es' ents) :
    Sim P FB w0 μ (h.set r (.map es')) { w with heap := w.heap.setIfInBounds l.b (.map ents clock) } := by
  obtain ⟨nfb, ents0, clock0, hb0, hr0⟩ := s.mp r l es hm ho
  have hlt : l.b < w.heap.size := (Array.getElem?_eq_some_iff.1 hb0).1
  have heap_ne : ∀ k, k ≠ l.b → (w.heap.setIfInBounds l.b (.map ents clock))[k]? = w.heap[k]? := fun k hk => Array.getElem?_setIfInBounds_ne (Ne.symm hk)
  have hob : ∀ i, i ≠ r → (h.set r (.map es')).ob i = h.ob i := fun i hi => by simp [AH.set, hi]
  have hnew : (h.set r (.map es')).ob r = .map es' := by simp [AH.set]
  have hno : ∀ i n, ((h.set r (.map es')).ob i).own = some n → i ≠ r := fun i n ho e => by subst e; rw [hnew] at ho; simp [AOb.own] at ho
  have hnc : ∀ i c st n, (h.set r (.map es')).ob i = .cells c st n → i ≠ r := fun i c st n ho e => by subst e; rw [hnew] at ho; cases ho
  have cellne : ∀ (a : Addr) (v : Value), w.cell? a = some v → a.block ≠ l.b := fun a v e e2 => by
    unfold World.cell? at e
    rw [e2, hb0] at e
    simp at e
  have cell_same : ∀ (a : Addr), a.block ≠ l.b → ({ w with heap := w.heap.setIfInBounds l.b (.map ents clock) } : World).cell? a = w.cell? a := fun a ha => by
    unfold World.cell?
    simp only [heap_ne _ ha]
  constructor
  case os => exact s.os
  case tape => exact s.tape
  case out => exact s.out
  case frame =>
    intro b hb
    obtain ⟨h1, h2⟩ := s.frame b hb
    exact ⟨by simpa using h1, by rw [← h2]; exact heap_ne b (fun e => nfb (e ▸ hb))⟩
  case dom => exact s.dom
  case big => intro i hi; rw [hob i (fun e => by subst e; have := s.dom i l hm; have : h.n ≤ i := hi; omega)]; exact s.big i hi
  case glob => exact s.glob
  case tab =>
    intro g c n hg ho'
    have e1 := hnc _ _ _ _ ho'
    rw [hob g e1] at ho'
    exact s.tab g c n hg ho'
  case cell =>
    intro i l' cs st ln hm' ho' j hj
    have hi := hnc _ _ _ _ ho'
    rw [hob i hi] at ho'
    obtain ⟨cv, a, b⟩ := s.cell i l' cs st ln hm' ho' j hj
    exact ⟨cv, by rw [cell_same _ (cellne _ _ a)]; exact a, b⟩
  case blk =>
    intro i l' cs st ln hm' ho' hs
    have hi := hnc _ _ _ _ ho'
    rw [hob i hi] at ho'
    obtain ⟨a, ⟨arr, e, fz, b1, b2, b3⟩, c⟩ := s.blk i l' cs st ln hm' ho' hs
    refine ⟨a, ⟨arr, e, fz, ?_, b2, b3⟩, c⟩
    have : l'.b ≠ l.b := fun e2 => by rw [e2, hb0] at b1; cases b1
    exact (heap_ne _ this).trans b1
  case rob =>
    intro i l' c n hm' ho' hc
    have e1 := hnc _ _ _ _ ho'
    rw [hob i e1] at ho'
    exact s.rob i l' c n hm' ho' hc
  case onec => intro i c st' n ho'; have e1 := hnc _ _ _ _ ho'; rw [hob i e1] at ho'; exact s.onec i c st' n ho'
  case sep =>
    intro i j li lj ni nj hi hj oi oj hb
    rw [hob i (hno _ _ oi)] at oi; rw [hob j (hno _ _ oj)] at oj
    exact s.sep i j li lj ni nj hi hj oi oj hb
  case tip =>
    intro i j li lj ci cj sj ni nj hi hj oi oj hs hb
    rw [hob i (hnc _ _ _ _ oi)] at oi; rw [hob j (hnc _ _ _ _ oj)] at oj
    exact s.tip i j li lj ci cj sj ni nj hi hj oi oj hs hb
  case tipu =>
    intro i j ci cj n oi oj
    rw [hob i (hnc _ _ _ _ oi)] at oi; rw [hob j (hnc _ _ _ _ oj)] at oj
    exact s.tipu i j ci cj n oi oj
  case solo =>
    intro i cs n oi
    rw [hob i (hnc _ _ _ _ oi)] at oi
    obtain ⟨a, b⟩ := s.solo i cs n oi
    exact ⟨a, fun j hj => by rw [hob j (hno _ _ hj)] at hj; exact b j hj⟩
  case lin => intro i n oi; rw [hob i (hno _ _ oi)] at oi; exact s.lin i n oi
  case linc =>
    intro i j n oi oj hm'
    rw [hob i (hno _ _ oi)] at oi; rw [hob j (hno _ _ oj)] at oj
    exact s.linc i j n oi oj hm'
  case mp =>
    intro i l' es2 hm' ho'
    by_cases hi : i = r
    · subst hi
      rw [hnew] at ho'
      obtain rfl := AOb.map.inj ho'
      rw [hm] at hm'
      obtain rfl := Option.some.inj hm'
      exact ⟨nfb, ents, clock, by simp [hlt], hr⟩
    · rw [hob i hi] at ho'
      obtain ⟨a, ents2, clock2, b1, b2⟩ := s.mp i l' es2 hm' ho'
      refine ⟨a, ents2, clock2, ?_, b2⟩
      have : l'.b ≠ l.b := fun e2 => hi (s.mpu i r l' l es2 es hm' hm ho' ho e2)
      exact (heap_ne _ this).trans b1
  case mpu =>
    intro i j li lj es1 es2 hi hj oi oj hb
    have key : ∀ k es3, (h.set r (.map es')).ob k = .map es3 → ∃ es4, h.ob k = .map es4 := fun k es3 hk => by
      by_cases e : k = r
      · subst e; exact ⟨_, ho⟩
      · rw [hob k e] at hk; exact ⟨_, hk⟩
    obtain ⟨a, ha⟩ := key i es1 oi
    obtain ⟨b, hb'⟩ := key j es2 oj
    exact s.mpu i j li lj a b hi hj ha hb' hb
def isIntD : Option TypeDesc → Bool
  | some (.int _) => true
  | _ => false
theorem isIntD_int (q : IntKind) : isIntD (some (.int q)) = true := rfl
/-- A look-up. -/
def alookup (P : Program) (h : AH) (t : TypeId) (x k : Value) (ok : Bool) (K : Value → Prop) : Prop :=
  match P.underlying t, x, k with
  | some (.map kt et), .map (some r), .int kk n =>
    isIntD (P.underlying kt) = true ∧
    (match h.ob r, ti P et with
     | .map es, some i =>
       (match aget es kk n, i.zero with
        | some (some v), _ => K (if ok then .tuple #[v, .bool true] else v)
        | some none, [z] => i.agg = false ∧ K (if ok then .tuple #[z, .bool false] else z)
        | _, _ => False)
     | _, _ => False)
  | _, _, _ => False
/-- A store into a map. -/
def amapset (P : Program) (h : AH) (t : TypeId) (x k v : Value) (K : AH → Prop) : Prop :=
  match P.underlying t, x, k with
  | some (.map kt _), .map (some r), .int kk n =>
    isIntD (P.underlying kt) = true ∧
    (match h.ob r with
     | .map es => (match aput es kk n v with | some es' => K (h.set r (.map es')) | none => False)
     | _ => False)
  | _, _, _ => False
theorem isIntD_of {o : Option TypeDesc} (e : isIntD o = true) : ∃ q, o = some (.int q) := by
  unfold isIntD at e
  split at e
  · exact ⟨_, rfl⟩
  · cases e
theorem run_getMap {r : Nat} {es : Array MapEntry} {clock : Nat} (hb : w.heap[r]? = some (.map es clock)) : (getObj r).run P w = .ok (.map es clock) w := by simp [getObj, Sem.run, hb]
theorem run_setMap {r : Nat} {es : Array MapEntry} {clock : Nat} (o : Obj) (hb : w.heap[r]? = some (.map es clock)) : (setObj r o).run P w = .ok () { w with heap := w.heap.setIfInBounds r o } := by simp [setObj, Sem.run, hb]
theorem run_keyInt {kt : TypeId} {q k : IntKind} {n : Int} (hd : P.underlying kt = some (.int q)) (e : Bool) : (Instr.checkKey e 10000 kt (.int k n)).run P w = .ok () w := by
  show (Instr.checkKey e (9999 + 1) kt (.int k n)).run P w = .ok () w
  unfold Instr.checkKey
  simp [run_underlying hd]
theorem run_findInt {kt : TypeId} {q k : IntKind} {n : Int} {es : List MapEntry} {r : Option (Nat × Value)} (hd : P.underlying kt = some (.int q)) (e : Instr.findNow (.int q) (.int k n) es 0 = some r) : (Instr.findKey kt (.int k n) es).run P w = .ok r w := by
  unfold Instr.findKey
  simp [run_underlying hd, e]
theorem VR.mapAt {r : Nat} {c : Value} (h : VR μ (.map (some r)) c) : ∃ l, μ r = some l ∧ c = .map (some l.b) := by
  cases h with
  | plain _ hq => simp [isPlain] at hq
  | map i l hm => exact ⟨l, hm, rfl⟩
theorem one_cells {z : Value} (h : one z = true) : z.cells = #[z] := by
  cases z <;> first | rfl | (simp [one] at h)
theorem alookup_sound {t : TypeId} {x y : Operand} {ok : Bool} {ρ : Operand → Value} {K : Value → Prop} (hk : alookup P h t (ρ x) (ρ y) ok K) :
    ∃ v, AIns P (fun σ => Instr.lookup t (σ x) (σ y) ok) [x, y] ρ h v h ∧ K v := by
  unfold alookup at hk
  split at hk
  · rename_i kt et r kk n ht hx hy
    obtain ⟨hi, hk⟩ := hk
    obtain ⟨q, hq⟩ := isIntD_of hi
    split at hk
    · rename_i es i ho hti
      obtain ⟨d, j, z, g⟩ := ti_facts hti
      split at hk
      · rename_i v hg
        refine ⟨_, AIns.quiet (fun FB w0 μ σ w s hxy => ?_), hk⟩
        have hvx := hxy x (by simp); rw [hx] at hvx
        have hvy := hxy y (by simp); rw [hy] at hvy
        obtain ⟨l, hm, ex⟩ := hvx.mapAt
        obtain ⟨_, ents, clock, hb, hr⟩ := s.mp r l es hm ho
        rcases find_get (q := q) 0 hr.mr hg with ⟨h1, _⟩ | ⟨u, cv, jx, h1, h2, h3⟩
        · cases h1
        · obtain rfl := Option.some.inj h1
          refine ⟨if ok then .tuple #[cv, .bool true] else cv, ?_, ?_⟩
          · simp only [ex, hvy.int, Instr.lookup, Sem.run_bind, run_underlying ht, Result.andThen_ok, run_getMap hb, Sem.run_pure, run_keyInt hq, run_findInt hq h3]
          · cases ok
            · exact h2
            · exact .tuple _ _ rfl (fun a b c => by
                match a with
                | 0 => exact h2
                | 1 => exact .plain _ rfl
                | a + 2 => exact absurd (show a + 2 < 2 from b) (by omega))
      · rename_i z' hg hz
        obtain ⟨ha, hk⟩ := hk
        have hone : one z = true := g.zone (by rw [← g.agg]; exact ha)
        have hzz : z = z' := by
          have := g.zc
          rw [hz, one_cells hone] at this
          simpa using this
        refine ⟨_, AIns.quiet (fun FB w0 μ σ w s hxy => ?_), hk⟩
        have hvx := hxy x (by simp); rw [hx] at hvx
        have hvy := hxy y (by simp); rw [hy] at hvy
        obtain ⟨l, hm, ex⟩ := hvx.mapAt
        obtain ⟨_, ents, clock, hb, hr⟩ := s.mp r l es hm ho
        rcases find_get (q := q) 0 hr.mr hg with ⟨_, h3⟩ | ⟨u, cv, jx, h1, _⟩
        · have hzr : VR μ z' z := by
            rw [hzz]
            exact zok_VR (g.zk _ (by rw [hz]; simp)) μ
          refine ⟨if ok then .tuple #[z, .bool false] else z, ?_, ?_⟩
          · simp only [ex, hvy.int, Instr.lookup, Sem.run_bind, run_underlying ht, Result.andThen_ok, run_getMap hb, Sem.run_pure, run_keyInt hq, run_findInt hq h3, g.runZero]
          · cases ok
            · exact hzr
            · exact .tuple _ _ rfl (fun a b c => by
                match a with
                | 0 => exact hzr
                | 1 => exact .plain _ rfl
                | a + 2 => exact absurd (show a + 2 < 2 from b) (by omega))
        · cases h1
      · exact hk.elim
    · exact hk.elim
  · exact hk.elim
theorem amapset_sound {o : Oper} {t : TypeId} {x y z : Operand} {ρ : Operand → Value} {K : AH → Prop} (ho : o.op = .mapUpdate t x y z) (hk : amapset P h t (ρ x) (ρ y) (ρ z) K) :
    ∃ h', AOp P o ρ h undef h' ∧ K h' := by
  unfold amapset at hk
  split at hk
  · rename_i kt et r kk n ht hx hy
    obtain ⟨hi, hk⟩ := hk
    obtain ⟨q, hq⟩ := isIntD_of hi
    split at hk
    · rename_i es hob
      split at hk
      · rename_i es' hp
        refine ⟨_, ?_, hk⟩
        intro FB w0 μ a w K' Q s hxy hk'
        have hvx := hxy x (by rw [ho]; simp [Op.operands]); rw [hx] at hvx
        have hvy := hxy y (by rw [ho]; simp [Op.operands]); rw [hy] at hvy
        have hvz := hxy z (by rw [ho]; simp [Op.operands])
        obtain ⟨l, hm, ex⟩ := hvx.mapAt
        obtain ⟨_, ents, clock, hb, hr⟩ := s.mp r l es hm hob
        rcases find_put hvz clock (q := q) 0 hr.mr hp with ⟨h1, h2⟩ | ⟨u, jx, h1, h2, h3⟩
        · have hmr : MapR μ es' (ents.push { key := .int kk n, val := a.eval z, born := clock }) := MR.mapR (by rw [Array.toList_push]; exact h2)
          have hS := s.putMap (clock := clock + 1) hm hob hmr
          have := hk' μ undef _ ⟨hS, Ext.refl _, ⟨Nat.le_refl _, fun i hi hn => ⟨hn, by
            have : i ≠ r := fun e => by rw [e, hm] at hn; cases hn
            simp [AH.set, this]⟩⟩⟩ (VR.undef _)
          unfold Oper.wp
          simp only [execOp, ho, ex, hvy.int, Instr.mapUpdate, Sem.run_bind, run_underlying ht, Result.andThen_ok, run_getMap hb, run_keyInt hq, run_findInt hq h1, run_setMap _ hb, Sem.run_pure, Oper.upon]
          simpa using this
        · rw [Nat.zero_add] at h1
          have hmr : MapR μ es' (ents.modify jx fun e => { e with key := .int kk n, val := a.eval z }) := MR.mapR (by rw [Array.toList_modify]; exact h3)
          have hS := s.putMap (clock := clock) hm hob hmr
          have := hk' μ undef _ ⟨hS, Ext.refl _, ⟨Nat.le_refl _, fun i hi hn => ⟨hn, by
            have : i ≠ r := fun e => by rw [e, hm] at hn; cases hn
            simp [AH.set, this]⟩⟩⟩ (VR.undef _)
          have hold : ((ents[jx]?).map (·.key)).getD (.int kk n) = .int kk n := by
            rw [Array.getElem?_toList] at h2
            rw [h2]; rfl
          have hstay : (Instr.keyThatStays (.int kk n) (.int kk n)).run P w = .ok (.int kk n) w := by
            unfold Instr.keyThatStays
            rw [if_pos (by simp [Instr.sameBits])]
            rfl
          unfold Oper.wp
          simp only [execOp, ho, ex, hvy.int, Instr.mapUpdate, Sem.run_bind, run_underlying ht, Result.andThen_ok, run_getMap hb, run_keyInt hq, run_findInt hq h1, hold, hstay, run_setMap _ hb, Sem.run_pure, Oper.upon]
          simpa using this
      · exact hk.elim
    · exact hk.elim
  · exact hk.elim
/-- The room of nothing. -/
def acap (P : Program) (t : TypeId) (x : Value) (K : Value → Prop) : Prop :=
  match si P t, x with
  | some _, .slice Option.none 0 _ => K (.int .i64 0)
  | _, _ => False
theorem acap_sound {t ty : TypeId} {x : Operand} {ρ : Operand → Value} {K : Value → Prop} (hk : acap P t (ρ x) K) :
    ∃ v, AIns P (fun σ => Builtin.cap_ #[t] ty #[σ x]) [x] ρ h v h ∧ K v := by
  unfold acap at hk
  split at hk
  · rename_i ei c hs hx
    obtain ⟨hu, _⟩ := si_facts (e := ei.1) (i := ei.2) hs
    refine ⟨_, AIns.quiet (fun FB w0 μ σ w s hxy => ?_), hk⟩
    have hvx := hxy x (by simp); rw [hx] at hvx
    obtain ⟨A', hcx⟩ : ∃ A', σ x = .slice A' 0 0 := by
      generalize hcc : σ x = cc at hvx
      cases hvx with
      | plain _ hq => simp [isPlain] at hq
      | sl0 A' _ => exact ⟨A', rfl⟩
    refine ⟨.int .i64 0, ?_, .plain _ rfl⟩
    simp only [hcx, Builtin.cap_, List.getElem?_toArray, List.getElem?_cons_zero, Sem.run_bind, run_underlying hu, Result.andThen_ok, Sem.run_pure]
    rfl
  · exact hk.elim
end Go.Sim
/- Operations, code and calls: what the abstract heap tells of them holds of the model's run. Conditions: those that each theorem names. -/
set_option linter.unusedVariables false
set_option linter.unusedSimpArgs false
namespace Go.Sim
variable {P : Program} {FB : Nat → Prop} {w0 : World} {μ : Nat → Option Loc} {h : AH} {w : World}

/-! ### calls -/
/-- A call of this function with these arguments ends, and R holds of what it gives and of the heap then: in the model's words, for a call that is entered. -/
def CE (P : Program) (f : FuncId) (args : List Value) (h : AH) (R : Value → AH → Prop) : Prop :=
  ∀ FB w0 μ (w : World) (cargs : Array Value) (R' : Ending → World → Prop), Sim P FB w0 μ h w → LR μ args cargs.toList →
    (∀ v h' μ' cv w', R v h' → Post P FB w0 μ h μ' h' w' → VR μ' v cv → R' (.returned cv) w') → Calls P f cargs w R'
/-- The same of a call as an operation. -/
def CC (P : Program) (f : FuncId) (args : List Value) (h : AH) (R : Value → AH → Prop) : Prop :=
  ∀ FB w0 μ (w : World) (cargs : Array Value) (o : Oper) (a : Act) (K : Act → World → Prop) (Q : Exit → Act → World → Prop), Sim P FB w0 μ h w → LR μ args cargs.toList →
    (∀ v h' μ' cv w', R v h' → Post P FB w0 μ h μ' h' w' → VR μ' v cv → K (a.put o.dst cv) w') → o.upon P a K Q ((callFunc f cargs).run P w)

theorem CC.mono {f : FuncId} {args : List Value} {R R' : Value → AH → Prop} (hc : CC P f args h R) (hr : ∀ v h', R v h' → R' v h') : CC P f args h R' :=
  fun FB w0 μ w cargs o a K Q s ha hk => hc FB w0 μ w cargs o a K Q s ha (fun v h' μ' cv w' r => hk v h' μ' cv w' (hr v h' r))

def callB (P : Program) (f : FuncId) : Bool :=
  match P.funcs[f]? with
  | some fn => fn.name != "runtime.NumGoroutine" && fn.body.isSome
  | none => false

theorem CE.call {f : FuncId} {args : List Value} {R : Value → AH → Prop} (hb : callB P f = true) (hc : CE P f args h R) : CC P f args h R := by
  intro FB w0 μ w cargs o a K Q s ha hk
  unfold callB at hb
  split at hb
  · rename_i fn hf
    simp only [Bool.and_eq_true, bne_iff_ne, ne_eq] at hb
    obtain ⟨hn, hbody⟩ := hb
    obtain ⟨cd, hcd⟩ := Option.isSome_iff_exists.1 hbody
    have hrun : (callFunc f cargs).run P w = .ok (.enter f cargs) w := by
      simp [callFunc, hf, hn, hcd]
    rw [hrun]
    simp only [Oper.upon]
    exact hc FB w0 μ w cargs _ s ha (fun v h' μ' cv w' r p hv => hk v h' μ' cv w' r p hv)
  · cases hb

/-! ### one operation -/
def acall (P : Program) (h : AH) (f : Value) (args : List Value) (K : Value → AH → Prop) : Prop :=
  match f with
  | .func (.func fid) first captured => CC P fid (first.toList ++ args ++ captured.toList) h K
  | _ => False

def abuiltin (P : Program) (h : AH) (b : Builtin) (ts : List TypeId) (args : List Value) (K : Value → AH → Prop) : Prop :=
  match b, ts, args with
  | .append, [t, u], [x, y] => aappend P h t u x y K
  | .copy, [t, _], [x, y] => acopy P h t x y K
  | .len, [t], [x] => alen P h t x fun v => K v h
  | .cap, [t], [x] => acap P t x fun v => K v h
  | .min, _, l => (match aminmax false l with | some v => K v h | none => False)
  | .max, _, l => (match aminmax true l with | some v => K v h | none => False)
  | _, _, _ => False

def aop (P : Program) (o : Op) (ρ : Operand → Value) (h : AH) (K : Value → AH → Prop) : Prop :=
  match o with
  | .move x | .assign x => K (ρ x) h
  | .pick c a b => (match ρ c with | .bool t => K (if t then ρ a else ρ b) h | _ => False)
  | .alloc t => (match ti P t with | some i => K (.pointer (some ⟨h.n, 0, none⟩)) (h.alloc (.cells i.zero .solo h.n)) | none => False)
  | .box t x => (ρ x).cells.toList.all one = true ∧ K (.pointer (some ⟨h.n, 0, none⟩)) (h.alloc (.cells (ρ x).cells.toList .solo h.n))
  | .build t ps => abuild P t (ps.toList.map (pv ρ)) fun v => K v h
  | .buildSlice t len ps => abuildSlice P h t len (ps.toList.map (pv ρ)) K
  | .load t x => aload P h t (ρ x) fun v => K v h
  | .store t x y => astore P h t (ρ x) (ρ y) fun h' => K undef h'
  | .nilCheck x => (match ρ x with | .pointer (some a) => K (.pointer (some a)) h | _ => False)
  | .binOp op t x y _ => abinT P op t (ρ x) (ρ y) fun v => K v h
  | .unOp op _ x => aun op (ρ x) fun v => K v h
  | .convert s d x => aconv P h s d (ρ x) K
  | .makeFunc fn f c => K (.func fn (f.map ρ) (c.map ρ)) h
  | .makeMap _ none => K (.map (some h.n)) (h.alloc (.map []))
  | .makeSlice t x y => amake P h t (ρ x) (ρ y) K
  | .slice t x lo hi mx => (match P.underlying t with | some (.array _ _) => False | _ => acut P t (ρ x) (lo.map ρ) (hi.map ρ) (mx.map ρ) fun v => K v h)
  | .fieldAddr t x f => afieldAddr P t (ρ x) f fun v => K v h
  | .field t x f => afield P t (ρ x) f fun v => K v h
  | .indexAddr t x y => aindexAddr P t (ρ x) (ρ y) fun v => K v h
  | .index t x y => aindex P t (ρ x) (ρ y) fun v => K v h
  | .extract x i => aextract (ρ x) i fun v => K v h
  | .lookup t x y ok => alookup P h t (ρ x) (ρ y) ok fun v => K v h
  | .mapUpdate t x y z => amapset P h t (ρ x) (ρ y) (ρ z) fun h' => K undef h'
  | .call c =>
    (match c.callee with
     | .value f => acall P h (ρ f) (c.args.toList.map ρ) K
     | .builtin b => abuiltin P h b c.argTypes.toList (c.args.toList.map ρ) K
     | .invoke _ _ => False)
  | _ => False

theorem AIns.op' {o : Oper} {S : (Operand → Value) → Sem Value} {ρ : Operand → Value} {v : Value} {h' : AH} {l : List Operand} (hs : AIns P S l ρ h v h') (hl : ∀ x ∈ l, x ∈ o.op.operands)
    (he : ∀ σ, execOp σ o = (do pure (.value (← S σ)))) : AOp P o ρ h v h' := by
  intro FB w0 μ a w K Q s hx hk
  obtain ⟨μ', cv, w', hr, p, hv⟩ := hs FB w0 μ a.eval w s (fun x hx' => hx x (hl x hx'))
  unfold Oper.wp
  rw [he]
  simp only [Sem.run_bind, hr, Result.andThen_ok, Sem.run_pure, Oper.upon]
  exact hk μ' cv w' p hv

theorem LR.map_ops {ρ σ : Operand → Value} {l : List Operand} (hx : ∀ x ∈ l, VR μ (ρ x) (σ x)) : LR μ (l.map ρ) (l.map σ) :=
  ⟨by simp, fun j a b => by
    simp only [List.getElem_map]
    exact hx _ (List.getElem_mem _)⟩

theorem quietOp {o : Oper} {ρ : Operand → Value} {v : Value} (hs : ∀ FB w0 μ (σ : Operand → Value) (w : World), Sim P FB w0 μ h w → (∀ x ∈ o.op.operands, VR μ (ρ x) (σ x)) → ∃ cv, (execOp σ o).run P w = .ok (.value cv) w ∧ VR μ v cv) :
    AOp P o ρ h v h := by
  intro FB w0 μ a w K Q s hx hk
  obtain ⟨cv, hr, hv⟩ := hs FB w0 μ a.eval w s hx
  unfold Oper.wp
  rw [hr]
  exact hk μ cv w s.post hv

theorem args_one {l : List Operand} {ρ : Operand → Value} {x : Value} (e : l.map ρ = [x]) : ∃ xo, l = [xo] ∧ ρ xo = x := by
  match l, e with
  | [a], e => exact ⟨a, rfl, by simpa using e⟩
theorem args_two {l : List Operand} {ρ : Operand → Value} {x y : Value} (e : l.map ρ = [x, y]) : ∃ xo yo, l = [xo, yo] ∧ ρ xo = x ∧ ρ yo = y := by
  match l, e with
  | [a, b], e => exact ⟨a, b, rfl, by simpa using e⟩

/-- An operation: what stands behind it. -/
def QOp (P : Program) (o : Oper) (ρ : Operand → Value) (h : AH) (K : Value → AH → Prop) : Prop :=
  ∀ FB w0 μ (a : Act) (w : World) (K' : Act → World → Prop) (Q : Exit → Act → World → Prop), Sim P FB w0 μ h w → (∀ x ∈ o.op.operands, VR μ (ρ x) (a.eval x)) →
    (∀ v h' μ' cv w', K v h' → Post P FB w0 μ h μ' h' w' → VR μ' v cv → K' (a.put o.dst cv) w') → o.wp P a w K' Q
theorem QOp.of {o : Oper} {ρ : Operand → Value} {K : Value → AH → Prop} (e : ∃ v h', AOp P o ρ h v h' ∧ K v h') : QOp P o ρ h K := by
  obtain ⟨v, h', a, b⟩ := e
  exact fun FB w0 μ act w K' Q s hx hk => a FB w0 μ act w K' Q s hx (fun μ' cv w' => hk v h' μ' cv w' b)
theorem acall_sound {o : Oper} {c : Call} {f : Operand} {ρ : Operand → Value} {K : Value → AH → Prop} (e : o.op = .call c) (hf : c.callee = .value f) (hk : acall P h (ρ f) (c.args.toList.map ρ) K) : QOp P o ρ h K := by
  unfold acall at hk
  split at hk
  · rename_i fid first captured hp
    intro FB w0 μ act w K' Q s hx hk'
    have hops : ∀ x ∈ c.args.toList, VR μ (ρ x) (act.eval x) := fun x hx' => hx x (by simp [e, Op.operands, Call.operands, hf]; right; simpa using hx')
    have hvf := hx f (by simp [e, Op.operands, Call.operands, hf])
    rw [hp] at hvf
    generalize hc : act.eval f = cf at hvf
    cases hvf with
    | plain _ hq => simp [isPlain] at hq
    | func _ _ f' _ c' hfs hcs ef ec =>
      unfold Oper.wp
      have hrun : (execOp act.eval o).run P w = (callFunc fid (f' ++ c.args.map act.eval ++ c')).run P w := by
        simp [execOp, e, resolve, hf, hc, Deferred.ofValue, invoke]
      rw [hrun]
      refine hk FB w0 μ w _ o act K' Q s ?_ hk'
      have l1 : LR μ first.toList f'.toList := AR.list ⟨hfs, ef⟩
      have l2 : LR μ captured.toList c'.toList := AR.list ⟨hcs, ec⟩
      have l3 : LR μ (c.args.toList.map ρ) (c.args.map act.eval).toList := by simpa using LR.map_ops hops
      simpa using (l1.append l3).append l2
  · exact hk.elim

theorem aop_sound {o : Oper} {ρ : Operand → Value} {K : Value → AH → Prop} (hk : aop P o.op ρ h K) : QOp P o ρ h K := by
  by_cases hcall : ∃ c f, o.op = .call c ∧ c.callee = .value f
  · obtain ⟨c, f, e, hf⟩ := hcall
    rw [e] at hk
    simp only [aop, hf] at hk
    exact acall_sound e hf hk
  refine QOp.of ?_
  unfold aop at hk
  split at hk
  · rename_i x e
    refine ⟨_, _, quietOp (fun FB w0 μ σ w s hx => ⟨σ x, by simp [execOp, e], hx x (by simp [e, Op.operands])⟩), hk⟩
  · rename_i x e
    refine ⟨_, _, quietOp (fun FB w0 μ σ w s hx => ⟨σ x, by simp [execOp, e], hx x (by simp [e, Op.operands])⟩), hk⟩
  · rename_i c a b e
    split at hk
    · rename_i t ht
      refine ⟨_, _, quietOp (fun FB w0 μ σ w s hx => ?_), hk⟩
      have hc := hx c (by simp [e, Op.operands])
      rw [ht] at hc
      have ha := hx a (by simp [e, Op.operands])
      have hb := hx b (by simp [e, Op.operands])
      refine ⟨if t then σ a else σ b, by simp [execOp, e, hc.bool, asBool], ?_⟩
      cases t
      · simpa using hb
      · simpa using ha
    · exact hk.elim
  · rename_i t e
    split at hk
    · rename_i i hi
      exact ⟨_, _, (alloc_sound (ρ := ρ) hi).op' (by simp) (fun σ => by simp only [execOp, e]), hk⟩
    · exact hk.elim
  · rename_i t x e
    obtain ⟨h1, hk⟩ := hk
    exact ⟨_, _, (box_sound (t := t) (x := x) (ρ := ρ) (fun v hv => List.all_eq_true.1 h1 v hv)).op' (by simp [e, Op.operands]) (fun σ => by simp only [execOp, e]), hk⟩
  · rename_i t ps e
    obtain ⟨v, a, b⟩ := abuild_sound (h := h) hk
    exact ⟨v, h, a.op' (by simp [e, Op.operands]) (fun σ => by simp only [execOp, e]; rfl), b⟩
  · rename_i t len ps e
    obtain ⟨v, h', a, b⟩ := abuildSlice_sound hk
    exact ⟨v, h', a.op' (by simp [e, Op.operands]) (fun σ => by simp only [execOp, e]; rfl), b⟩
  · rename_i t x e
    obtain ⟨v, a, b⟩ := aload_sound hk
    exact ⟨v, h, a.op' (by simp [e, Op.operands]) (fun σ => by simp only [execOp, e]), b⟩
  · rename_i t x y e
    obtain ⟨h', a, b⟩ := astore_sound e hk
    exact ⟨_, h', a, b⟩
  · rename_i x e
    split at hk
    · rename_i ad hp
      refine ⟨_, _, quietOp (fun FB w0 μ σ w s hx => ?_), hk⟩
      have hv := hx x (by simp [e, Op.operands])
      rw [hp] at hv
      refine ⟨σ x, ?_, hv⟩
      generalize hc : σ x = c at hv
      cases hv with
      | plain _ hq => simp [isPlain] at hq
      | ptr i off l hm => simp [execOp, e, hc]
    · exact hk.elim
  · rename_i op t x y yt e
    obtain ⟨v, a, b⟩ := abinT_sound (h := h) hk
    exact ⟨v, h, a.op' (by simp [e, Op.operands]) (fun σ => by simp only [execOp, e]), b⟩
  · rename_i op t x e
    obtain ⟨v, a, b⟩ := aun_sound (P := P) (h := h) hk
    exact ⟨v, h, a.op' (by simp [e, Op.operands]) (fun σ => by simp only [execOp, e]), b⟩
  · rename_i sr d x e
    obtain ⟨v, h', a, b⟩ := aconv_sound hk
    exact ⟨v, h', a.op' (by simp [e, Op.operands]) (fun σ => by simp only [execOp, e]), b⟩
  · rename_i fn f c e
    refine ⟨_, _, quietOp (fun FB w0 μ σ w s hx => ?_), hk⟩
    refine ⟨.func fn (f.map σ) (c.map σ), by simp [execOp, e, Instr.makeFunc], ?_⟩
    exact .func _ _ _ _ _ (by simp) (by simp) (fun j a b => by simp only [Array.getElem_map]; exact hx _ (by simp [e, Op.operands])) (fun j a b => by simp only [Array.getElem_map]; exact hx _ (by simp [e, Op.operands]))
  · rename_i t e
    refine ⟨_, _, ?_, hk⟩
    intro FB w0 μ a w K' Q s hx hk'
    unfold Oper.wp
    have : (execOp a.eval o).run P w = .ok (.value (.map (some w.heap.size))) (w.alloc (.map #[] 0)) := by
      simp [execOp, e, Instr.makeMap]
    rw [this]
    exact hk' _ _ _ s.newMap (.map h.n ⟨w.heap.size, 0, 0⟩ (upd_same _ _))
  · rename_i t x y e
    obtain ⟨v, h', a, b⟩ := amake_sound hk
    exact ⟨v, h', a.op' (by simp [e, Op.operands]) (fun σ => by simp only [execOp, e]), b⟩
  · rename_i t x lo hi mx e
    split at hk
    · exact hk.elim
    · rename_i hna
      obtain ⟨v, a, b⟩ := acut_sound (h := h) (fun n e' hh => hna n e' hh) hk
      refine ⟨v, h, a.op' (fun z hz => ?_) (fun σ => by simp only [execOp, e]), b⟩
      simp only [e, Op.operands]
      simpa using hz
  · rename_i t x f e
    obtain ⟨v, a, b⟩ := afieldAddr_sound (h := h) hk
    exact ⟨v, h, a.op' (by simp [e, Op.operands]) (fun σ => by simp only [execOp, e]), b⟩
  · rename_i t x f e
    obtain ⟨v, a, b⟩ := afield_sound (h := h) hk
    exact ⟨v, h, a.op' (by simp [e, Op.operands]) (fun σ => by simp only [execOp, e]), b⟩
  · rename_i t x y e
    obtain ⟨v, a, b⟩ := aindexAddr_sound (h := h) hk
    exact ⟨v, h, a.op' (by simp [e, Op.operands]) (fun σ => by simp only [execOp, e]), b⟩
  · rename_i t x y e
    obtain ⟨v, a, b⟩ := aindex_sound (h := h) hk
    exact ⟨v, h, a.op' (by simp [e, Op.operands]) (fun σ => by simp only [execOp, e]), b⟩
  · rename_i x i e
    obtain ⟨v, a, b⟩ := aextract_sound (P := P) (h := h) hk
    exact ⟨v, h, a.op' (by simp [e, Op.operands]) (fun σ => by simp only [execOp, e]), b⟩
  · rename_i t x y ok e
    obtain ⟨v, a, b⟩ := alookup_sound (h := h) hk
    exact ⟨v, h, a.op' (by simp [e, Op.operands]) (fun σ => by simp only [execOp, e]), b⟩
  · rename_i t x y z e
    obtain ⟨h', a, b⟩ := amapset_sound e hk
    exact ⟨_, h', a, b⟩
  · rename_i c e
    split at hk
    · rename_i f hf
      exact absurd ⟨c, f, e, hf⟩ hcall
    · rename_i b hb
      unfold abuiltin at hk
      split at hk
      · rename_i t u x y hts hargs
        obtain ⟨xo, yo, hxy', rfl, rfl⟩ := args_two hargs
        have hxy : c.args = #[xo, yo] := by apply Array.toList_inj.1; simpa using hxy'
        obtain ⟨v, h', a, b'⟩ := aappend_sound (ty := o.type) hk
        refine ⟨v, h', a.op' (by simp [e, Op.operands, Call.operands, hb, hxy]) (fun σ => ?_), b'⟩
        have htt : c.argTypes = #[t, u] := by apply Array.toList_inj.1; simpa using hts
        simp only [execOp, e, resolve, hb, hxy, htt]
        simp [invoke, builtin]
      · rename_i t u x y hts hargs
        obtain ⟨xo, yo, hxy', rfl, rfl⟩ := args_two hargs
        have hxy : c.args = #[xo, yo] := by apply Array.toList_inj.1; simpa using hxy'
        obtain ⟨v, h', a, b'⟩ := acopy_sound (u := u) (ty := o.type) hk
        refine ⟨v, h', a.op' (by simp [e, Op.operands, Call.operands, hb, hxy]) (fun σ => ?_), b'⟩
        have htt : c.argTypes = #[t, u] := by apply Array.toList_inj.1; simpa using hts
        simp only [execOp, e, resolve, hb, hxy, htt]
        simp [invoke, builtin]
      · rename_i t x hts hargs
        obtain ⟨xo, hx', rfl⟩ := args_one hargs
        have hxy : c.args = #[xo] := by apply Array.toList_inj.1; simpa using hx'
        have htt : c.argTypes = #[t] := by apply Array.toList_inj.1; simpa using hts
        obtain ⟨v, a, b'⟩ := alen_sound (ty := o.type) hk
        refine ⟨v, h, a.op' (by simp [e, Op.operands, Call.operands, hb, hxy]) (fun σ => ?_), b'⟩
        simp only [execOp, e, resolve, hb, hxy, htt]
        simp [invoke, builtin]
      · rename_i t x hts hargs
        obtain ⟨xo, hx', rfl⟩ := args_one hargs
        have hxy : c.args = #[xo] := by apply Array.toList_inj.1; simpa using hx'
        have htt : c.argTypes = #[t] := by apply Array.toList_inj.1; simpa using hts
        obtain ⟨v, a, b'⟩ := acap_sound (h := h) (ty := o.type) hk
        refine ⟨v, h, a.op' (by simp [e, Op.operands, Call.operands, hb, hxy]) (fun σ => ?_), b'⟩
        simp only [execOp, e, resolve, hb, hxy, htt]
        simp [invoke, builtin]
      all_goals first | exact hk.elim | skip
      all_goals
        split at hk
        · rename_i v hv
          refine ⟨v, h, quietOp (fun FB w0 μ σ w s hx => ?_), hk⟩
          obtain ⟨q1, q2, q3⟩ := aminmax_run P w _ c.argTypes o.type hv
          have harg : c.args.map σ = (c.args.toList.map ρ).toArray := by
            apply Array.toList_inj.1
            simp only [Array.toList_map]
            refine List.map_congr_left (fun z hz => ?_)
            have hz' := hx z (by simp [e, Op.operands, Call.operands, hb]; simpa using hz)
            exact hz'.plainEq (q2 _ (List.mem_map.2 ⟨z, hz, rfl⟩))
          refine ⟨v, ?_, .plain v q1⟩
          simp only [execOp, e, resolve, hb, harg]
          simp only [if_true, if_false, Bool.false_eq_true] at q3
          simp only [pure_bind, invoke, builtin, Sem.run_bind, q3, Result.andThen_ok, Sem.run_pure]
        · exact hk.elim
    · exact hk.elim
  · exact hk.elim

end Go.Sim
/- Code: what the abstract heap tells of it holds of the model's run. Conditions: those that each theorem names. -/
set_option linter.unusedVariables false
set_option linter.unusedSimpArgs false
namespace Go.Sim
variable {P : Program} {FB : Nat → Prop} {w0 : World} {μ : Nat → Option Loc} {h : AH} {w : World}

/-- What an operand is, of these temporaries. -/
def aev (t : List Value) : Operand → Value
  | .tmp i => t.getD i undef
  | .const v => v
  | .global g => .pointer (some ⟨g, 0, none⟩)
  | .func f => .func (.func f) #[] #[]
def put (t : List Value) (d : Option Tmp) (v : Value) : List Value :=
  match d with
  | some i => t.set i v
  | none => t

/-- What is asked of the operands of code: constants that have no address, globals that there are. -/
def opdOK (n : Nat) : Operand → Bool
  | .const v => zok v || isPlain v
  | .global g => decide (g < n)
  | _ => true
def codeOK (n : Nat) : Code → Bool
  | .region _ ops _ => ops.all fun o => o.op.operands.all (opdOK n)
  | .seq a b => codeOK n a && codeOK n b
  | .cond c a b => opdOK n c && codeOK n a && codeOK n b
  | .block _ c | .loop c | .scope c => codeOK n c
  | .skip | .exit _ | .ret | .label _ => true
  | _ => false

theorem LR.getD {a b : List Value} (e : LR μ a b) (i : Nat) : VR μ (a.getD i undef) (b.getD i undef) := by
  by_cases hi : i < a.length
  · have hb : i < b.length := by rw [← e.1]; exact hi
    simpa [List.getD, hi, hb] using e.2 i hi hb
  · have hb : ¬ i < b.length := by rw [← e.1]; exact hi
    simpa [List.getD, hi, hb] using VR.undef μ
theorem tmps_getD (a : Act) (i : Nat) : a.tmps.getD i undef = a.tmps.toList.getD i undef := by
  simp [Array.getD, List.getD]
  by_cases hi : i < a.tmps.size <;> simp [hi]

theorem aev_VR (s : Sim P FB w0 μ h w) {t : List Value} {a : Act} (ht : LR μ t a.tmps.toList) {x : Operand} (hx : opdOK P.globals.size x = true) : VR μ (aev t x) (a.eval x) := by
  cases x with
  | tmp i => simp only [aev, Act.eval]; rw [tmps_getD]; exact ht.getD i
  | const v =>
    simp only [opdOK, Bool.or_eq_true] at hx
    rcases hx with h1 | h1
    · exact zok_VR h1 μ
    · exact .plain v h1
  | global g =>
    simp only [opdOK, decide_eq_true_eq] at hx
    obtain ⟨l, h1, h2, h3⟩ := s.glob g hx
    have := VR.ptr (μ := μ) g 0 l h1
    rw [h2, h3] at this
    simpa [aev, Act.eval] using this
  | func f => exact .func _ _ _ _ _ rfl rfl (fun j a => by simp at a) (fun j a => by simp at a)

theorem put_LR {t : List Value} {a : Act} (ht : LR μ t a.tmps.toList) (d : Option Tmp) {v c : Value} (hv : VR μ v c) : LR μ (put t d v) (a.put d c).tmps.toList := by
  cases d with
  | none => exact ht
  | some i => simp only [put, Act.put, Array.toList_setIfInBounds]; exact ht.set i hv
theorem put_defers (a : Act) (d : Option Tmp) (c : Value) : (a.put d c).defers = a.defers := by cases d <;> rfl

/-- Whether an operation is wanted, of these temporaries; 'ds' are the places of all the region's operations. -/
def yl (ds : List (Option Tmp)) (t : List Value) (j : Nat) : Option Bool :=
  match (ds[j]?).bind id with
  | some d => (match t[d]? with | some (.bool b) => some b | _ => none)
  | none => none
def wantedL (ds : List (Option Tmp)) (t : List Value) (o : Oper) : Bool :=
  match o.guard with
  | none => true
  | some (j, want) => yl ds t j == some want

theorem yl_eq {ops : Array Oper} {t : List Value} {a : Act} (ht : LR μ t a.tmps.toList) (j : Nat) : yielded ops a.tmps j = yl (ops.toList.map (·.dst)) t j := by
  unfold yielded yl
  have e1 : ((ops.toList.map (·.dst))[j]?).bind id = (ops[j]?).bind (·.dst) := by
    rw [List.getElem?_map, Array.getElem?_toList]
    cases ops[j]? <;> rfl
  rw [e1]
  cases hd : (ops[j]?).bind (·.dst) with
  | none => rfl
  | some d =>
    simp only [Option.bind_some]
    by_cases hi : d < t.length
    · have hb : d < a.tmps.size := by have e : t.length = a.tmps.size := (by simpa using ht.1); rw [← e]; exact hi
      have hv := ht.2 d hi (by simpa using hb)
      simp only [List.getElem?_eq_getElem hi, Array.getElem?_eq_getElem hb]
      simp only [Array.getElem_toList] at hv
      generalize t[d] = x at hv ⊢
      generalize a.tmps[d] = c at hv ⊢
      cases hv with
      | plain v hp => rfl
      | _ => rfl
    · have hb : ¬ d < a.tmps.size := by have e : t.length = a.tmps.size := (by simpa using ht.1); rw [← e]; exact hi
      simp [hi, hb]

theorem wantedL_eq {ops : Array Oper} {t : List Value} {a : Act} (ht : LR μ t a.tmps.toList) (o : Oper) : Region.wanted o (yielded ops a.tmps) = wantedL (ops.toList.map (·.dst)) t o := by
  unfold Region.wanted wantedL
  cases hg : o.guard with
  | none => rfl
  | some p => obtain ⟨j, want⟩ := p; simp only [yl_eq ht]

/-! ### judgements on code -/
/-- Code comes to an end at which Q holds. -/
def WC (P : Program) (c : Code) (Q : Exit → List Value → AH → Prop) (t : List Value) (h : AH) : Prop :=
  ∀ FB w0 μ (a : Act) (w : World) (Q' : Exit → Act → World → Prop), Sim P FB w0 μ h w → LR μ t a.tmps.toList → a.defers = [] →
    (∀ ex t' h' μ' a' w', Q ex t' h' → Post P FB w0 μ h μ' h' w' → LR μ' t' a'.tmps.toList → a'.defers = [] → Q' ex a' w') → c.wp P Q' a w

theorem WC.mono {c : Code} {Q Q' : Exit → List Value → AH → Prop} {t : List Value} (hw : WC P c Q t h) (hq : ∀ ex t h, Q ex t h → Q' ex t h) : WC P c Q' t h :=
  fun FB w0 μ a w Q2 s ht hd hk => hw FB w0 μ a w Q2 s ht hd (fun ex t' h' μ' a' w' q => hk ex t' h' μ' a' w' (hq ex t' h' q))

/-- Two ways, by a bool. -/
def bcase (b : Bool) (X Y : Prop) : Prop := (b = true → X) ∧ (b = false → Y)
theorem bcase_true (X Y : Prop) : bcase true X Y = X := by simp [bcase]
theorem bcase_false (X Y : Prop) : bcase false X Y = Y := by simp [bcase]
theorem bcase_not (b : Bool) (X Y : Prop) : bcase (!b) X Y = bcase b Y X := by cases b <;> simp [bcase]
theorem bcase_decide (p : Prop) [Decidable p] (X Y : Prop) : bcase (decide p) X Y = ((p → X) ∧ (¬ p → Y)) := by by_cases h : p <;> simp [bcase, h]

/-- The place of a guard's operation. -/
def gd (ds : List (Option Tmp)) (j : Nat) : Option Tmp := (ds[j]?).bind id
/-- Operations in a row, in the order of the text: what each gives, and the heap behind it. -/
def aops (P : Program) (ds : List (Option Tmp)) : List Oper → List Value → AH → (List Value → AH → Prop) → Prop
  | [], t, h, K => K t h
  | o :: r, t, h, K =>
    match o.guard with
    | none => aop P o.op (aev t) h fun v h' => aops P ds r (put t o.dst v) h' K
    | some (j, want) =>
      match gd ds j with
      | some d =>
        (match t.getD d undef with
         | .bool b =>
           if want then bcase b (aop P o.op (aev (t.set d (.bool true))) h fun v h' => aops P ds r (put (t.set d (.bool true)) o.dst v) h' K) (aops P ds r (put (t.set d (.bool false)) o.dst undef) h K)
           else bcase b (aops P ds r (put (t.set d (.bool true)) o.dst undef) h K) (aop P o.op (aev (t.set d (.bool false))) h fun v h' => aops P ds r (put (t.set d (.bool false)) o.dst v) h' K)
         | _ => aops P ds r (put t o.dst undef) h K)
      | none => aops P ds r (put t o.dst undef) h K

theorem getD_bool {t : List Value} {d : Nat} {b : Bool} (e : t.getD d undef = .bool b) : d < t.length ∧ t.set d (.bool b) = t := by
  by_cases hlt : d < t.length
  · refine ⟨hlt, ?_⟩
    simp only [List.getD, List.getElem?_eq_getElem hlt, Option.getD_some] at e
    rw [← e]; exact List.set_getElem_self hlt
  · simp [List.getD, hlt, undef] at e

/-- One operation of a region, where it is wanted. -/
def a1 (P : Program) (ds : List (Option Tmp)) (o : Oper) (t : List Value) (h : AH) (K : List Value → AH → Prop) : Prop :=
  if wantedL ds t o = true then aop P o.op (aev t) h fun v h' => K (put t o.dst v) h' else K (put t o.dst undef) h

theorem a1_of {ds : List (Option Tmp)} {o : Oper} {r : List Oper} {t : List Value} {K : List Value → AH → Prop} (hk : aops P ds (o :: r) t h K) : a1 P ds o t h fun t' h' => aops P ds r t' h' K := by
  unfold aops at hk
  unfold a1
  split at hk
  · rename_i hg; rw [if_pos (by simp [wantedL, hg])]; exact hk
  · rename_i j want hg
    split at hk
    · rename_i d hd
      split at hk
      · rename_i b hb
        obtain ⟨hlt, hset⟩ := getD_bool hb
        have hy : yl ds t j = some b := by
          unfold yl; unfold gd at hd; rw [hd]
          simp only [List.getD, List.getElem?_eq_getElem hlt, Option.getD_some] at hb
          simp [hlt, hb]
        split at hk
        · rename_i hw; subst hw
          cases b with
          | true => rw [bcase_true, hset] at hk; rw [if_pos (by simp [wantedL, hg, hy])]; exact hk
          | false => rw [bcase_false, hset] at hk; rw [if_neg (by simp [wantedL, hg, hy])]; exact hk
        · rename_i hw
          have hw : want = false := by simpa using hw
          subst hw
          cases b with
          | true => rw [bcase_true, hset] at hk; rw [if_neg (by simp [wantedL, hg, hy])]; exact hk
          | false => rw [bcase_false, hset] at hk; rw [if_pos (by simp [wantedL, hg, hy])]; exact hk
      · rename_i hb
        have hy : yl ds t j = none := by
          unfold yl; unfold gd at hd; rw [hd]
          by_cases hlt : d < t.length
          · simp only [List.getElem?_eq_getElem hlt]
            have hb' : ∀ b, t[d] ≠ .bool b := fun b hh => hb b (by simp [List.getD, hlt, hh])
            generalize t[d] = x at hb'
            cases x <;> first | rfl | exact absurd rfl (hb' _)
          · simp [hlt]
        rw [if_neg (by simp [wantedL, hg, hy])]; exact hk
    · rename_i hd
      have hy : yl ds t j = none := by unfold yl; unfold gd at hd; rw [hd]
      rw [if_neg (by simp [wantedL, hg, hy])]; exact hk

theorem a1_wp {ops : Array Oper} {o : Oper} {t : List Value} {Kc : List Value → AH → Prop} (hs : a1 P (ops.toList.map (·.dst)) o t h Kc) (hok : ∀ x ∈ o.op.operands, opdOK P.globals.size x = true)
    {a : Act} {K : Act → World → Prop} {Q : Exit → Act → World → Prop} (s : Sim P FB w0 μ h w) (ht : LR μ t a.tmps.toList) (hd : a.defers = [])
    (hk : ∀ t' h' μ' a' w', Kc t' h' → Post P FB w0 μ h μ' h' w' → LR μ' t' a'.tmps.toList → a'.defers = [] → K a' w') :
    if Region.wanted o (yielded ops a.tmps) then o.wp P a w K Q else K (a.put o.dst undef) w := by
  rw [wantedL_eq ht]
  unfold a1 at hs
  by_cases hw : wantedL (ops.toList.map (·.dst)) t o = true
  · rw [if_pos hw] at hs ⊢
    exact aop_sound hs FB w0 μ a w K Q s (fun x hx => aev_VR s ht (hok x hx)) (fun v h' μ' cv w' hkv p hv => hk _ h' μ' _ w' hkv p (put_LR (ht.ext p.ext) o.dst hv) (by rw [put_defers]; exact hd))
  · rw [if_neg hw] at hs ⊢
    exact hk _ h μ _ w hs s.post (put_LR ht o.dst (VR.undef μ)) (by rw [put_defers]; exact hd)

theorem aops_wp {ops : Array Oper} {Q : Exit → Act → World → Prop} : ∀ {l : List Oper} {t : List Value} {h : AH} {Kc : List Value → AH → Prop} {μ : Nat → Option Loc} {a : Act} {w : World},
    aops P (ops.toList.map (·.dst)) l t h Kc → (∀ o ∈ l, ∀ x ∈ o.op.operands, opdOK P.globals.size x = true) → Sim P FB w0 μ h w → LR μ t a.tmps.toList → a.defers = [] →
    (∀ t' h' μ' a' w', Kc t' h' → Post P FB w0 μ h μ' h' w' → LR μ' t' a'.tmps.toList → a'.defers = [] → Q .normal a' w') → wpList P ops Q l a w
  | [], t, h, Kc, μ, a, w, hk, hok, s, ht, hd, hq => wpList_nil (hq t h μ a w hk s.post ht hd)
  | o :: r, t, h, Kc, μ, a, w, hk, hok, s, ht, hd, hq => by
    refine wpList_step (fun K hK => ?_)
    refine a1_wp (a1_of hk) (hok o (by simp)) s ht hd (fun t1 h1 μ1 a1 w1 hk1 p1 ht1 hd1 => hK _ _ ?_)
    exact aops_wp hk1 (fun o' ho' => hok o' (by simp [ho'])) p1.sim ht1 hd1 (fun t2 h2 μ2 a2 w2 q2 p2 ht2 hd2 => hq t2 h2 μ2 a2 w2 q2 (p1.trans p2) ht2 hd2)

theorem codeOK_ops {id : Nat} {ops : Array Oper} {dr : Bool} (hok : codeOK P.globals.size (.region id ops dr) = true) : ∀ o ∈ ops.toList, ∀ x ∈ o.op.operands, opdOK P.globals.size x = true := fun o ho x hx => by
  simp only [codeOK] at hok
  have h1 := Array.all_eq_true_iff_forall_mem.1 hok o (by simpa using ho)
  exact Array.all_eq_true_iff_forall_mem.1 h1 x hx
theorem wc_region {id : Nat} {ops : Array Oper} {t : List Value} {Q : Exit → List Value → AH → Prop} (hok : codeOK P.globals.size (.region id ops false) = true)
    (hk : aops P (ops.toList.map (·.dst)) ops.toList t h (Q .normal)) : WC P (.region id ops false) Q t h := fun FB w0 μ a w Q' s ht hd hq =>
  wp_region_list (aops_wp hk (codeOK_ops hok) s ht hd (fun t' h' μ' a' w' q => hq .normal t' h' μ' a' w' q))

theorem wc_seq {a b : Code} {Q Q1 : Exit → List Value → AH → Prop} {t : List Value} (ha : WC P a Q1 t h) (hb : ∀ t1 h1, Q1 .normal t1 h1 → WC P b Q t1 h1) (ho : ∀ ex t1 h1, ex ≠ .normal → Q1 ex t1 h1 → Q ex t1 h1) : WC P (.seq a b) Q t h := by
  intro FB w0 μ act w Q' s ht hd hq
  refine wp_seq (ha FB w0 μ act w _ s ht hd (fun ex t1 h1 μ1 a1 w1 q1 p1 ht1 hd1 => ?_))
  cases ex with
  | normal => exact hb t1 h1 q1 FB w0 μ1 a1 w1 Q' p1.sim ht1 hd1 (fun ex t2 h2 μ2 a2 w2 q2 p2 ht2 hd2 => hq ex t2 h2 μ2 a2 w2 q2 (p1.trans p2) ht2 hd2)
  | _ => exact hq _ t1 h1 μ1 a1 w1 (ho _ t1 h1 (by simp) q1) p1 ht1 hd1

/-! ### the walk -/
def wpc (P : Program) : Code → (Exit → List Value → AH → Prop) → List Value → AH → Prop
  | .skip, Q, t, h => Q .normal t h
  | .label _, Q, t, h => Q .normal t h
  | .region id ops draw, Q, t, h => if draw then WC P (.region id ops true) Q t h else aops P (ops.toList.map (·.dst)) ops.toList t h (Q .normal)
  | .seq a b, Q, t, h => wpc P a (fun ex t h => match ex with | .normal => wpc P b Q t h | ex => Q ex t h) t h
  | .cond c a b, Q, t, h => (match aev t c with | .bool x => bcase x (wpc P a Q t h) (wpc P b Q t h) | _ => False)
  | .block id c, Q, t, h => wpc P c (fun ex t h => match ex with | .exit i => if i = id then Q .normal t h else Q (.exit i) t h | ex => Q ex t h) t h
  | .scope c, Q, t, h => wpc P c (fun ex t h => match ex with | .goto _ => False | ex => Q ex t h) t h
  | .exit id, Q, t, h => Q (.exit id) t h
  | .ret, Q, t, h => Q .ret t h
  | .loop c, Q, t, h => WC P (.loop c) Q t h
  | _, _, _, _ => False

theorem wpc_sound : ∀ {c : Code} {Q : Exit → List Value → AH → Prop} {t : List Value} {h : AH}, codeOK P.globals.size c = true → wpc P c Q t h → WC P c Q t h
  | .skip, Q, t, h, _, hw => fun FB w0 μ a w Q' s ht hd hq => wp_skip (hq .normal t h μ a w hw s.post ht hd)
  | .label _, Q, t, h, _, hw => fun FB w0 μ a w Q' s ht hd hq => wp_label (hq .normal t h μ a w hw s.post ht hd)
  | .exit id, Q, t, h, _, hw => fun FB w0 μ a w Q' s ht hd hq => wp_exit (hq (.exit id) t h μ a w hw s.post ht hd)
  | .ret, Q, t, h, _, hw => fun FB w0 μ a w Q' s ht hd hq => wp_ret (hq .ret t h μ a w hw s.post ht hd)
  | .loop c, Q, t, h, _, hw => hw
  | .region id ops true, Q, t, h, _, hw => by simpa [wpc] using hw
  | .region id ops false, Q, t, h, hok, hw => by
    simp only [wpc, Bool.false_eq_true, if_false] at hw
    exact wc_region hok hw
  | .seq a b, Q, t, h, hok, hw => by
    simp only [codeOK, Bool.and_eq_true] at hok
    exact wc_seq (wpc_sound hok.1 hw) (fun t1 h1 q => wpc_sound hok.2 q) (fun ex t1 h1 hne q => by cases ex <;> first | exact q | exact absurd rfl hne)
  | .cond c x y, Q, t, h, hok, hw => by
    simp only [codeOK, Bool.and_eq_true] at hok
    unfold wpc at hw
    split at hw
    · rename_i b hb
      intro FB w0 μ act w Q' s ht hd hq
      have hv := aev_VR s ht hok.1.1
      rw [hb] at hv
      refine wp_cond hv.bool ?_
      cases b with
      | true => exact wpc_sound hok.1.2 (hw.1 rfl) FB w0 μ act w Q' s ht hd hq
      | false => exact wpc_sound hok.2 (hw.2 rfl) FB w0 μ act w Q' s ht hd hq
    · exact hw.elim
  | .block id c, Q, t, h, hok, hw => by
    have h1 := wpc_sound (c := c) hok hw
    intro FB w0 μ act w Q' s ht hd hq
    refine wp_block (h1 FB w0 μ act w _ s ht hd (fun ex t1 h1 μ1 a1 w1 q1 p1 ht1 hd1 => ?_))
    cases ex <;> first | exact hq _ t1 h1 μ1 a1 w1 q1 p1 ht1 hd1 | skip
    rename_i i
    simp only [Exit.inBlock] at q1 ⊢
    split
    · rename_i e; simp only [e, if_true] at q1; exact hq _ t1 h1 μ1 a1 w1 q1 p1 ht1 hd1
    · rename_i e; simp only [e, if_false] at q1; exact hq _ t1 h1 μ1 a1 w1 q1 p1 ht1 hd1
  | .scope c, Q, t, h, hok, hw => by
    have h1 := wpc_sound (c := c) hok hw
    intro FB w0 μ act w Q' s ht hd hq
    refine wp_scope_straight (h1 FB w0 μ act w _ s ht hd (fun ex t1 h1 μ1 a1 w1 q1 p1 ht1 hd1 => ?_))
    cases ex <;> first | exact hq _ t1 h1 μ1 a1 w1 q1 p1 ht1 hd1 | exact q1.elim
  | .goto _, Q, t, h, hok, hw => by simp [codeOK] at hok
  | .refuse _, Q, t, h, hok, hw => by simp [codeOK] at hok
  | .rangeFunc .., Q, t, h, hok, hw => by simp [codeOK] at hok

/-- A loop: what holds at each round's head, and what each round lessens. -/
theorem WC.loop {c : Code} {Q : Exit → List Value → AH → Prop} {t : List Value} (hok : codeOK P.globals.size c = true) (I : List Value → AH → Prop) (m : List Value → AH → Nat) (h0 : I t h)
    (round : ∀ t h, I t h → wpc P c (fun ex t' h' => match ex with | .normal => I t' h' ∧ m t' h' < m t h | ex => Q ex t' h') t h) : WC P (.loop c) Q t h := by
  intro FB w0 μ a w Q' s ht hd hq
  have key : ∀ (k : Nat) (t : List Value) (h : AH) (μ : Nat → Option Loc) (a : Act) (w : World), m t h < k → I t h → Sim P FB w0 μ h w → LR μ t a.tmps.toList → a.defers = [] →
      (∀ ex t' h' μ' a' w', Q ex t' h' → Post P FB w0 μ h μ' h' w' → LR μ' t' a'.tmps.toList → a'.defers = [] → Q' ex a' w') → Code.rounds P c Q' k a w := by
    intro k
    induction k with
    | zero => intro t h μ a w hk; omega
    | succ k ih =>
      intro t h μ a w hk hi s ht hd hq
      rw [rounds_succ]
      refine wpc_sound hok (round t h hi) FB w0 μ a w _ s ht hd (fun ex t1 h1 μ1 a1 w1 q1 p1 ht1 hd1 => ?_)
      cases ex with
      | normal => exact ih t1 h1 μ1 a1 w1 (by have := q1.2; omega) q1.1 p1.sim ht1 hd1 (fun ex t2 h2 μ2 a2 w2 q2 p2 ht2 hd2 => hq ex t2 h2 μ2 a2 w2 q2 (p1.trans p2) ht2 hd2)
      | _ => exact hq _ t1 h1 μ1 a1 w1 q1 p1 ht1 hd1
  exact wp_loop_rounds (m t h + 1) (key (m t h + 1) t h μ a w (by omega) h0 s ht hd hq)

/-! ### a function -/
def ares (P : Program) (h : AH) (t : List Value) : List ResultVar → (List Value → Prop) → Prop
  | [], K => K []
  | .tmp i :: r, K => ares P h t r fun vs => K (t.getD i undef :: vs)
  | .cell a ty :: r, K => aload P h ty (t.getD a undef) fun v => ares P h t r fun vs => K (v :: vs)
def packed : List Value → Value
  | [v] => v
  | vs => .tuple vs.toArray

theorem aload_run {t : TypeId} {p : Value} {K : Value → Prop} (hk : aload P h t p K) :
    ∃ v, K v ∧ ∀ FB w0 μ (w : World) (c : Value), Sim P FB w0 μ h w → VR μ p c → ∃ cv, (do loadVar t (← asAddr c) : Sem Value).run P w = .ok cv w ∧ VR μ v cv := by
  unfold aload at hk
  split at hk
  · rename_i i id off ht
    obtain ⟨d, j, z, f⟩ := ti_facts ht
    split at hk
    · rename_i hag
      split at hk
      · rename_i vs hvs
        refine ⟨_, hk, fun FB w0 μ w c s hv => ?_⟩
        obtain ⟨l, hm, he⟩ := hv.ptrOf
        obtain ⟨cvs, h1, h2, h3⟩ := s.read hm hvs
        refine ⟨.agg cvs.toArray, ?_, .agg _ _ (by simpa using h1.1) (fun j a b => by simpa using h1.2 j (by simpa using a) (by simpa using b))⟩
        simp only [he, asAddr, loadVar, Sem.run_bind, Sem.run_pure, Result.andThen_ok, f.runAgg, hag, if_true, f.runSize]
        rw [run_loadCells_list P w l.b (l.o + off) i.size cvs h2 h3]
        rfl
      · exact hk.elim
    · rename_i hag
      split at hk
      · rename_i v hv
        refine ⟨v, hk, fun FB w0 μ w c s hvr => ?_⟩
        obtain ⟨l, hm, he⟩ := hvr.ptrOf
        obtain ⟨cv, h1, h2⟩ := s.read1 hm hv
        refine ⟨cv, ?_, h2⟩
        have hag' : i.agg = false := by simpa using hag
        simp [he, asAddr, loadVar, f.runAgg, hag', h1]
      · exact hk.elim
  · exact hk.elim

def resOne (tmps : Array Value) : ResultVar → Sem Value
  | .tmp t => pure (tmps.getD t undef)
  | .cell a t => do loadVar t (← asAddr (tmps.getD a undef))
theorem results_eq (fn : Func) (tmps : Array Value) : results fn tmps = (do let vs ← fn.results.mapM (resOne tmps); pure (if h : vs.size = 1 then vs[0] else .tuple vs)) := by
  unfold results
  congr 1

theorem ares_sound {t : List Value} : ∀ {rs : List ResultVar} {K : List Value → Prop}, ares P h t rs K → ∃ vs, K vs ∧ ∀ FB w0 μ (a : Act) (w : World), Sim P FB w0 μ h w → LR μ t a.tmps.toList →
    ∃ cvs, (rs.mapM (resOne a.tmps)).run P w = .ok cvs w ∧ LR μ vs cvs
  | [], K, hk => ⟨[], hk, fun FB w0 μ a w s ht => ⟨[], by simp, LR.nil μ⟩⟩
  | .tmp i :: r, K, hk => by
    obtain ⟨vs, h1, h2⟩ := ares_sound (rs := r) hk
    refine ⟨_, h1, fun FB w0 μ a w s ht => ?_⟩
    obtain ⟨cvs, e1, e2⟩ := h2 FB w0 μ a w s ht
    refine ⟨a.tmps.getD i undef :: cvs, by simp only [List.mapM_cons, resOne, Sem.run_bind, Sem.run_pure, Result.andThen_ok, e1], LR.cons ?_ e2⟩
    rw [tmps_getD]; exact ht.getD i
  | .cell x ty :: r, K, hk => by
    obtain ⟨v, hk, ha⟩ := aload_run hk
    obtain ⟨vs, h1, h2⟩ := ares_sound (rs := r) hk
    refine ⟨_, h1, fun FB w0 μ a w s ht => ?_⟩
    obtain ⟨cvs, e1, e2⟩ := h2 FB w0 μ a w s ht
    obtain ⟨cv, q1, q2⟩ := ha FB w0 μ w (a.tmps.getD x undef) s (by rw [tmps_getD]; exact ht.getD x)
    exact ⟨cv :: cvs, by simp only [List.mapM_cons, resOne] at e1 ⊢; rw [Sem.run_bind, q1]; simp only [Result.andThen_ok, Sem.run_bind, e1, Sem.run_pure], LR.cons q2 e2⟩

theorem packed_VR {vs cvs : List Value} (e : LR μ vs cvs) : VR μ (packed vs) (if h : cvs.toArray.size = 1 then cvs.toArray[0] else .tuple cvs.toArray) := by
  have hl := e.1
  match vs, cvs, e, hl with
  | [], [], e, _ => exact .tuple _ _ rfl (fun j a => by simp at a)
  | [v], [c], e, _ => simpa [packed] using e.head
  | v :: v' :: r, c :: c' :: r', e, hl =>
    rw [dif_neg (by simp)]
    exact .tuple _ _ (by simpa using hl) (fun j a b => e.2 j (by simpa using a) (by simpa using b))

/-- What stands at a function's end. -/
def bodyQ (P : Program) (rs : List ResultVar) (R : Value → AH → Prop) (ex : Exit) (t : List Value) (h : AH) : Prop :=
  (ex = .normal ∨ ex = .ret) ∧ ares P h t rs fun vs => R (packed vs) h

/-- A function, out of the walk of its body. -/
theorem CE.of {f : FuncId} {fn : Func} {c : Code} {args : List Value} {R : Value → AH → Prop} (hf : P.funcs[f]? = some fn) (hb : fn.body = some c) 
    (hok : codeOK P.globals.size c = true) (hw : wpc P c (bodyQ P fn.results.toList R) (args ++ List.replicate (fn.ntmps - args.length) undef) h) : CE P f args h R := by
  intro FB w0 μ w cargs R' s ha hk
  refine calls_of_wp hf hb (wpc_sound hok hw FB w0 μ _ w _ s ?_ rfl (fun ex t' h' μ' a' w' q p ht hd => ?_))
  · simp only [Array.toList_append, Array.toList_replicate]
    have e : args.length = cargs.size := by simpa using ha.1
    rw [e]
    exact ha.append ⟨rfl, fun j a b => by simp; exact VR.undef μ⟩
  · obtain ⟨hex, hres⟩ := q
    obtain ⟨vs, hR, hvs⟩ := ares_sound hres
    obtain ⟨cvs, q1, q2⟩ := hvs FB w0 μ' a' w' p.sim ht
    have hrun : (results fn a'.tmps).run P w' = .ok (if h : cvs.toArray.size = 1 then cvs.toArray[0] else .tuple cvs.toArray) w' := by
      rw [results_eq, Array.mapM_eq_mapM_toList]
      simp only [Sem.run_bind, Sem.run_map, q1, Result.andThen_ok, Sem.run_pure]
    have hR' := hk _ h' μ' _ w' hR p (packed_VR q2)
    rcases hex with rfl | rfl <;> exact ⟨hd, _, hrun, hR'⟩

theorem CC.of {f : FuncId} {fn : Func} {c : Code} {args : List Value} {R : Value → AH → Prop} (hf : P.funcs[f]? = some fn) (hb : fn.body = some c) (hn : fn.name ≠ "runtime.NumGoroutine")
    (hok : codeOK P.globals.size c = true) (hw : wpc P c (bodyQ P fn.results.toList R) (args ++ List.replicate (fn.ntmps - args.length) undef) h) : CC P f args h R :=
  CE.call (by simp [callB, hf, hb, hn]) (CE.of hf hb hok hw)

end Go.Sim
/- How the walk is reckoned: rewriting rules, and what is not to be looked into before its turn. Conditions: none. -/
set_option linter.unusedVariables false
set_option linter.unusedSimpArgs false
namespace Go.Sim
variable {P : Program} {h : AH}

/-! ### what is not to be looked into -/
/-- A rewriting that always takes place: it holds the rules below awake. -/
def tick : Prop := True
theorem tick_eq : tick = True := propext ⟨fun _ => trivial, fun _ => trivial⟩
@[congr] theorem wpc_congr {tk : Prop} (_ : tick = tk) {c : Code} {Q : Exit → List Value → AH → Prop} {t t2 : List Value} {h h2 : AH} (et : t = t2) (eh : h = h2) : wpc P c Q t h = wpc P c Q t2 h2 := by subst et; subst eh; rfl
@[congr] theorem WC_congr {tk : Prop} (_ : tick = tk) {c : Code} {Q : Exit → List Value → AH → Prop} {t t2 : List Value} {h h2 : AH} (et : t = t2) (eh : h = h2) : WC P c Q t h = WC P c Q t2 h2 := by subst et; subst eh; rfl
@[congr] theorem CC_congr {tk : Prop} (_ : tick = tk) {f f2 : FuncId} {l l2 : List Value} {h h2 : AH} {R : Value → AH → Prop} (ef : f = f2) (el : l = l2) (eh : h = h2) : CC P f l h R = CC P f2 l2 h2 R := by subst ef; subst el; subst eh; rfl
@[congr] theorem aops_congr {tk : Prop} (_ : tick = tk) {ds : List (Option Tmp)} {l : List Oper} {t t2 : List Value} {h h2 : AH} {K : List Value → AH → Prop} (et : t = t2) (eh : h = h2) : aops P ds l t h K = aops P ds l t2 h2 K := by subst et; subst eh; rfl
@[congr] theorem aop_congr {tk : Prop} (_ : tick = tk) {o : Op} {ρ ρ2 : Operand → Value} {h h2 : AH} {K : Value → AH → Prop} (eρ : ρ = ρ2) (eh : h = h2) : aop P o ρ h K = aop P o ρ2 h2 K := by subst eρ; subst eh; rfl
@[congr] theorem bcase_congr {tk : Prop} (_ : tick = tk) {b b2 : Bool} {X : Prop} {Y : Prop} (eb : b = b2) : bcase b X Y = bcase b2 X Y := by subst eb; rfl
@[congr] theorem bodyQ_congr {tk : Prop} (_ : tick = tk) {rs rs2 : List ResultVar} {R : Value → AH → Prop} {ex ex2 : Exit} {t t2 : List Value} {h h2 : AH} (ers : rs = rs2) (eex : ex = ex2) (et : t = t2) (eh : h = h2) : bodyQ P rs R ex t h = bodyQ P rs2 R ex2 t2 h2 := by subst ers; subst eex; subst et; subst eh; rfl

/-- Go on, where there is a value. -/
def onS {α : Type} (o : Option α) (X : α → Prop) : Prop := match o with | some a => X a | none => False
theorem onS_some {α : Type} (a : α) (X : α → Prop) : onS (some a) X = X a := rfl
@[congr] theorem onS_congr {tk : Prop} (_ : tick = tk) {α : Type} {o o2 : Option α} {X : α → Prop} (eo : o = o2) : onS o X = onS o2 X := by subst eo; rfl
/-- By a value that is a bool. -/
def onB (v : Value) (X : Bool → Prop) (Y : Prop) : Prop := match v with | .bool b => X b | _ => Y
theorem onB_bool (b : Bool) (X : Bool → Prop) (Y : Prop) : onB (.bool b) X Y = X b := rfl
theorem onB_undef (X : Bool → Prop) (Y : Prop) : onB (.tuple #[]) X Y = Y := rfl
@[congr] theorem onB_congr {tk : Prop} (_ : tick = tk) {v v2 : Value} {X : Bool → Prop} {Y : Prop} (ev : v = v2) : onB v X Y = onB v2 X Y := by subst ev; rfl
/-- By one or the other. -/
def pick2 (b : Bool) (x y : Value) : Value := if b then x else y
theorem pick2_true (x y : Value) : pick2 true x y = x := rfl
theorem pick2_false (x y : Value) : pick2 false x y = y := rfl
theorem pick2_bool (b : Bool) (x y : Bool) : pick2 b (.bool x) (.bool y) = .bool (bif b then x else y) := by cases b <;> rfl
/-- A step whose guard stands at this place. -/
def ag (g : Option Tmp) (want : Bool) (t : List Value) (X Y : List Value → Prop) : Prop :=
  match g with
  | some d => onB (t.getD d undef) (fun b => if want then bcase b (X (t.set d (.bool true))) (Y (t.set d (.bool false))) else bcase b (Y (t.set d (.bool true))) (X (t.set d (.bool false)))) (Y t)
  | none => Y t
theorem ag_yes (d : Tmp) (t : List Value) (X Y : List Value → Prop) : ag (some d) true t X Y = onB (t.getD d undef) (fun b => bcase b (X (t.set d (.bool true))) (Y (t.set d (.bool false)))) (Y t) := rfl
theorem ag_no (d : Tmp) (t : List Value) (X Y : List Value → Prop) : ag (some d) false t X Y = onB (t.getD d undef) (fun b => bcase b (Y (t.set d (.bool true))) (X (t.set d (.bool false)))) (Y t) := rfl
@[congr] theorem ag_congr {tk : Prop} (_ : tick = tk) {g g2 : Option Tmp} {want want2 : Bool} {t t2 : List Value} {X : List Value → Prop} {Y : List Value → Prop} (eg : g = g2) (ewant : want = want2) (et : t = t2) : ag g want t X Y = ag g2 want2 t2 X Y := by subst eg; subst ewant; subst et; rfl

/-! ### code -/
/-- The places of operations. -/
def dsts (l : List Oper) : List (Option Tmp) := l.map (·.dst)
theorem gd_succ (o : Oper) (r : List Oper) (i : Nat) : gd (dsts (o :: r)) (i + 1) = gd (dsts r) i := rfl
theorem gd_zero (d : Option Tmp) (op : Op) (ty : TypeId) (pos : String) (af : Array Edge) (g : Option (Nat × Bool)) (r : List Oper) : gd (dsts (⟨d, op, ty, pos, af, g⟩ :: r)) 0 = d := rfl
def thn (K : List Value → AH → Prop) (Q : Exit → List Value → AH → Prop) : Exit → List Value → AH → Prop
  | .normal, t, h => K t h
  | ex, t, h => Q ex t h
theorem thn_normal (K : List Value → AH → Prop) (Q : Exit → List Value → AH → Prop) (t : List Value) (h : AH) : thn K Q .normal t h = K t h := rfl
theorem thn_ret (K : List Value → AH → Prop) (Q : Exit → List Value → AH → Prop) (t : List Value) (h : AH) : thn K Q .ret t h = Q .ret t h := rfl
theorem thn_exit (K : List Value → AH → Prop) (Q : Exit → List Value → AH → Prop) (i : Nat) (t : List Value) (h : AH) : thn K Q (.exit i) t h = Q (.exit i) t h := rfl
@[congr] theorem thn_congr {tk : Prop} (_ : tick = tk) {K : List Value → AH → Prop} {Q : Exit → List Value → AH → Prop} {ex ex2 : Exit} {t t2 : List Value} {h h2 : AH} (eex : ex = ex2) (et : t = t2) (eh : h = h2) : thn K Q ex t h = thn K Q ex2 t2 h2 := by subst eex; subst et; subst eh; rfl
def blk (id : Nat) (Q : Exit → List Value → AH → Prop) : Exit → List Value → AH → Prop
  | .exit i, t, h => if i = id then Q .normal t h else Q (.exit i) t h
  | ex, t, h => Q ex t h
theorem blk_normal (id : Nat) (Q : Exit → List Value → AH → Prop) (t : List Value) (h : AH) : blk id Q .normal t h = Q .normal t h := rfl
theorem blk_ret (id : Nat) (Q : Exit → List Value → AH → Prop) (t : List Value) (h : AH) : blk id Q .ret t h = Q .ret t h := rfl
def eqN (i j : Nat) (X Y : Prop) : Prop := if i = j then X else Y
@[congr] theorem eqN_congr {tk : Prop} (_ : tick = tk) {i i2 : Nat} {j j2 : Nat} {X : Prop} {Y : Prop} (ei : i = i2) (ej : j = j2) : eqN i j X Y = eqN i2 j2 X Y := by subst ei; subst ej; rfl
theorem blk_exit (id i : Nat) (Q : Exit → List Value → AH → Prop) (t : List Value) (h : AH) : blk id Q (.exit i) t h = eqN i id (Q .normal t h) (Q (.exit i) t h) := rfl
theorem eqN_same (i : Nat) (X Y : Prop) : eqN i i X Y = X := by simp [eqN]
theorem eqN_ne {i j : Nat} (e : (i == j) = false) (X Y : Prop) : eqN i j X Y = Y := by unfold eqN; exact if_neg (by simpa using e)
@[congr] theorem blk_congr {tk : Prop} (_ : tick = tk) {id id2 : Nat} {Q : Exit → List Value → AH → Prop} {ex ex2 : Exit} {t t2 : List Value} {h h2 : AH} (eid : id = id2) (eex : ex = ex2) (et : t = t2) (eh : h = h2) : blk id Q ex t h = blk id2 Q ex2 t2 h2 := by subst eid; subst eex; subst et; subst eh; rfl

theorem thn_eq (K : List Value → AH → Prop) (Q : Exit → List Value → AH → Prop) : (fun ex t h => match ex with | .normal => K t h | ex => Q ex t h) = thn K Q := by
  funext ex t h; cases ex <;> rfl
theorem wpc_seq (a b : Code) (Q : Exit → List Value → AH → Prop) (t : List Value) : wpc P (.seq a b) Q t h = wpc P a (thn (wpc P b Q) Q) t h := by
  rw [← thn_eq]; rfl
theorem wpc_skip (Q : Exit → List Value → AH → Prop) (t : List Value) : wpc P .skip Q t h = Q .normal t h := rfl
theorem wpc_ret (Q : Exit → List Value → AH → Prop) (t : List Value) : wpc P .ret Q t h = Q .ret t h := rfl
theorem wpc_exit (i : Nat) (Q : Exit → List Value → AH → Prop) (t : List Value) : wpc P (.exit i) Q t h = Q (.exit i) t h := rfl
theorem wpc_label (i : Nat) (Q : Exit → List Value → AH → Prop) (t : List Value) : wpc P (.label i) Q t h = Q .normal t h := rfl
theorem wpc_region (id : Nat) (l : List Oper) (Q : Exit → List Value → AH → Prop) (t : List Value) : wpc P (.region id l.toArray false) Q t h = aops P (dsts l) l t h (Q .normal) := rfl
theorem wpc_draw (id : Nat) (ops : Array Oper) (Q : Exit → List Value → AH → Prop) (t : List Value) : wpc P (.region id ops true) Q t h = WC P (.region id ops true) Q t h := rfl
theorem wpc_loop (c : Code) (Q : Exit → List Value → AH → Prop) (t : List Value) : wpc P (.loop c) Q t h = WC P (.loop c) Q t h := rfl
theorem wpc_block (id : Nat) (c : Code) (Q : Exit → List Value → AH → Prop) (t : List Value) : wpc P (.block id c) Q t h = wpc P c (blk id Q) t h := by
  have : (fun ex t h => match ex with | .exit i => if i = id then Q .normal t h else Q (.exit i) t h | ex => Q ex t h) = blk id Q := by
    funext ex t h; cases ex <;> rfl
  rw [← this]; rfl
theorem wpc_cond (c : Operand) (a b : Code) (Q : Exit → List Value → AH → Prop) (t : List Value) : wpc P (.cond c a b) Q t h = onB (aev t c) (fun x => bcase x (wpc P a Q t h) (wpc P b Q t h)) False := rfl

/-! ### operations -/
theorem aops_nil (ds : List (Option Tmp)) (K : List Value → AH → Prop) (t : List Value) : aops P ds [] t h K = K t h := rfl
theorem aops_cons (ds : List (Option Tmp)) (K : List Value → AH → Prop) (t : List Value) (d : Option Tmp) (op : Op) (ty : TypeId) (pos : String) (af : Array Edge) (r : List Oper) :
    aops P ds ({ dst := d, op := op, type := ty, pos := pos, after := af, guard := none } :: r) t h K = aop P op (aev t) h fun v h' => aops P ds r (put t d v) h' K := rfl
theorem aops_guard (ds : List (Option Tmp)) (K : List Value → AH → Prop) (t : List Value) (d : Option Tmp) (op : Op) (ty : TypeId) (pos : String) (af : Array Edge) (r : List Oper) (j : Nat) (want : Bool) :
    aops P ds ({ dst := d, op := op, type := ty, pos := pos, after := af, guard := some (j, want) } :: r) t h K =
      ag (gd ds j) want t (fun t => aop P op (aev t) h fun v h' => aops P ds r (put t d v) h' K) (fun t => aops P ds r (put t d undef) h K) := by
  conv => lhs; unfold aops
  simp only [ag, onB]
  all_goals (cases gd ds j <;> rfl)

theorem aev_tmp (t : List Value) (i : Nat) : aev t (.tmp i) = t.getD i undef := rfl
theorem aev_const (t : List Value) (v : Value) : aev t (.const v) = v := rfl
theorem aev_global (t : List Value) (g : Nat) : aev t (.global g) = .pointer (some ⟨g, 0, none⟩) := rfl
theorem aev_func (t : List Value) (f : Nat) : aev t (.func f) = .func (.func f) #[] #[] := rfl
theorem put_some (t : List Value) (i : Nat) (v : Value) : put t (some i) v = t.set i v := rfl
theorem put_none (t : List Value) (v : Value) : put t none v = t := rfl

section
variable (ρ : Operand → Value) (K : Value → AH → Prop)
theorem aop_move (x : Operand) : aop P (.move x) ρ h K = K (ρ x) h := rfl
theorem aop_assign (x : Operand) : aop P (.assign x) ρ h K = K (ρ x) h := rfl
theorem aop_pick (c a b : Operand) : aop P (.pick c a b) ρ h K = onB (ρ c) (fun t => K (pick2 t (ρ a) (ρ b)) h) False := rfl
theorem aop_alloc (t : TypeId) : aop P (.alloc t) ρ h K = onS (ti P t) fun i => K (.pointer (some ⟨h.n, 0, none⟩)) (h.alloc (.cells i.zero .solo h.n)) := by
  change (match ti P t with | some i => K (.pointer (some ⟨h.n, 0, none⟩)) (h.alloc (.cells i.zero .solo h.n)) | none => False) = _
  cases ti P t <;> rfl
theorem aop_box (t : TypeId) (x : Operand) : aop P (.box t x) ρ h K = ((ρ x).cells.toList.all one = true ∧ K (.pointer (some ⟨h.n, 0, none⟩)) (h.alloc (.cells (ρ x).cells.toList .solo h.n))) := rfl
theorem aop_build (t : TypeId) (ps : Array (Nat × Operand)) : aop P (.build t ps) ρ h K = abuild P t (ps.toList.map (pv ρ)) fun v => K v h := rfl
theorem aop_buildSlice (t : TypeId) (n : Nat) (ps : Array (Nat × Operand)) : aop P (.buildSlice t n ps) ρ h K = abuildSlice P h t n (ps.toList.map (pv ρ)) K := rfl
theorem aop_load (t : TypeId) (x : Operand) : aop P (.load t x) ρ h K = aload P h t (ρ x) fun v => K v h := rfl
theorem aop_store (t : TypeId) (x y : Operand) : aop P (.store t x y) ρ h K = astore P h t (ρ x) (ρ y) fun h' => K undef h' := rfl
def anil (x : Value) (K : Value → Prop) : Prop := match x with | .pointer (some a) => K (.pointer (some a)) | _ => False
theorem anil_ptr (a : Addr) (K : Value → Prop) : anil (.pointer (some a)) K = K (.pointer (some a)) := rfl
theorem aop_nilCheck (x : Operand) : aop P (.nilCheck x) ρ h K = anil (ρ x) fun v => K v h := by
  change (match ρ x with | .pointer (some a) => K (.pointer (some a)) h | _ => False) = _
  unfold anil
  cases ρ x <;> first | rfl | (rename_i o; cases o <;> rfl)
theorem aop_binOp (op : BinOp) (t u : TypeId) (x y : Operand) : aop P (.binOp op t x y u) ρ h K = abinT P op t (ρ x) (ρ y) fun v => K v h := rfl
@[congr] theorem abinT_congr {tk : Prop} (_ : tick = tk) {op op2 : BinOp} {t t2 : TypeId} {x x2 : Value} {y y2 : Value} {K : Value → Prop} (eop : op = op2) (et : t = t2) (ex : x = x2) (ey : y = y2) : abinT P op t x y K = abinT P op2 t2 x2 y2 K := by subst eop; subst et; subst ex; subst ey; rfl
theorem abinT_int (op : BinOp) (t : TypeId) (k : IntKind) (n : Int) (y : Value) (K : Value → Prop) : abinT P op t (.int k n) y K = abin op (.int k n) y K := rfl
theorem abinT_str (op : BinOp) (t : TypeId) (s : ByteArray) (y : Value) (K : Value → Prop) : abinT P op t (.string s) y K = abin op (.string s) y K := rfl
theorem abinT_beq (t : TypeId) (ht : P.underlying t = some .bool) (a b : Bool) (K : Value → Prop) : abinT P .eql t (.bool a) (.bool b) K = K (.bool (a == b)) := by simp [abinT, aeq, aeqB, ht]
theorem abinT_bne (t : TypeId) (ht : P.underlying t = some .bool) (a b : Bool) (K : Value → Prop) : abinT P .neq t (.bool a) (.bool b) K = K (.bool (!(a == b))) := by simp [abinT, aeq, aeqB, ht]
theorem abinT_peq (t e : TypeId) (ht : P.underlying t = some (.pointer e)) (a : Option Addr) (K : Value → Prop) : abinT P .eql t (.pointer a) (.pointer none) K = K (.bool a.isNone) := by cases a <;> simp [abinT, aeq, aeqB, ht]
theorem abinT_pne (t e : TypeId) (ht : P.underlying t = some (.pointer e)) (a : Option Addr) (K : Value → Prop) : abinT P .neq t (.pointer a) (.pointer none) K = K (.bool (!a.isNone)) := by cases a <;> simp [abinT, aeq, aeqB, ht]
theorem abinT_agge (t : TypeId) (xs ys : Array Value) (K : Value → Prop) : abinT P .eql t (.agg xs) (.agg ys) K = onS (aeqB P t (.agg xs) (.agg ys)) fun b => K (.bool b) := by
  unfold abinT aeq onS
  cases aeqB P t (.agg xs) (.agg ys) <;> rfl
theorem abinT_aggn (t : TypeId) (xs ys : Array Value) (K : Value → Prop) : abinT P .neq t (.agg xs) (.agg ys) K = onS (aeqB P t (.agg xs) (.agg ys)) fun b => K (.bool (!b)) := by
  unfold abinT aeq onS
  cases aeqB P t (.agg xs) (.agg ys) <;> rfl
theorem aop_unOp (op : UnOp) (t : TypeId) (x : Operand) : aop P (.unOp op t x) ρ h K = aun op (ρ x) fun v => K v h := rfl
theorem aop_convert (s d : TypeId) (x : Operand) : aop P (.convert s d x) ρ h K = aconv P h s d (ρ x) K := rfl
theorem aop_makeFunc (fn : Fn) (f c : Array Operand) : aop P (.makeFunc fn f c) ρ h K = K (.func fn (f.map ρ) (c.map ρ)) h := rfl
theorem aop_makeMap (t : TypeId) : aop P (.makeMap t none) ρ h K = K (.map (some h.n)) (h.alloc (.map [])) := rfl
theorem aop_makeSlice (t : TypeId) (x y : Operand) : aop P (.makeSlice t x y) ρ h K = amake P h t (ρ x) (ρ y) K := rfl
def noArr (o : Option TypeDesc) (X : Prop) : Prop := match o with | some (.array _ _) => False | _ => X
theorem aop_slice (t : TypeId) (x : Operand) (lo hi mx : Option Operand) : aop P (.slice t x lo hi mx) ρ h K = noArr (P.underlying t) (acut P t (ρ x) (lo.map ρ) (hi.map ρ) (mx.map ρ) fun v => K v h) := by
  change (match P.underlying t with | some (.array _ _) => False | _ => acut P t (ρ x) (lo.map ρ) (hi.map ρ) (mx.map ρ) fun v => K v h) = _
  unfold noArr
  cases P.underlying t with
  | none => rfl
  | some d => cases d <;> rfl
theorem aop_fieldAddr (t : TypeId) (x : Operand) (f : Nat) : aop P (.fieldAddr t x f) ρ h K = afieldAddr P t (ρ x) f fun v => K v h := rfl
theorem aop_field (t : TypeId) (x : Operand) (f : Nat) : aop P (.field t x f) ρ h K = afield P t (ρ x) f fun v => K v h := rfl
theorem aop_indexAddr (t : TypeId) (x y : Operand) : aop P (.indexAddr t x y) ρ h K = aindexAddr P t (ρ x) (ρ y) fun v => K v h := rfl
theorem aop_index (t : TypeId) (x y : Operand) : aop P (.index t x y) ρ h K = aindex P t (ρ x) (ρ y) fun v => K v h := rfl
theorem aop_extract (x : Operand) (i : Nat) : aop P (.extract x i) ρ h K = aextract (ρ x) i fun v => K v h := rfl
theorem aop_lookup (t : TypeId) (x y : Operand) (ok : Bool) : aop P (.lookup t x y ok) ρ h K = alookup P h t (ρ x) (ρ y) ok fun v => K v h := rfl
theorem aop_mapUpdate (t : TypeId) (x y z : Operand) : aop P (.mapUpdate t x y z) ρ h K = amapset P h t (ρ x) (ρ y) (ρ z) fun h' => K undef h' := rfl
theorem aop_call (f : Operand) (args : Array Operand) (ts : Array TypeId) : aop P (.call { callee := .value f, args := args, argTypes := ts }) ρ h K = acall P h (ρ f) (args.toList.map ρ) K := rfl
theorem aop_builtin (b : Builtin) (args : Array Operand) (ts : Array TypeId) : aop P (.call { callee := .builtin b, args := args, argTypes := ts }) ρ h K = abuiltin P h b ts.toList (args.toList.map ρ) K := rfl
end
@[congr] theorem anil_congr {tk : Prop} (_ : tick = tk) {x x2 : Value} {K : Value → Prop} (ex : x = x2) : anil x K = anil x2 K := by subst ex; rfl
@[congr] theorem noArr_congr {tk : Prop} (_ : tick = tk) {o o2 : Option TypeDesc} {X : Prop} (eo : o = o2) : noArr o X = noArr o2 X := by subst eo; rfl
theorem noArr_string (X : Prop) : noArr (some .string) X = X := rfl
theorem noArr_slice (e : TypeId) (X : Prop) : noArr (some (.slice e)) X = X := rfl

/-! calls -/
@[congr] theorem acall_congr {tk : Prop} (_ : tick = tk) {h h2 : AH} {f f2 : Value} {l l2 : List Value} {K : Value → AH → Prop} (eh : h = h2) (ef : f = f2) (el : l = l2) : acall P h f l K = acall P h2 f2 l2 K := by subst eh; subst ef; subst el; rfl
theorem acall_func (fid : FuncId) (first captured : Array Value) (l : List Value) (K : Value → AH → Prop) : acall P h (.func (.func fid) first captured) l K = CC P fid (first.toList ++ l ++ captured.toList) h K := rfl
@[congr] theorem abuiltin_congr {tk : Prop} (_ : tick = tk) {h h2 : AH} {b b2 : Builtin} {ts ts2 : List TypeId} {l l2 : List Value} {K : Value → AH → Prop} (eh : h = h2) (eb : b = b2) (ets : ts = ts2) (el : l = l2) : abuiltin P h b ts l K = abuiltin P h2 b2 ts2 l2 K := by subst eh; subst eb; subst ets; subst el; rfl
theorem abuiltin_append (t u : TypeId) (x y : Value) (K : Value → AH → Prop) : abuiltin P h .append [t, u] [x, y] K = aappend P h t u x y K := rfl
theorem abuiltin_len (t : TypeId) (x : Value) (K : Value → AH → Prop) : abuiltin P h .len [t] [x] K = alen P h t x fun v => K v h := rfl
theorem abuiltin_cap (t : TypeId) (x : Value) (K : Value → AH → Prop) : abuiltin P h .cap [t] [x] K = acap P t x fun v => K v h := rfl
theorem abuiltin_min (ts : List TypeId) (k : IntKind) (a b : Int) (K : Value → AH → Prop) : abuiltin P h .min ts [.int k a, .int k b] K = K (.int k (min a b)) h := by simp [abuiltin, aminmax]
theorem abuiltin_max (ts : List TypeId) (k : IntKind) (a b : Int) (K : Value → AH → Prop) : abuiltin P h .max ts [.int k a, .int k b] K = K (.int k (max a b)) h := by simp [abuiltin, aminmax]

/-! numbers, bools, strings -/
@[congr] theorem abin_congr {tk : Prop} (_ : tick = tk) {op op2 : BinOp} {x x2 : Value} {y y2 : Value} {K : Value → Prop} (eop : op = op2) (ex : x = x2) (ey : y = y2) : abin op x y K = abin op2 x2 y2 K := by subst eop; subst ex; subst ey; rfl
@[congr] theorem aun_congr {tk : Prop} (_ : tick = tk) {op op2 : UnOp} {x x2 : Value} {K : Value → Prop} (eop : op = op2) (ex : x = x2) : aun op x K = aun op2 x2 K := by subst eop; subst ex; rfl
section
variable (k k' : IntKind) (a b : Int) (s u : ByteArray) (K : Value → Prop)
theorem abin_add : abin .add (.int k a) (.int k b) K = K (.int k (k.wrap (a + b))) := by simp [abin]
theorem abin_sub : abin .sub (.int k a) (.int k b) K = K (.int k (k.wrap (a - b))) := by simp [abin]
theorem abin_mul : abin .mul (.int k a) (.int k b) K = K (.int k (k.wrap (a * b))) := by simp [abin]
theorem abin_quo : abin .quo (.int k a) (.int k b) K = (b ≠ 0 ∧ K (.int k (k.wrap (a.tdiv b)))) := by simp [abin]
theorem abin_rem : abin .rem (.int k a) (.int k b) K = (b ≠ 0 ∧ K (.int k (a.tmod b))) := by simp [abin]
theorem abin_and : abin .and (.int k a) (.int k b) K = K (.int k (k.wrap (BitVec.ofInt k.bits a &&& BitVec.ofInt k.bits b).toNat)) := by simp [abin]
theorem abin_or : abin .or (.int k a) (.int k b) K = K (.int k (k.wrap (BitVec.ofInt k.bits a ||| BitVec.ofInt k.bits b).toNat)) := by simp [abin]
theorem abin_xor : abin .xor (.int k a) (.int k b) K = K (.int k (k.wrap (BitVec.ofInt k.bits a ^^^ BitVec.ofInt k.bits b).toNat)) := by simp [abin]
theorem abin_shl : abin .shl (.int k a) (.int k' b) K = (0 ≤ b ∧ K (.int k (k.wrap (a * 2 ^ (min b.toNat k.bits))))) := by simp [abin]
theorem abin_shr : abin .shr (.int k a) (.int k' b) K = (0 ≤ b ∧ K (.int k (a.fdiv (2 ^ (min b.toNat k.bits))))) := by simp [abin]
theorem abin_eql : abin .eql (.int k a) (.int k b) K = K (.bool (decide (a = b))) := by simp [abin]
theorem abin_neq : abin .neq (.int k a) (.int k b) K = K (.bool (!decide (a = b))) := by simp [abin]
theorem abin_lss : abin .lss (.int k a) (.int k b) K = K (.bool (decide (a < b))) := by simp [abin]
theorem abin_leq : abin .leq (.int k a) (.int k b) K = K (.bool (decide (a ≤ b))) := by simp [abin]
theorem abin_gtr : abin .gtr (.int k a) (.int k b) K = K (.bool (decide (b < a))) := by simp [abin]
theorem abin_geq : abin .geq (.int k a) (.int k b) K = K (.bool (decide (b ≤ a))) := by simp [abin]
theorem abin_adds : abin .add (.string s) (.string u) K = (s.size + u.size < 4611686018427387904 ∧ K (.string (s ++ u))) := by simp [abin]
theorem abin_eqls : abin .eql (.string s) (.string u) K = K (.bool (decide (s = u))) := rfl
theorem abin_neqs : abin .neq (.string s) (.string u) K = K (.bool (!decide (s = u))) := rfl
theorem abin_lsss : abin .lss (.string s) (.string u) K = K (.bool (Op.bytesLess s.toList u.toList)) := rfl
theorem abin_leqs : abin .leq (.string s) (.string u) K = K (.bool (Op.bytesLess s.toList u.toList || decide (s = u))) := rfl
theorem abin_gtrs : abin .gtr (.string s) (.string u) K = K (.bool (!(Op.bytesLess s.toList u.toList || decide (s = u)))) := rfl
theorem abin_geqs : abin .geq (.string s) (.string u) K = K (.bool (!Op.bytesLess s.toList u.toList)) := rfl
theorem aun_not (c : Bool) : aun .not (.bool c) K = K (.bool (!c)) := rfl
theorem aun_neg : aun .neg (.int k a) K = K (.int k (k.wrap (0 - a))) := rfl
end

/-! memory -/
def aloadT (i : Option TI) (h : AH) (id off : Nat) (K : Value → Prop) : Prop :=
  match i with
  | some i => if i.agg then onS (rd h id off i.size) (fun vs => K (.agg vs.toArray)) else onS (rd1 h id off) K
  | none => False
@[congr] theorem aloadT_congr {tk : Prop} (_ : tick = tk) {i i2 : Option TI} {h h2 : AH} {id id2 : Nat} {off off2 : Nat} {K : Value → Prop} (ei : i = i2) (eh : h = h2) (eid : id = id2) (eoff : off = off2) : aloadT i h id off K = aloadT i2 h2 id2 off2 K := by subst ei; subst eh; subst eid; subst eoff; rfl
@[congr] theorem aload_congr {tk : Prop} (_ : tick = tk) {h h2 : AH} {t t2 : TypeId} {p p2 : Value} {K : Value → Prop} (eh : h = h2) (et : t = t2) (ep : p = p2) : aload P h t p K = aload P h2 t2 p2 K := by subst eh; subst et; subst ep; rfl
theorem aload_ptr (t : TypeId) (id off : Nat) (K : Value → Prop) : aload P h t (.pointer (some ⟨id, off, none⟩)) K = aloadT (ti P t) h id off K := by
  unfold aload aloadT
  cases ti P t with
  | none => rfl
  | some i => simp only [onS]; split <;> split <;> simp_all
theorem aloadT_one (s b : Nat) (z : List Value) (id off : Nat) (K : Value → Prop) : aloadT (some ⟨s, b, z, false⟩) h id off K = onS (rd1 h id off) K := by simp [aloadT]
theorem aloadT_agg (s b : Nat) (z : List Value) (id off : Nat) (K : Value → Prop) : aloadT (some ⟨s, b, z, true⟩) h id off K = onS (rd h id off s) (fun vs => K (.agg vs.toArray)) := by simp [aloadT]
def astoreT (i : Option TI) (h : AH) (id off : Nat) (v : Value) (K : AH → Prop) : Prop :=
  match i with
  | some i => v.cells.size = i.size ∧ v.cells.all Sim.one = true ∧ onS (wr h id off v.cells.toList) K
  | none => False
@[congr] theorem astoreT_congr {tk : Prop} (_ : tick = tk) {i i2 : Option TI} {h h2 : AH} {id id2 : Nat} {off off2 : Nat} {v v2 : Value} {K : AH → Prop} (ei : i = i2) (eh : h = h2) (eid : id = id2) (eoff : off = off2) (ev : v = v2) : astoreT i h id off v K = astoreT i2 h2 id2 off2 v2 K := by subst ei; subst eh; subst eid; subst eoff; subst ev; rfl
@[congr] theorem astore_congr {tk : Prop} (_ : tick = tk) {h h2 : AH} {t t2 : TypeId} {p p2 : Value} {v v2 : Value} {K : AH → Prop} (eh : h = h2) (et : t = t2) (ep : p = p2) (ev : v = v2) : astore P h t p v K = astore P h2 t2 p2 v2 K := by subst eh; subst et; subst ep; subst ev; rfl
theorem astore_ptr (t : TypeId) (id off : Nat) (v : Value) (K : AH → Prop) : astore P h t (.pointer (some ⟨id, off, none⟩)) v K = astoreT (ti P t) h id off v K := by
  unfold astore astoreT
  cases ti P t with
  | none => rfl
  | some i => simp only [onS]; cases wr h id off v.cells.toList <;> rfl
theorem astoreT_some (s b : Nat) (z : List Value) (ag : Bool) (id off : Nat) (v : Value) (K : AH → Prop) : astoreT (some ⟨s, b, z, ag⟩) h id off v K = (v.cells.size = s ∧ v.cells.all Sim.one = true ∧ onS (wr h id off v.cells.toList) K) := rfl
def afa (o : Option (Nat × Nat × Bool)) (id off : Nat) (K : Value → Prop) : Prop :=
  match o with
  | some (fo, sz, _) => sz ≠ 0 ∧ K (.pointer (some ⟨id, off + fo, none⟩))
  | none => False
@[congr] theorem afa_congr {tk : Prop} (_ : tick = tk) {o o2 : Option (Nat × Nat × Bool)} {id id2 : Nat} {off off2 : Nat} {K : Value → Prop} (eo : o = o2) (eid : id = id2) (eoff : off = off2) : afa o id off K = afa o2 id2 off2 K := by subst eo; subst eid; subst eoff; rfl
@[congr] theorem afieldAddr_congr {tk : Prop} (_ : tick = tk) {t t2 : TypeId} {p p2 : Value} {f f2 : Nat} {K : Value → Prop} (et : t = t2) (ep : p = p2) (ef : f = f2) : afieldAddr P t p f K = afieldAddr P t2 p2 f2 K := by subst et; subst ep; subst ef; rfl
theorem afieldAddr_ptr (t : TypeId) (id off f : Nat) (K : Value → Prop) : afieldAddr P t (.pointer (some ⟨id, off, none⟩)) f K = afa (fi P t f) id off K := by
  unfold afieldAddr afa
  cases fi P t f <;> rfl
theorem afa_some (fo sz : Nat) (ag : Bool) (id off : Nat) (K : Value → Prop) : afa (some (fo, sz, ag)) id off K = (sz ≠ 0 ∧ K (.pointer (some ⟨id, off + fo, none⟩))) := rfl
def afl (o : Option (Nat × Nat × Bool)) (cs : Array Value) (K : Value → Prop) : Prop :=
  match o with
  | some (fo, sz, ag) => if ag then K (.agg (cs.extract fo (fo + sz))) else onS cs[fo]? K
  | none => False
@[congr] theorem afl_congr {tk : Prop} (_ : tick = tk) {o o2 : Option (Nat × Nat × Bool)} {cs cs2 : Array Value} {K : Value → Prop} (eo : o = o2) (ecs : cs = cs2) : afl o cs K = afl o2 cs2 K := by subst eo; subst ecs; rfl
@[congr] theorem afield_congr {tk : Prop} (_ : tick = tk) {t t2 : TypeId} {p p2 : Value} {f f2 : Nat} {K : Value → Prop} (et : t = t2) (ep : p = p2) (ef : f = f2) : afield P t p f K = afield P t2 p2 f2 K := by subst et; subst ep; subst ef; rfl
theorem afield_agg (t : TypeId) (cs : Array Value) (f : Nat) (K : Value → Prop) : afield P t (.agg cs) f K = afl (fi P t f) cs K := by
  unfold afield afl
  cases fi P t f with
  | none => rfl
  | some p =>
    obtain ⟨fo, sz, ag⟩ := p
    cases ag with
    | true => rfl
    | false => simp only [onS]; cases cs[fo]? <;> rfl
theorem afl_one (fo sz : Nat) (cs : Array Value) (K : Value → Prop) : afl (some (fo, sz, false)) cs K = onS cs[fo]? K := by simp [afl]
theorem afl_agg (fo sz : Nat) (cs : Array Value) (K : Value → Prop) : afl (some (fo, sz, true)) cs K = K (.agg (cs.extract fo (fo + sz))) := by simp [afl]
def aixT (o : Option (TypeId × TI)) (id off n : Nat) (j : Int) (K : Value → Prop) : Prop :=
  match o with
  | some (_, i) => 0 ≤ j ∧ j < (n : Int) ∧ K (.pointer (some ⟨id, off + j.toNat * i.size, none⟩))
  | none => False
@[congr] theorem aixT_congr {tk : Prop} (_ : tick = tk) {o o2 : Option (TypeId × TI)} {id id2 : Nat} {off off2 : Nat} {n n2 : Nat} {j j2 : Int} {K : Value → Prop} (eo : o = o2) (eid : id = id2) (eoff : off = off2) (en : n = n2) (ej : j = j2) : aixT o id off n j K = aixT o2 id2 off2 n2 j2 K := by subst eo; subst eid; subst eoff; subst en; subst ej; rfl
@[congr] theorem aindexAddr_congr {tk : Prop} (_ : tick = tk) {t t2 : TypeId} {x x2 : Value} {y y2 : Value} {K : Value → Prop} (et : t = t2) (ex : x = x2) (ey : y = y2) : aindexAddr P t x y K = aindexAddr P t2 x2 y2 K := by subst et; subst ex; subst ey; rfl
theorem aindexAddr_sl (t : TypeId) (id off n c : Nat) (ik : IntKind) (j : Int) (K : Value → Prop) : aindexAddr P t (.slice (some ⟨id, off, none⟩) n c) (.int ik j) K = aixT (si P t) id off n j K := by
  unfold aindexAddr aixT
  cases si P t <;> rfl
theorem aixT_some (e : TypeId) (s b : Nat) (z : List Value) (ag : Bool) (id off n : Nat) (j : Int) (K : Value → Prop) : aixT (some (e, ⟨s, b, z, ag⟩)) id off n j K = (0 ≤ j ∧ j < (n : Int) ∧ K (.pointer (some ⟨id, off + j.toNat * s, none⟩))) := rfl
@[congr] theorem aindex_congr {tk : Prop} (_ : tick = tk) {t t2 : TypeId} {x x2 : Value} {y y2 : Value} {K : Value → Prop} (et : t = t2) (ex : x = x2) (ey : y = y2) : aindex P t x y K = aindex P t2 x2 y2 K := by subst et; subst ex; subst ey; rfl
theorem aindex_str (t : TypeId) (s : ByteArray) (ik : IntKind) (j : Int) (K : Value → Prop) : aindex P t (.string s) (.int ik j) K = (P.underlying t = some .string ∧ 0 ≤ j ∧ j < (s.size : Int) ∧ K (.int .u8 (byteAt s j.toNat).toNat)) := rfl
@[congr] theorem aextract_congr {tk : Prop} (_ : tick = tk) {x x2 : Value} {i i2 : Nat} {K : Value → Prop} (ex : x = x2) (ei : i = i2) : aextract x i K = aextract x2 i2 K := by subst ex; subst ei; rfl
theorem aextract_tuple (vs : Array Value) (i : Nat) (K : Value → Prop) : aextract (.tuple vs) i K = onS vs[i]? K := by
  change (match vs[i]? with | some v => K v | none => False) = _
  unfold onS
  cases vs[i]? <;> rfl

def alenT (o : Option TypeDesc) (h : AH) (x : Value) (K : Value → Prop) : Prop :=
  match o, x with
  | some .string, .string s => K (.int .i64 s.size)
  | some (.slice _), .slice _ n _ => K (.int .i64 n)
  | some (.map _ _), .map (some r) => (match h.ob r with | .map es => K (.int .i64 es.length) | _ => False)
  | _, _ => False
@[congr] theorem alenT_congr {tk : Prop} (_ : tick = tk) {o o2 : Option TypeDesc} {h h2 : AH} {x x2 : Value} {K : Value → Prop} (eo : o = o2) (eh : h = h2) (ex : x = x2) : alenT o h x K = alenT o2 h2 x2 K := by subst eo; subst eh; subst ex; rfl
@[congr] theorem alen_congr {tk : Prop} (_ : tick = tk) {h h2 : AH} {t t2 : TypeId} {x x2 : Value} {K : Value → Prop} (eh : h = h2) (et : t = t2) (ex : x = x2) : alen P h t x K = alen P h2 t2 x2 K := by subst eh; subst et; subst ex; rfl
theorem alen_eq (t : TypeId) (x : Value) (K : Value → Prop) : alen P h t x K = alenT (P.underlying t) h x K := rfl
theorem alenT_str (s : ByteArray) (K : Value → Prop) : alenT (some .string) h (.string s) K = K (.int .i64 s.size) := rfl
theorem alenT_sl (e : TypeId) (A : Option Addr) (n c : Nat) (K : Value → Prop) : alenT (some (.slice e)) h (.slice A n c) K = K (.int .i64 n) := rfl


/-! a function's end -/
theorem bodyQ_ret (rs : List ResultVar) (R : Value → AH → Prop) (t : List Value) : bodyQ P rs R .ret t h = ares P h t rs fun vs => R (packed vs) h := by simp [bodyQ]
theorem bodyQ_normal (rs : List ResultVar) (R : Value → AH → Prop) (t : List Value) : bodyQ P rs R .normal t h = ares P h t rs fun vs => R (packed vs) h := by simp [bodyQ]
@[congr] theorem ares_congr {tk : Prop} (_ : tick = tk) {h h2 : AH} {t t2 : List Value} {rs rs2 : List ResultVar} {K : List Value → Prop} (eh : h = h2) (et : t = t2) (ers : rs = rs2) : ares P h t rs K = ares P h2 t2 rs2 K := by subst eh; subst et; subst ers; rfl
theorem ares_nil (t : List Value) (K : List Value → Prop) : ares P h t [] K = K [] := rfl
theorem ares_tmp (t : List Value) (i : Nat) (r : List ResultVar) (K : List Value → Prop) : ares P h t (.tmp i :: r) K = ares P h t r fun vs => K (t.getD i undef :: vs) := rfl
theorem ares_cell (t : List Value) (a : Nat) (ty : TypeId) (r : List ResultVar) (K : List Value → Prop) : ares P h t (.cell a ty :: r) K = aload P h ty (t.getD a undef) fun v => ares P h t r fun vs => K (v :: vs) := rfl
theorem packed_one (v : Value) : packed [v] = v := rfl
theorem packed_two (v u : Value) : packed [v, u] = .tuple #[v, u] := rfl
theorem packed_three (v u x : Value) : packed [v, u, x] = .tuple #[v, u, x] := rfl
theorem packed_nil : packed [] = .tuple #[] := rfl

/-! the heap -/
def rdO (o : AOb) (off n : Nat) : Option (List Value) :=
  match o with
  | .cells cs _ _ => if off + n ≤ cs.length then some ((cs.drop off).take n) else none
  | _ => none
def rd1O (o : AOb) (off : Nat) : Option Value :=
  match o with
  | .cells cs _ _ => cs[off]?
  | _ => none
def wrO (h : AH) (i : Nat) (o : AOb) (off : Nat) (vs : List Value) : Option AH :=
  match o with
  | .cells cs .solo ln => if off + vs.length ≤ cs.length then some (h.set i (.cells (putL cs off vs) .solo ln)) else none
  | .cells cs .tip ln => if off + vs.length ≤ cs.length then some ((h.kill ln).set i (.cells (putL cs off vs) .tip ln)) else none
  | _ => none
theorem rd_eq (i off n : Nat) : rd h i off n = rdO (h.ob i) off n := rfl
theorem rd1_eq (i off : Nat) : rd1 h i off = rd1O (h.ob i) off := rfl
theorem wr_eq (i off : Nat) (vs : List Value) : wr h i off vs = wrO h i (h.ob i) off vs := rfl
theorem rdO_cells (cs : List Value) (st : Stat) (ln off n : Nat) : rdO (.cells cs st ln) off n = if off + n ≤ cs.length then some ((cs.drop off).take n) else none := rfl
theorem rd1O_cells (cs : List Value) (st : Stat) (ln off : Nat) : rd1O (.cells cs st ln) off = cs[off]? := rfl
theorem wrO_solo (i : Nat) (cs : List Value) (ln off : Nat) (vs : List Value) : wrO h i (.cells cs .solo ln) off vs = if off + vs.length ≤ cs.length then some (h.set i (.cells (putL cs off vs) .solo ln)) else none := rfl
theorem wrO_tip (i : Nat) (cs : List Value) (ln off : Nat) (vs : List Value) : wrO h i (.cells cs .tip ln) off vs = if off + vs.length ≤ cs.length then some ((h.kill ln).set i (.cells (putL cs off vs) .tip ln)) else none := rfl
theorem onS_ite {α : Type} (c : Prop) [Decidable c] (a : α) (X : α → Prop) : onS (if c then some a else none) X = (c ∧ X a) := by by_cases e : c <;> simp [onS, e]
theorem onS_none {α : Type} (X : α → Prop) : onS (none : Option α) X = False := rfl
theorem putL_nil (cs : List Value) (o : Nat) : putL cs o [] = cs := rfl
theorem putL_cons (cs : List Value) (o : Nat) (v : Value) (r : List Value) : putL cs o (v :: r) = putL (cs.set o v) (o + 1) r := rfl
theorem alloc_same (o : AOb) : (h.alloc o).ob h.n = o := by simp [AH.alloc]
theorem alloc_of (o : AOb) {i : Nat} (e : i = h.n) : (h.alloc o).ob i = o := by simp [AH.alloc, e]
theorem alloc_lt (o : AOb) {i : Nat} (e : i < h.n) : (h.alloc o).ob i = h.ob i := by simp [AH.alloc, Nat.ne_of_lt e]
theorem set_same (i : Nat) (o : AOb) : (h.set i o).ob i = o := by simp [AH.set]
theorem set_lt (o : AOb) {i j : Nat} (e : j < i) : (h.set i o).ob j = h.ob j := by simp [AH.set, Nat.ne_of_lt e]
theorem set_gt (o : AOb) {i j : Nat} (e : i < j) : (h.set i o).ob j = h.ob j := by simp [AH.set, (Nat.ne_of_lt e).symm]
theorem set_ne (o : AOb) {i j : Nat} (e : j ≠ i) : (h.set i o).ob j = h.ob j := by simp [AH.set, e]
theorem alloc_n (o : AOb) : (h.alloc o).n = h.n + 1 := rfl
theorem set_n (i : Nat) (o : AOb) : (h.set i o).n = h.n := rfl
theorem kill_n (i : Nat) : (h.kill i).n = h.n := rfl
theorem lt_alloc (o : AOb) : h.n < (h.alloc o).n := Nat.lt_succ_self _
theorem lt_alloc_of (o : AOb) {i : Nat} (e : i < h.n) : i < (h.alloc o).n := Nat.lt_succ_of_lt e
theorem le_alloc (o : AOb) : h.n ≤ (h.alloc o).n := Nat.le_succ _
/-- The heap has only grown. -/
structure Pre (h h' : AH) : Prop where
  n : h.n ≤ h'.n
  ob : ∀ i, i < h.n → h'.ob i = h.ob i
theorem Pre.refl (h : AH) : Pre h h := ⟨Nat.le_refl _, fun _ _ => rfl⟩
theorem Pre.trans {a b c : AH} (x : Pre a b) (y : Pre b c) : Pre a c := ⟨Nat.le_trans x.n y.n, fun i hi => (y.ob i (Nat.lt_of_lt_of_le hi x.n)).trans (x.ob i hi)⟩
theorem Pre.alloc {a b : AH} (x : Pre a b) (o : AOb) : Pre a (b.alloc o) := ⟨Nat.le_trans x.n (le_alloc o), fun i hi => (alloc_lt o (Nat.lt_of_lt_of_le hi x.n)).trans (x.ob i hi)⟩
theorem Pre.set {a b : AH} (x : Pre a b) {i : Nat} (hi : a.n ≤ i) (o : AOb) : Pre a (b.set i o) := ⟨x.n, fun j hj => (set_lt o (by omega)).trans (x.ob j hj)⟩
theorem Pre.lt {a b : AH} (x : Pre a b) {i : Nat} (hi : i < a.n) : i < b.n := Nat.lt_of_lt_of_le hi x.n

/-! values' cells -/
theorem cells_int (k : IntKind) (n : Int) : (Value.int k n).cells = #[.int k n] := rfl
theorem cells_bool (b : Bool) : (Value.bool b).cells = #[.bool b] := rfl
theorem cells_string (s : ByteArray) : (Value.string s).cells = #[.string s] := rfl
theorem cells_slice (A : Option Addr) (n c : Nat) : (Value.slice A n c).cells = #[.slice A n c] := rfl
theorem cells_ptr (a : Option Addr) : (Value.pointer a).cells = #[.pointer a] := rfl
theorem cells_map (a : Option Nat) : (Value.map a).cells = #[.map a] := rfl
theorem cells_func (f : Fn) (a b : Array Value) : (Value.func f a b).cells = #[.func f a b] := rfl
theorem cells_agg (a : Array Value) : (Value.agg a).cells = a := rfl
theorem one_int (k : IntKind) (n : Int) : one (.int k n) = true := rfl
theorem one_bool (b : Bool) : one (.bool b) = true := rfl
theorem one_string (s : ByteArray) : one (.string s) = true := rfl
theorem one_slice (A : Option Addr) (n c : Nat) : one (.slice A n c) = true := rfl
theorem one_ptr (a : Option Addr) : one (.pointer a) = true := rfl
theorem one_map (a : Option Nat) : one (.map a) = true := rfl
theorem one_func (f : Fn) (a b : Array Value) : one (.func f a b) = true := rfl

/-! literals, makes, cuts, appends, conversions -/
@[congr] theorem abuild_congr {tk : Prop} (_ : tick = tk) {t t2 : TypeId} {l l2 : List (Nat × Value)} {K : Value → Prop} (et : t = t2) (el : l = l2) : abuild P t l K = abuild P t2 l2 K := by subst et; subst el; rfl
theorem abuild_eq (t : TypeId) (l : List (Nat × Value)) (K : Value → Prop) : abuild P t l K = onS (sti P t) fun i => afill (fun f => (fi P t f).map fun p => (p.1, p.2.1)) l i.zero fun cs => K (.agg cs.toArray) := by
  unfold abuild onS
  cases sti P t <;> rfl
@[congr] theorem afill_congr {tk : Prop} (_ : tick = tk) {pl pl2 : Nat → Option (Nat × Nat)} {l l2 : List (Nat × Value)} {cs cs2 : List Value} {K : List Value → Prop} (epl : pl = pl2) (el : l = l2) (ecs : cs = cs2) : afill pl l cs K = afill pl2 l2 cs2 K := by subst epl; subst el; subst ecs; rfl
theorem afill_nil (pl : Nat → Option (Nat × Nat)) (cs : List Value) (K : List Value → Prop) : afill pl [] cs K = K cs := rfl
theorem afill_cons (pl : Nat → Option (Nat × Nat)) (i : Nat) (v : Value) (r : List (Nat × Value)) (cs : List Value) (K : List Value → Prop) :
    afill pl ((i, v) :: r) cs K = onS (pl i) fun p => v.cells.size = p.2 ∧ v.cells.all one = true ∧ p.1 + p.2 ≤ cs.length ∧ afill pl r (putL cs p.1 v.cells.toList) K := by
  conv => lhs; unfold afill
  unfold onS
  cases pl i <;> rfl
@[congr] theorem abuildSlice_congr {tk : Prop} (_ : tick = tk) {h h2 : AH} {t t2 : TypeId} {n n2 : Nat} {l l2 : List (Nat × Value)} {K : Value → AH → Prop} (eh : h = h2) (et : t = t2) (en : n = n2) (el : l = l2) : abuildSlice P h t n l K = abuildSlice P h2 t2 n2 l2 K := by subst eh; subst et; subst en; subst el; rfl
theorem abuildSlice_eq (t : TypeId) (n : Nat) (l : List (Nat × Value)) (K : Value → AH → Prop) : abuildSlice P h t n l K = onS (si P t) fun p => 0 < p.2.size ∧ n * p.2.size ≤ 2 ^ 24 ∧
    afill (fun f => some (f * p.2.size, p.2.size)) l (zerosL (n * p.2.size) p.2.zero) fun cs => K (.slice (some ⟨h.n, 0, none⟩) n p.2.size) (h.alloc (.cells cs .solo h.n)) := by
  unfold abuildSlice onS
  cases si P t with
  | none => rfl
  | some p => obtain ⟨e, i⟩ := p; rfl
theorem pv_mk (ρ : Operand → Value) (i : Nat) (x : Operand) : pv ρ (i, x) = (i, ρ x) := rfl
theorem zerosL_0 (z : List Value) : zerosL 0 z = [] := rfl
theorem zerosL_1 (n : Nat) (z : Value) : zerosL n [z] = List.replicate n z := by
  apply List.ext_getElem
  · simp [zerosL]
  · intro i h1 h2; simp [zerosL, Nat.mod_one]
@[congr] theorem amake_congr {tk : Prop} (_ : tick = tk) {h h2 : AH} {t t2 : TypeId} {x x2 : Value} {y y2 : Value} {K : Value → AH → Prop} (eh : h = h2) (et : t = t2) (ex : x = x2) (ey : y = y2) : amake P h t x y K = amake P h2 t2 x2 y2 K := by subst eh; subst et; subst ex; subst ey; rfl
theorem amake_eq (t : TypeId) (n c : Int) (K : Value → AH → Prop) : amake P h t (.int .i64 n) (.int .i64 c) K = onS (si P t) fun p => 0 < p.2.size ∧ 0 ≤ n ∧ n ≤ c ∧ c < 274877906944 ∧ p.2.bytes ≤ 256 ∧
    K (.slice (some ⟨h.n, 0, none⟩) n.toNat p.2.size) (h.alloc (.cells (zerosL (n.toNat * p.2.size) p.2.zero) .solo h.n)) := by
  unfold amake onS
  cases si P t with
  | none => rfl
  | some p => obtain ⟨e, i⟩ := p; rfl
@[congr] theorem acut_congr {tk : Prop} (_ : tick = tk) {t t2 : TypeId} {x x2 : Value} {lo lo2 : Option Value} {hi hi2 : Option Value} {mx mx2 : Option Value} {K : Value → Prop} (et : t = t2) (ex : x = x2) (elo : lo = lo2) (ehi : hi = hi2) (emx : mx = mx2) : acut P t x lo hi mx K = acut P t2 x2 lo2 hi2 mx2 K := by subst et; subst ex; subst elo; subst ehi; subst emx; rfl
theorem bnd_none (d : Nat) : bnd none d = some (d : Int) := rfl
theorem bnd_int (k : IntKind) (n : Int) (d : Nat) : bnd (some (.int k n)) d = some n := rfl
theorem acut_str (t : TypeId) (s : ByteArray) (lo hi : Option Value) (K : Value → Prop) : acut P t (.string s) lo hi none K = (P.underlying t = some .string ∧
    onS (bnd lo 0) fun l => onS (bnd hi s.size) fun u => 0 ≤ l ∧ l ≤ u ∧ u ≤ (s.size : Int) ∧ K (.string (s.extract l.toNat u.toNat))) := by
  unfold acut onS
  simp only [Option.isNone_none, true_and]
  cases bnd lo 0 <;> cases bnd hi s.size <;> rfl
theorem acut_sl (t : TypeId) (id off n k : Nat) (lo hi : Option Value) (K : Value → Prop) : acut P t (.slice (some ⟨id, off, none⟩) n k) lo hi none K = onS (si P t) fun p => k = p.2.size ∧
    onS (bnd lo 0) fun l => onS (bnd hi n) fun u => 0 ≤ l ∧ l ≤ u ∧ u ≤ (n : Int) ∧ K (.slice (some ⟨id, off + l.toNat * p.2.size, none⟩) (u.toNat - l.toNat) k) := by
  unfold acut onS
  cases si P t with
  | none => rfl
  | some p =>
    obtain ⟨e, i⟩ := p
    simp only [Option.isSome_none, Bool.false_eq_true, false_implies, true_and, bnd_none]
    cases bnd lo 0 <;> cases bnd hi n <;> rfl
@[congr] theorem alookup_congr {tk : Prop} (_ : tick = tk) {h h2 : AH} {t t2 : TypeId} {x x2 y y2 : Value} {ok ok2 : Bool} {K : Value → Prop} (eh : h = h2) (et : t = t2) (ex : x = x2) (ey : y = y2) (eo : ok = ok2) : alookup P h t x y ok K = alookup P h2 t2 x2 y2 ok2 K := by subst eh; subst et; subst ex; subst ey; subst eo; rfl
@[congr] theorem amapset_congr {tk : Prop} (_ : tick = tk) {h h2 : AH} {t t2 : TypeId} {x x2 y y2 z z2 : Value} {K : AH → Prop} (eh : h = h2) (et : t = t2) (ex : x = x2) (ey : y = y2) (ez : z = z2) : amapset P h t x y z K = amapset P h2 t2 x2 y2 z2 K := by subst eh; subst et; subst ex; subst ey; subst ez; rfl
@[congr] theorem acap_congr {tk : Prop} (_ : tick = tk) {t t2 : TypeId} {x x2 : Value} {K : Value → Prop} (et : t = t2) (ex : x = x2) : acap P t x K = acap P t2 x2 K := by subst et; subst ex; rfl
theorem acap_nil (t : TypeId) (c : Nat) (K : Value → Prop) : acap P t (.slice none 0 c) K = onS (si P t) fun _ => K (.int .i64 0) := by
  unfold acap onS
  cases si P t <;> rfl
def notInt (o : Option TypeDesc) : Prop := (∀ k, o ≠ some (.int k)) ∧ o.isSome = true
theorem notInt_slice (e : TypeId) : notInt (some (.slice e)) = True := by simp [notInt]
theorem notInt_string : notInt (some .string) = True := by simp [notInt]
@[congr] theorem aappend_congr {tk : Prop} (_ : tick = tk) {h h2 : AH} {t t2 : TypeId} {u u2 : TypeId} {x x2 : Value} {y y2 : Value} {K : Value → AH → Prop} (eh : h = h2) (et : t = t2) (eu : u = u2) (ex : x = x2) (ey : y = y2) : aappend P h t u x y K = aappend P h2 t2 u2 x2 y2 K := by subst eh; subst et; subst eu; subst ex; subst ey; rfl
def convT (a b : Option TypeDesc) (P : Program) (h : AH) (x : Value) (K : Value → AH → Prop) : Prop :=
  match a, b, x with
  | some _, some (.int k), .int _ n => K (.int k (k.wrap n)) h
  | some .string, some .string, .string s => K (.string s) h
  | some _, some (.slice e), .string s => P.underlying e = some (.int .u8) ∧ K (.slice (some ⟨h.n, 0, none⟩) s.size 1) (h.alloc (.cells (bytesV s) .solo h.n))
  | some (.slice e), some .string, .slice Option.none 0 _ => P.underlying e = some (.int .u8) ∧ K (.string ByteArray.empty) h
  | some (.slice e), some .string, .slice (some ⟨id, off, Option.none⟩) n _ => P.underlying e = some (.int .u8) ∧
      (match (rd h id off n).bind toBytes with | some l => K (.string ⟨l.toArray⟩) h | none => False)
  | _, _, _ => False
@[congr] theorem aconv_congr {tk : Prop} (_ : tick = tk) {h h2 : AH} {s s2 : TypeId} {d d2 : TypeId} {x x2 : Value} {K : Value → AH → Prop} (eh : h = h2) (es : s = s2) (ed : d = d2) (ex : x = x2) : aconv P h s d x K = aconv P h2 s2 d2 x2 K := by subst eh; subst es; subst ed; subst ex; rfl
@[congr] theorem convT_congr {tk : Prop} (_ : tick = tk) {a a2 : Option TypeDesc} {b b2 : Option TypeDesc} {h h2 : AH} {x x2 : Value} {K : Value → AH → Prop} (ea : a = a2) (eb : b = b2) (eh : h = h2) (ex : x = x2) : convT a b P h x K = convT a2 b2 P h2 x2 K := by subst ea; subst eb; subst eh; subst ex; rfl
theorem aconv_eq (s d : TypeId) (x : Value) (K : Value → AH → Prop) : aconv P h s d x K = convT (P.underlying s) (P.underlying d) P h x K := rfl
theorem convT_int (d : TypeDesc) (k k' : IntKind) (n : Int) (K : Value → AH → Prop) : convT (some d) (some (.int k)) P h (.int k' n) K = K (.int k (k.wrap n)) h := by cases d <;> rfl
theorem convT_str (s : ByteArray) (K : Value → AH → Prop) : convT (some .string) (some .string) P h (.string s) K = K (.string s) h := rfl
theorem convT_sb (d : TypeDesc) (e : TypeId) (s : ByteArray) (K : Value → AH → Prop) : convT (some d) (some (.slice e)) P h (.string s) K =
    (P.underlying e = some (.int .u8) ∧ K (.slice (some ⟨h.n, 0, none⟩) s.size 1) (h.alloc (.cells (bytesV s) .solo h.n))) := by cases d <;> rfl
theorem convT_bs (e id off n c : Nat) (K : Value → AH → Prop) : convT (some (.slice e)) (some .string) P h (.slice (some ⟨id, off, none⟩) n c) K =
    (P.underlying e = some (.int .u8) ∧ onS ((rd h id off n).bind toBytes) fun l => K (.string ⟨l.toArray⟩) h) := by
  change (P.underlying e = some (.int .u8) ∧ (match (rd h id off n).bind toBytes with | some l => K (.string ⟨l.toArray⟩) h | none => False)) = _
  unfold onS
  cases (rd h id off n).bind toBytes <;> rfl

theorem rd_of {i : Nat} {o : AOb} (e : h.ob i = o) (off n : Nat) : rd h i off n = rdO o off n := by rw [rd_eq, e]
theorem rd1_of {i : Nat} {o : AOb} (e : h.ob i = o) (off : Nat) : rd1 h i off = rd1O o off := by rw [rd1_eq, e]
theorem rd_alloc_same (o : AOb) (off n : Nat) : rd (h.alloc o) h.n off n = rdO o off n := rd_of (alloc_same o) _ _
theorem rd1_alloc_same (o : AOb) (off : Nat) : rd1 (h.alloc o) h.n off = rd1O o off := rd1_of (alloc_same o) _
theorem rd_alloc_lt (o : AOb) {i : Nat} (e : i < h.n) (off n : Nat) : rd (h.alloc o) i off n = rd h i off n := by rw [rd_eq, rd_eq, alloc_lt o e]
theorem rd1_alloc_lt (o : AOb) {i : Nat} (e : i < h.n) (off : Nat) : rd1 (h.alloc o) i off = rd1 h i off := by rw [rd1_eq, rd1_eq, alloc_lt o e]
theorem rd_set_same (i : Nat) (o : AOb) (off n : Nat) : rd (h.set i o) i off n = rdO o off n := rd_of (set_same i o) _ _
theorem rd1_set_same (i : Nat) (o : AOb) (off : Nat) : rd1 (h.set i o) i off = rd1O o off := rd1_of (set_same i o) _
theorem rd_set_lt (o : AOb) {i j : Nat} (e : j < i) (off n : Nat) : rd (h.set i o) j off n = rd h j off n := by rw [rd_eq, rd_eq, set_lt o e]
theorem rd1_set_lt (o : AOb) {i j : Nat} (e : j < i) (off : Nat) : rd1 (h.set i o) j off = rd1 h j off := by rw [rd1_eq, rd1_eq, set_lt o e]
theorem rd_set_gt (o : AOb) {i j : Nat} (e : i < j) (off n : Nat) : rd (h.set i o) j off n = rd h j off n := by rw [rd_eq, rd_eq, set_gt o e]
theorem rd1_set_gt (o : AOb) {i j : Nat} (e : i < j) (off : Nat) : rd1 (h.set i o) j off = rd1 h j off := by rw [rd1_eq, rd1_eq, set_gt o e]
theorem nadd (h : AH) (a b : Nat) : h.n + a + b = h.n + (a + b) := Nat.add_assoc _ _ _
theorem nlt (h : AH) {a b : Nat} (e : a < b) : (h.n + a < h.n + b) = True := by simp [e]
theorem nlt0 (h : AH) {b : Nat} (e : 0 < b) : (h.n < h.n + b) = True := by simp [e]
theorem nltl {h : AH} {p : Nat} (b : Nat) (e : p < h.n) : (p < h.n + b) = True := by simp; omega
theorem neq (h : AH) (a b : Nat) : (h.n + a = h.n + b) = (a = b) := by simp
theorem neq0 (h : AH) (b : Nat) : (h.n = h.n + b) = (b = 0) := by apply propext; omega
theorem alloc_eq (o : AOb) {i : Nat} (e : i = h.n) : (h.alloc o).ob i = o := by rw [e]; exact alloc_same o
theorem rd_alloc_eq (o : AOb) {i : Nat} (e : i = h.n) (off n : Nat) : rd (h.alloc o) i off n = rdO o off n := by rw [e]; exact rd_alloc_same o off n
theorem rd1_alloc_eq (o : AOb) {i : Nat} (e : i = h.n) (off : Nat) : rd1 (h.alloc o) i off = rd1O o off := by rw [e]; exact rd1_alloc_same o off
theorem alloc_n' (o : AOb) : (h.alloc o).n = h.n + 1 := rfl
theorem set_n' (i : Nat) (o : AOb) : (h.set i o).n = h.n := rfl
theorem kill_n' (i : Nat) : (h.kill i).n = h.n := rfl
attribute [push_cast] nadd nlt nlt0 nltl neq neq0 alloc_eq rd_alloc_eq rd1_alloc_eq alloc_n' set_n' kill_n'
attribute [push_cast] tick_eq abinT_agge abinT_aggn abinT_int abinT_str abinT_beq abinT_bne onS_some onS_ite onS_none onB_bool onB_undef pick2_true pick2_false pick2_bool ag_yes ag_no thn_normal thn_ret thn_exit blk_normal blk_ret blk_exit eqN_same wpc_seq wpc_skip wpc_ret wpc_exit
  wpc_label wpc_region wpc_draw wpc_loop wpc_block wpc_cond aops_nil aops_cons aops_guard aev_tmp aev_const aev_global aev_func put_some put_none aop_move aop_assign aop_pick aop_alloc aop_box aop_build aop_buildSlice
  aop_lookup aop_mapUpdate aop_load aop_store anil_ptr aop_nilCheck aop_binOp aop_unOp aop_convert aop_makeFunc aop_makeMap aop_makeSlice aop_slice aop_fieldAddr aop_field aop_indexAddr aop_index aop_extract aop_call aop_builtin
  noArr_string noArr_slice acall_func abuiltin_append abuiltin_cap acap_nil abuiltin_len abuiltin_min abuiltin_max
  abin_add abin_sub abin_mul abin_quo abin_rem abin_and abin_or abin_xor abin_shl abin_shr abin_eql abin_neq abin_lss abin_leq abin_gtr abin_geq abin_adds abin_eqls abin_neqs abin_lsss abin_leqs abin_gtrs abin_geqs aun_not aun_neg
  aload_ptr aloadT_one aloadT_agg astore_ptr astoreT_some afieldAddr_ptr afa_some afield_agg afl_one afl_agg aindexAddr_sl aixT_some aindex_str aextract_tuple alen_eq alenT_str alenT_sl
  bodyQ_ret bodyQ_normal ares_nil ares_tmp ares_cell packed_one packed_two packed_three packed_nil wr_eq rd_alloc_same rd1_alloc_same rd_alloc_lt rd1_alloc_lt rd_set_same rd1_set_same rd_set_lt rd1_set_lt rd_set_gt rd1_set_gt rdO_cells rd1O_cells wrO_solo putL_nil putL_cons alloc_same alloc_lt set_same set_lt set_gt
  cells_int cells_bool cells_string cells_slice cells_ptr cells_map cells_func cells_agg one_int one_bool one_string one_slice one_ptr one_map one_func
  abuild_eq afill_nil afill_cons abuildSlice_eq pv_mk zerosL_0 zerosL_1 amake_eq bnd_none bnd_int acut_str acut_sl notInt_slice notInt_string aconv_eq convT_int convT_str convT_sb convT_bs
  bcase_true bcase_false bcase_not gd_succ gd_zero
  List.map_cons List.map_nil List.getElem?_cons_succ List.getElem?_cons_zero Option.bind_some List.getD_cons_succ List.getD_cons_zero List.set_cons_succ List.set_cons_zero List.length_cons List.length_nil
  List.all_cons List.all_nil Bool.and_true Bool.true_and List.size_toArray Option.map_some Option.map_none true_and and_true List.append_nil List.nil_append List.cons_append
  List.drop_zero List.drop_succ_cons List.take_succ_cons List.take_zero List.take_nil List.drop_nil List.getElem?_toArray List.all_toArray

end Go.Sim
/- Rules for the walks: slices of a function's own, appends to them, loops, calls. Conditions: those that each theorem names. -/
set_option linter.unusedVariables false
set_option linter.unusedSimpArgs false
namespace Go.Sim
variable {P : Program} {h : AH}

/-- A slice that may be appended to: object, first cell, how many elements of so many cells, and the cells. -/
structure Own (h : AH) (id off n k : Nat) (cs : List Value) : Prop where
  lt : id < h.n
  len : cs.length = n * k
  ob : ∃ all st ln, h.ob id = .cells all st ln ∧ (st = .solo ∨ st = .tip) ∧ off + n * k = all.length ∧ all.drop off = cs

theorem Own.alloc {id off n k : Nat} {cs : List Value} (w : Own h id off n k cs) (o : AOb) : Own (h.alloc o) id off n k cs :=
  ⟨lt_alloc_of o w.lt, w.len, by rw [alloc_lt o w.lt]; exact w.ob⟩
theorem Own.same {h' : AH} {id off n k : Nat} {cs : List Value} (w : Own h id off n k cs) (e : h'.ob id = h.ob id) (hn : h.n ≤ h'.n) : Own h' id off n k cs :=
  ⟨Nat.lt_of_lt_of_le w.lt hn, w.len, by rw [e]; exact w.ob⟩
theorem Own.pre {h' : AH} {id off n k : Nat} {cs : List Value} (w : Own h id off n k cs) (x : Pre h h') : Own h' id off n k cs := w.same (x.ob _ w.lt) x.n
/-- A new literal or make. -/
theorem Own.new (cs : List Value) (n k : Nat) (e : cs.length = n * k) : Own (h.alloc (.cells cs .solo h.n)) h.n 0 n k cs :=
  ⟨lt_alloc _, e, cs, .solo, h.n, alloc_same _, .inl rfl, by omega, rfl⟩
/-- What an own slice reads as. -/
theorem Own.rd {id off n k : Nat} {cs : List Value} (w : Own h id off n k cs) {lo m : Nat} (hb : lo + m ≤ n * k) : rd h id (off + lo) m = some ((cs.drop lo).take m) := by
  obtain ⟨all, st, ln, ho, _, hl, rfl⟩ := w.ob
  rw [rd_eq, ho, rdO_cells, if_pos (by omega)]
  simp [List.drop_drop]
theorem Own.rdAll {id off n k : Nat} {cs : List Value} (w : Own h id off n k cs) : Sim.rd h id off (n * k) = some cs := by
  have := w.rd (lo := 0) (m := n * k) (by omega)
  rw [Nat.add_zero] at this
  rw [this, List.drop_zero, List.take_of_length_le (by rw [w.len]; exact Nat.le_refl _)]
theorem Own.rd1 {id off n k : Nat} {cs : List Value} (w : Own h id off n k cs) {j : Nat} (hj : j < n * k) : rd1 h id (off + j) = some (cs.getD j undef) := by
  obtain ⟨all, st, ln, ho, _, hl, rfl⟩ := w.ob
  rw [rd1_eq, ho, rd1O_cells, List.getElem?_eq_getElem (by omega)]
  simp [List.getD, show off + j < all.length by omega]

/-- An append to a slice of the function's own. -/
theorem app_own {t u e : TypeId} {s b : Nat} {z : List Value} {ag : Bool} {id off n : Nat} {cs new : List Value} {m : Nat} {x : Value} {K : Value → AH → Prop}
    (hs : si P t = some (e, ⟨s, b, z, ag⟩)) (hpos : 0 < s) (hby : b ≤ 256) (hu : notInt (P.underlying u)) (w : Own h id off n s cs) (hx : asrc h s x = some (m, new)) (hm : new.length = m * s) (hb : n + m < 274877906944)
    (hk : ∀ h', Own h' h.n 0 (n + m) s (cs ++ new) → h'.n = h.n + 1 → (∀ i, i < h.n → i ≠ id → h'.ob i = h.ob i) → K (.slice (some ⟨h.n, 0, none⟩) (n + m) s) h') :
    aappend P h t u (.slice (some ⟨id, off, none⟩) n s) x K := by
  obtain ⟨all, st, ln, ho, hst, hl, rfl⟩ := w.ob
  have hne : h.n ≠ id := fun e => by have := w.lt; omega
  refine aapp_to ?_
  unfold aapp
  rw [hs]
  simp only [hx]
  refine ⟨hpos, hby, hu.1, hu.2, ?_⟩
  have hap : apd h id off n s new = some ((h.set id (.cells all .old ln)).alloc (.cells (all.drop off ++ new) .tip ln)) := by
    unfold apd
    rw [ho]
    rcases hst with rfl | rfl <;> simp [hl]
  simp only [hap]
  refine ⟨trivial, hb, ?_⟩
  refine hk ((h.set id (.cells all .old ln)).alloc (.cells (all.drop off ++ new) .tip ln)) ⟨Nat.lt_succ_self h.n, by rw [List.length_append, hm, w.len, Nat.add_mul], all.drop off ++ new, .tip, ln, alloc_same (h := h.set id (.cells all .old ln)) _, .inr rfl, ?_, rfl⟩ rfl (fun i hi hne' => ?_)
  · rw [List.length_append, hm, w.len, Nat.add_mul]; omega
  · rw [alloc_lt _ (show i < (h.set id (.cells all .old ln)).n from hi), set_ne _ hne']

/-- An append to nothing. -/
theorem app_nil {t u e : TypeId} {s b : Nat} {z : List Value} {ag : Bool} {new : List Value} {m c : Nat} {x : Value} {K : Value → AH → Prop}
    (hs : si P t = some (e, ⟨s, b, z, ag⟩)) (hpos : 0 < s) (hby : b ≤ 256) (hu : notInt (P.underlying u)) (hx : asrc h s x = some (m, new)) (hm : new.length = m * s) (hb : m < 274877906944) (h0 : 0 < m)
    (hk : ∀ h', Own h' h.n 0 m s new → h'.n = h.n + 1 → (∀ i, i < h.n → h'.ob i = h.ob i) → K (.slice (some ⟨h.n, 0, none⟩) m s) h') :
    aappend P h t u (.slice none 0 c) x K := by
  refine aapp_to ?_
  unfold aapp
  simp only [hs, hx]
  exact ⟨hpos, hby, hu.1, hu.2, hb, .inl ⟨h0, hk _ (Own.new new m s hm) rfl (fun i hi => alloc_lt _ hi)⟩⟩

/-- What is appended where it is one new element. -/
theorem asrc_new (cs : List Value) (s n c : Nat) (e : cs.length = n * s) : asrc (h.alloc (.cells cs .solo h.n)) s (.slice (some ⟨h.n, 0, none⟩) n c) = some (n, cs) := by
  unfold asrc
  simp only [rd_eq, alloc_same, rdO_cells]
  rw [if_pos (by omega)]
  simp [← e]
theorem asrc_own {id off n k c : Nat} {cs : List Value} (w : Own h id off n k cs) : asrc h k (.slice (some ⟨id, off, none⟩) n c) = some (n, cs) := by
  unfold asrc; simp [w.rdAll]
theorem asrc_str (s : ByteArray) : asrc h 1 (.string s) = some (s.size, bytesV s) := rfl
theorem asrc_nil (k c : Nat) : asrc h k (.slice none 0 c) = some (0, []) := rfl

theorem toBytes_map : ∀ (l : List UInt8), toBytes (l.map fun b => .int .u8 b.toNat) = some l
  | [] => rfl
  | b :: r => by simp [toBytes, toBytes_map r]
theorem toBytes_append : ∀ (a b : List Value), toBytes (a ++ b) = (toBytes a).bind fun x => (toBytes b).map (x ++ ·)
  | [], b => by
    have e : toBytes ([] : List Value) = some [] := rfl
    rw [List.nil_append, e]
    cases toBytes b <;> rfl
  | v :: r, b => by
    cases v <;> first | rfl | skip
    rename_i k n
    cases k <;> first | rfl | skip
    simp only [List.cons_append, toBytes, toBytes_append r b]
    cases toBytes r <;> cases toBytes b <;> simp

/-- A function, out of the walk of its body: its temporaries laid out. -/
theorem CC.of' {f : FuncId} {fn : Func} {c : Code} {args : List Value} {R : Value → AH → Prop} {n : Nat} {rs : Array ResultVar} (hf : P.funcs[f]? = some fn) (hn : fn.ntmps = n) (hr : fn.results = rs) (hb : fn.body = some c)
    (hnm : fn.name ≠ "runtime.NumGoroutine") (hok : codeOK P.globals.size c = true) (hw : wpc P c (bodyQ P rs.toList R) (args ++ List.replicate (n - args.length) undef) h) : CC P f args h R := by
  subst hn; subst hr; exact CC.of hf hb hnm hok hw

theorem CE.of' {f : FuncId} {fn : Func} {c : Code} {args : List Value} {R : Value → AH → Prop} {n : Nat} {rs : Array ResultVar} (hf : P.funcs[f]? = some fn) (hn : fn.ntmps = n) (hr : fn.results = rs) (hb : fn.body = some c)
    (hok : codeOK P.globals.size c = true) (hw : wpc P c (bodyQ P rs.toList R) (args ++ List.replicate (n - args.length) undef) h) : CE P f args h R := by
  subst hn; subst hr; exact CE.of hf hb hok hw

end Go.Sim
/- Exact contracts: what a call gives and the heap then, each one thing; objects that nothing leads to any more are forgotten. Conditions: those that each theorem names. -/
set_option linter.unusedVariables false
set_option linter.unusedSimpArgs false
namespace Go.Sim
variable {P : Program} {FB : Nat → Prop} {w0 : World} {μ : Nat → Option Loc} {h : AH} {w : World}

/-- Values all of whose objects are elder than n. -/
inductive Low (n : Nat) : Value → Prop
  | plain (v : Value) (h : isPlain v = true) : Low n v
  | ptr (i off : Nat) (h : i < n) : Low n (.pointer (some ⟨i, off, none⟩))
  | sl (i off m k : Nat) (h : i < n) : Low n (.slice (some ⟨i, off, none⟩) m k)
  | sl0 (c : Nat) : Low n (.slice none 0 c)
  | map (i : Nat) (h : i < n) : Low n (.map (some i))
  | func (fn : Fn) (f c : Array Value) (hf : ∀ j (hj : j < f.size), Low n f[j]) (hc : ∀ j (hj : j < c.size), Low n c[j]) : Low n (.func fn f c)
  | agg (a : Array Value) (h : ∀ j (hj : j < a.size), Low n a[j]) : Low n (.agg a)
  | tuple (a : Array Value) (h : ∀ j (hj : j < a.size), Low n a[j]) : Low n (.tuple a)

theorem VR.low {μ μ' : Nat → Option Loc} {n : Nat} (hx : ∀ i l, i < n → μ i = some l → μ' i = some l) {v c : Value} (hv : VR μ v c) : Low n v → VR μ' v c := by
  induction hv with
  | plain v h => exact fun _ => .plain v h
  | ptr i off l h => exact fun q => by cases q with
    | plain _ hp => simp [isPlain] at hp
    | ptr _ _ hi => exact .ptr i off l (hx i l hi h)
  | sl i off n k cap l h hn hr => exact fun q => by cases q with
    | plain _ hp => simp [isPlain] at hp
    | sl _ _ _ _ hi => exact .sl i off n k cap l (hx i l hi h) hn hr
  | slz i off k l h ho A' => exact fun q => by cases q with
    | plain _ hp => simp [isPlain] at hp
    | sl _ _ _ _ hi => exact .slz i off k l (hx i l hi h) ho A'
  | sl0 A' c => exact fun _ => .sl0 A' c
  | map i l h => exact fun q => by cases q with
    | plain _ hp => simp [isPlain] at hp
    | map _ hi => exact .map i l (hx i l hi h)
  | func fn f f' c c' hf hc _ _ ef ec => exact fun q => by cases q with
    | plain _ hp => simp [isPlain] at hp
    | func _ _ _ q1 q2 => exact .func fn f f' c c' hf hc (fun j a b => ef j a b (q1 j a)) (fun j a b => ec j a b (q2 j a))
  | agg a a' hs _ e => exact fun q => by cases q with
    | plain _ hp => simp [isPlain] at hp
    | agg _ q1 => exact .agg a a' hs (fun j x y => e j x y (q1 j x))
  | tuple a a' hs _ e => exact fun q => by cases q with
    | plain _ hp =>
      refine .tuple a a' hs (fun j x y => ?_)
      simp [isPlain] at hp; subst hp; simp at x
    | tuple _ q1 => exact .tuple a a' hs (fun j x y => e j x y (q1 j x))

theorem VR.toLow {μ : Nat → Option Loc} {n : Nat} (hd : ∀ i l, μ i = some l → i < n) {v c : Value} (hv : VR μ v c) : Low n v := by
  induction hv with
  | plain v h => exact .plain v h
  | ptr i off l h => exact .ptr i off (hd i l h)
  | sl i off n k cap l h hn hr => exact .sl i off _ k (hd i l h)
  | slz i off k l h ho A' => exact .sl i off 0 k (hd i l h)
  | sl0 A' c => exact .sl0 c
  | map i l h => exact .map i (hd i l h)
  | func fn f f' c c' hf hc _ _ ef ec => exact .func fn f c (fun j a => ef j a (by rw [← hf]; exact a)) (fun j a => ec j a (by rw [← hc]; exact a))
  | agg a a' hs _ e => exact .agg a (fun j x => e j x (by rw [← hs]; exact x))
  | tuple a a' hs _ e => exact .tuple a (fun j x => e j x (by rw [← hs]; exact x))

/-- An object whose values are elder than n. -/
def LowOb (n : Nat) : AOb → Prop
  | .none => True
  | .cells cs _ _ => ∀ v ∈ cs, Low n v
  | .map es => ∀ p ∈ es, Low n p.2

/-- What is new is forgotten. -/
theorem Sim.trunc {h' H : AH} {μ' : Nat → Option Loc} {w' : World} (s : Sim P FB w0 μ h w) (p : Post P FB w0 μ h μ' h' w') (hn : H.n = h.n) (hH : ∀ i, i < h.n → h'.ob i = H.ob i) (hb : ∀ i, h.n ≤ i → H.ob i = h.ob i)
    (hl : ∀ i, i < h.n → H.ob i = h.ob i ∨ LowOb h.n (H.ob i)) : Post P FB w0 μ h (fun i => if i < h.n then μ' i else none) H w' := by
  have hν : ∀ {i l}, (if i < h.n then μ' i else none) = some l → i < h.n ∧ μ' i = some l := fun {i l} e => by
    split at e
    · rename_i hi; exact ⟨hi, e⟩
    · cases e
  have hz : ∀ i, h.n ≤ i → H.ob i = .none := fun i hi => (hb i hi).trans (s.big i hi)
  have lt : ∀ {i}, H.ob i ≠ .none → i < h.n := fun {i} e => Nat.lt_of_not_le (fun hi => e (hz i hi))
  have ltown : ∀ {i n}, (H.ob i).own = some n → i < h.n ∧ (h'.ob i).own = some n := fun {i n} e => by
    have hi := lt (i := i) (fun e' => by rw [e'] at e; cases e)
    exact ⟨hi, by rw [hH i hi]; exact e⟩
  have q := p.sim
  have keep : ∀ {v c}, VR μ' v c → Low h.n v → VR (fun i => if i < h.n then μ' i else none) v c := fun hv hlow =>
    hv.low (fun i l hi e => by rw [if_pos hi]; exact e) hlow
  have lowc : ∀ {i l}, i < h.n → μ' i = some l → LowOb h.n (H.ob i) := fun {i l} hi e => by
    rcases hl i hi with e1 | e1
    · rw [e1]
      have hm : ∃ l0, μ i = some l0 := by
        cases e2 : μ i with
        | some l0 => exact ⟨l0, rfl⟩
        | none => rw [(p.unt.2 i hi e2).1] at e; cases e
      obtain ⟨l0, e2⟩ := hm
      cases e3 : h.ob i with
      | none => trivial
      | cells cs st ln =>
        intro v hv
        obtain ⟨j, hj, rfl⟩ := List.mem_iff_getElem.1 hv
        obtain ⟨cv, _, hr⟩ := s.cell i l0 cs st ln e2 e3 j hj
        exact hr.toLow s.dom
      | map es =>
        intro v hv
        obtain ⟨j, hj, rfl⟩ := List.mem_iff_getElem.1 hv
        obtain ⟨_, ents, _, _, hsz, hr⟩ := s.mp i l0 es e2 e3
        exact (hr j hj (by rw [← hsz]; exact hj)).2.2.toLow s.dom
    · exact e1
  refine ⟨?_, fun i l e => ?_, ?_⟩
  · refine { os := q.os, tape := q.tape, out := q.out, frame := q.frame, dom := fun i l e => by rw [hn]; exact (hν e).1, big := fun i hi => hz i (by rw [← hn]; exact hi), glob := ?_, tab := ?_, cell := ?_, blk := ?_, rob := ?_, onec := ?_, sep := ?_, tip := ?_, tipu := ?_, solo := ?_, lin := ?_, linc := ?_, mp := ?_, mpu := ?_ }
    · intro g hg
      obtain ⟨l, h1, h2⟩ := s.glob g hg
      exact ⟨l, by rw [if_pos (s.dom g l h1)]; exact p.ext g l h1, h2⟩
    · intro g c n hg ho
      obtain ⟨l, h1, _⟩ := s.glob g hg
      exact q.tab g c n hg (by rw [hH g (s.dom g l h1)]; exact ho)
    · intro i l cs st ln e eo j hj
      obtain ⟨hi, e'⟩ := hν e
      obtain ⟨cv, h1, h2⟩ := q.cell i l cs st ln e' (by rw [hH i hi]; exact eo) j hj
      have := lowc hi e'
      rw [eo] at this
      exact ⟨cv, h1, keep h2 (this _ (List.getElem_mem hj))⟩
    · intro i l cs st ln e eo
      obtain ⟨hi, e'⟩ := hν e
      exact q.blk i l cs st ln e' (by rw [hH i hi]; exact eo)
    · intro i l cs ln e eo hc
      obtain ⟨hi, e'⟩ := hν e
      exact q.rob i l cs ln e' (by rw [hH i hi]; exact eo) hc
    · intro i cs st ln eo
      have hi := lt (i := i) (by rw [eo]; exact fun e => AOb.noConfusion e)
      exact q.onec i cs st ln (by rw [hH i hi]; exact eo)
    · intro i j li lj ni nj ei ej oi oj
      exact q.sep i j li lj ni nj (hν ei).2 (hν ej).2 (ltown oi).2 (ltown oj).2
    · intro i j li lj ci cj sj ni nj ei ej oi oj hs
      exact q.tip i j li lj ci cj sj ni nj (hν ei).2 (hν ej).2 (by rw [hH i (hν ei).1]; exact oi) (by rw [hH j (hν ej).1]; exact oj) hs
    · intro i j ci cj n oi oj
      have hi := lt (i := i) (by rw [oi]; exact fun e => AOb.noConfusion e)
      have hj := lt (i := j) (by rw [oj]; exact fun e => AOb.noConfusion e)
      exact q.tipu i j ci cj n (by rw [hH i hi]; exact oi) (by rw [hH j hj]; exact oj)
    · intro i cs n oi
      have hi := lt (i := i) (by rw [oi]; exact fun e => AOb.noConfusion e)
      obtain ⟨a, b⟩ := q.solo i cs n (by rw [hH i hi]; exact oi)
      exact ⟨a, fun j hj => b j (ltown hj).2⟩
    · intro i n oi
      exact q.lin i n (ltown oi).2
    · intro i j n oi oj hne
      obtain ⟨hi, oi'⟩ := ltown oi
      obtain ⟨hj, oj'⟩ := ltown oj
      simp only [hi, hj, if_true] at hne ⊢
      exact q.linc i j n oi' oj' hne
    · intro i l es e eo
      obtain ⟨hi, e'⟩ := hν e
      obtain ⟨a, ents, clock, b, hsz, hr⟩ := q.mp i l es e' (by rw [hH i hi]; exact eo)
      have := lowc hi e'
      rw [eo] at this
      exact ⟨a, ents, clock, b, hsz, fun j hj hj' => ⟨(hr j hj hj').1, (hr j hj hj').2.1, keep (hr j hj hj').2.2 (this _ (List.getElem_mem hj))⟩⟩
    · intro i j li lj es es' ei ej oi oj
      exact q.mpu i j li lj es es' (hν ei).2 (hν ej).2 (by rw [hH i (hν ei).1]; exact oi) (by rw [hH j (hν ej).1]; exact oj)
  · rw [if_pos (s.dom i l e)]; exact p.ext i l e
  · refine ⟨Nat.le_of_eq hn.symm, fun i hi hm => ?_⟩
    obtain ⟨a, b⟩ := p.unt.2 i hi hm
    exact ⟨by show (if i < h.n then μ' i else none) = none; rw [if_pos hi]; exact a, by rw [← hH i hi]; exact b⟩

/-- What stays of a heap, of a call's: all that was there is as in H, what H does not know is forgotten. -/
structure Kp (h H h' : AH) : Prop where
  n : H.n = h.n
  ob : ∀ i, i < h.n → h'.ob i = H.ob i
  big : ∀ i, h.n ≤ i → H.ob i = h.ob i
  low : ∀ i, i < h.n → H.ob i = h.ob i ∨ LowOb h.n (H.ob i)

theorem CC.trunc {f : FuncId} {args : List Value} {R R' : Value → AH → Prop} (hc : CC P f args h R) (hR : ∀ v h', R v h' → ∃ H, Kp h H h' ∧ Low h.n v ∧ R' v H) : CC P f args h R' := by
  intro FB w0 μ w cargs o a K Q s ha hk
  refine hc FB w0 μ w cargs o a K Q s ha (fun v h' μ' cv w' r p hv => ?_)
  obtain ⟨H, k, hl, hr⟩ := hR v h' r
  exact hk v H _ cv w' hr (s.trunc p k.n k.ob k.big k.low) (hv.low (fun i l hi e => by rw [if_pos hi]; exact e) hl)

/-- An exact contract. -/
def CD (P : Program) (f : FuncId) (args : List Value) (h : AH) (V : Value) (H : AH) : Prop := CC P f args h fun v h' => v = V ∧ h' = H
theorem CD.to {f : FuncId} {args : List Value} {V : Value} {H : AH} {K : Value → AH → Prop} (hc : CD P f args h V H) (hk : K V H) : CC P f args h K :=
  CC.mono hc (fun _ _ ⟨a, b⟩ => a ▸ b ▸ hk)

/-- As it was, as far as it was. -/
def Keep (n : Nat) (H h' : AH) : Prop := ∀ i, i < n → h'.ob i = H.ob i
theorem Keep.refl (n : Nat) (h : AH) : Keep n h h := fun _ _ => rfl
theorem keep_refl (n : Nat) (h : AH) : Keep n h h = True := propext ⟨fun _ => trivial, fun _ _ _ => rfl⟩
theorem Keep.alloc {n : Nat} {H h' : AH} {o : AOb} (k : Keep n H h') (e : n ≤ h'.n) : Keep n H (h'.alloc o) := fun i hi => by
  rw [alloc_lt o (Nat.lt_of_lt_of_le hi e)]; exact k i hi
theorem Keep.set {n j : Nat} {H h' : AH} {o : AOb} (k : Keep n H h') (e : n ≤ j) : Keep n H (h'.set j o) := fun i hi => by
  rw [set_ne o (Nat.ne_of_lt (Nat.lt_of_lt_of_le hi e))]; exact k i hi
theorem Keep.pre {n : Nat} {H h' h'' : AH} (k : Keep n H h') (e : n ≤ h'.n) (p : Pre h' h'') : Keep n H h'' := fun i hi => by
  rw [p.ob i (Nat.lt_of_lt_of_le hi e)]; exact k i hi
theorem Keep.trans {n : Nat} {H h' h'' : AH} (k : Keep n H h') (k' : Keep n h' h'') : Keep n H h'' := fun i hi => (k' i hi).trans (k i hi)

/-- A contract that leaves the heap as it was. -/
theorem CC.quiet {f : FuncId} {args : List Value} {R : Value → Prop} (hc : CC P f args h fun v h' => R v ∧ Keep h.n h h') (hl : ∀ v, R v → Low h.n v) : CC P f args h fun v h' => R v ∧ h' = h :=
  hc.trunc (fun v h' ⟨r, k⟩ => ⟨h, ⟨rfl, k, fun _ _ => rfl, fun _ _ => .inl rfl⟩, hl v r, r, rfl⟩)
theorem CD.quiet {f : FuncId} {args : List Value} {V : Value} (hc : CC P f args h fun v h' => v = V ∧ Keep h.n h h') (hl : Low h.n V) : CD P f args h V h :=
  CC.quiet hc (fun v e => by rw [e]; exact hl)
/-- A contract that writes one object. -/
theorem CC.wrote {f : FuncId} {args : List Value} {R : Value → AOb → Prop} {p : Nat} (hp : p < h.n) (hc : CC P f args h fun v h' => ∃ o, R v o ∧ Keep h.n (h.set p o) h') (hl : ∀ v o, R v o → Low h.n v ∧ LowOb h.n o) :
    CC P f args h fun v h' => ∃ o, R v o ∧ h' = h.set p o :=
  hc.trunc (fun v h' ⟨o, r, k⟩ => ⟨h.set p o, ⟨rfl, k, fun i hi => set_ne o (by omega), fun i hi => by
    by_cases e : i = p
    · subst e; exact .inr (by rw [set_same]; exact (hl v o r).2)
    · exact .inl (set_ne o e)⟩, (hl v o r).1, o, r, rfl⟩)
theorem CD.wrote {f : FuncId} {args : List Value} {V : Value} {p : Nat} {o : AOb} (hp : p < h.n) (hc : CC P f args h fun v h' => v = V ∧ Keep h.n (h.set p o) h') (hl : Low h.n V) (hlo : LowOb h.n o) : CD P f args h V (h.set p o) :=
  (CC.wrote (R := fun v o' => v = V ∧ o' = o) hp (hc.mono (fun v h' ⟨a, b⟩ => ⟨o, ⟨a, rfl⟩, b⟩)) (fun v o' ⟨a, b⟩ => by subst a; subst b; exact ⟨hl, hlo⟩)).mono (fun v h' ⟨o', ⟨a, b⟩, c⟩ => ⟨a, by rw [← b]; exact c⟩)

/-! low values, by their form -/
theorem low_int (n : Nat) (k : IntKind) (x : Int) : Low n (.int k x) := .plain _ rfl
theorem low_bool (n : Nat) (x : Bool) : Low n (.bool x) := .plain _ rfl
theorem low_string (n : Nat) (x : ByteArray) : Low n (.string x) := .plain _ rfl
theorem low_nil (n : Nat) : Low n (.tuple #[]) := .plain _ rfl
theorem low_list {n : Nat} {a : Array Value} (h : ∀ v ∈ a.toList, Low n v) : ∀ j (hj : j < a.size), Low n a[j] := fun j hj => h _ (by simp)
theorem low_tuple {n : Nat} {l : List Value} (h : ∀ v ∈ l, Low n v) : Low n (.tuple l.toArray) := .tuple _ (low_list (by simpa using h))
theorem low_agg {n : Nat} {l : List Value} (h : ∀ v ∈ l, Low n v) : Low n (.agg l.toArray) := .agg _ (low_list (by simpa using h))

/-- A call that leaves all as it was, whatever else lies in memory: what it gives, and which objects it looks at. -/
def CQ (P : Program) (f : FuncId) (args : List Value) (h : AH) (X : Value → List Nat → Prop) : Prop :=
  ∃ v ids, (∀ h' : AH, (∀ id ∈ ids, h'.ob id = h.ob id) → CD P f args h' v h') ∧ X v ids
@[congr] theorem CQ_congr {tk : Prop} (_ : tick = tk) {f f2 : FuncId} {l l2 : List Value} {h h2 : AH} {X : Value → List Nat → Prop} (ef : f = f2) (el : l = l2) (eh : h = h2) : CQ P f l h X = CQ P f2 l2 h2 X := by subst ef; subst el; subst eh; rfl
theorem CQ.pure {f : FuncId} {args : List Value} {X : Value → List Nat → Prop} {V : Value} (hc : ∀ h', CD P f args h' V h') (hx : X V []) : CQ P f args h X := ⟨V, [], fun h' _ => hc h', hx⟩
theorem CQ.look {f : FuncId} {args : List Value} {X : Value → List Nat → Prop} {V : Value} (ids : List Nat) (hc : ∀ h' : AH, (∀ id ∈ ids, h'.ob id = h.ob id) → CD P f args h' V h') (hx : X V ids) : CQ P f args h X := ⟨V, ids, hc, hx⟩
end Go.Sim
/- Regions that draw their order: one walk that takes quiet operations first. Conditions: those that each theorem names. -/
set_option linter.unusedVariables false
set_option linter.unusedSimpArgs false
namespace Go.Sim
variable {P : Program} {FB : Nat → Prop} {w0 : World} {μ : Nat → Option Loc} {h : AH} {w : World}

/-! ### operations of which one value alone stands behind -/
theorem abin_det {op : BinOp} {x y : Value} {K : Value → Prop} (hk : abin op x y K) : ∃ v, K v ∧ ∀ K' : Value → Prop, K' v → abin op x y K' := by
  unfold abin at hk
  split at hk <;> first
    | exact hk.elim
    | exact ⟨_, hk.2.2, fun _ h => ⟨hk.1, hk.2.1, h⟩⟩
    | exact ⟨_, hk.2, fun _ h => ⟨hk.1, h⟩⟩
    | exact ⟨_, hk, fun _ h => h⟩
theorem aeq_det {op : BinOp} {t : TypeId} {x y : Value} {K : Value → Prop} (hk : aeq P op t x y K) : ∃ v, K v ∧ ∀ K' : Value → Prop, K' v → aeq P op t x y K' := by
  unfold aeq at hk ⊢
  generalize aeqB P t x y = ob at hk ⊢
  cases ob with
  | none => cases op <;> exact False.elim hk
  | some b => cases op <;> first | exact False.elim hk | exact ⟨_, hk, fun _ h => h⟩
theorem abinT_det {op : BinOp} {t : TypeId} {x y : Value} {K : Value → Prop} (hk : abinT P op t x y K) : ∃ v, K v ∧ ∀ K' : Value → Prop, K' v → abinT P op t x y K' := by
  cases x <;> first | exact aeq_det hk | exact abin_det hk
theorem aun_det {op : UnOp} {x : Value} {K : Value → Prop} (hk : aun op x K) : ∃ v, K v ∧ ∀ K' : Value → Prop, K' v → aun op x K' := by
  unfold aun at hk
  split at hk <;> first
    | exact hk.elim
    | exact ⟨_, hk, fun _ h => h⟩
theorem aextract_det {x : Value} {i : Nat} {K : Value → Prop} (hk : aextract x i K) : ∃ v, K v ∧ ∀ K' : Value → Prop, K' v → aextract x i K' := by
  unfold aextract at hk
  split at hk
  · split at hk
    · rename_i v hv; exact ⟨v, hk, fun _ h => by simp [aextract, hv, h]⟩
    · exact hk.elim
  · exact hk.elim
theorem afieldAddr_det {t : TypeId} {p : Value} {f : Nat} {K : Value → Prop} (hk : afieldAddr P t p f K) : ∃ v, K v ∧ ∀ K' : Value → Prop, K' v → afieldAddr P t p f K' := by
  unfold afieldAddr at hk
  split at hk
  · rename_i e; exact ⟨_, hk.2, fun _ h => by unfold afieldAddr; simp only [e]; exact ⟨hk.1, h⟩⟩
  · exact hk.elim
theorem afield_det {t : TypeId} {v : Value} {f : Nat} {K : Value → Prop} (hk : afield P t v f K) : ∃ v', K v' ∧ ∀ K' : Value → Prop, K' v' → afield P t v f K' := by
  unfold afield at hk
  split at hk
  · rename_i e
    split at hk
    · rename_i ha; exact ⟨_, hk, fun _ h => by unfold afield; simp only [e, ha, if_true]; exact h⟩
    · rename_i ha
      split at hk
      · rename_i c hc; exact ⟨_, hk, fun _ h => by unfold afield; simp only [e, ha, if_false, hc]; exact h⟩
      · exact hk.elim
  · exact hk.elim
theorem aindexAddr_det {t : TypeId} {x ix : Value} {K : Value → Prop} (hk : aindexAddr P t x ix K) : ∃ v, K v ∧ ∀ K' : Value → Prop, K' v → aindexAddr P t x ix K' := by
  unfold aindexAddr at hk
  split at hk
  · rename_i e; exact ⟨_, hk.2.2, fun _ h => by unfold aindexAddr; simp only [e]; exact ⟨hk.1, hk.2.1, h⟩⟩
  · exact hk.elim
theorem aindex_det {t : TypeId} {x ix : Value} {K : Value → Prop} (hk : aindex P t x ix K) : ∃ v, K v ∧ ∀ K' : Value → Prop, K' v → aindex P t x ix K' := by
  unfold aindex at hk
  split at hk
  · exact ⟨_, hk.2.2.2, fun _ h => ⟨hk.1, hk.2.1, hk.2.2.1, h⟩⟩
  · exact hk.elim
theorem acut_det {t : TypeId} {x : Value} {lo hi mx : Option Value} {K : Value → Prop} (hk : acut P t x lo hi mx K) : ∃ v, K v ∧ ∀ K' : Value → Prop, K' v → acut P t x lo hi mx K' := by
  unfold acut at hk
  split at hk
  · obtain ⟨h1, h2, hk⟩ := hk
    split at hk
    · rename_i e1 e2; exact ⟨_, hk.2.2.2, fun _ h => by unfold acut; simp only [e1, e2]; exact ⟨h1, h2, hk.1, hk.2.1, hk.2.2.1, h⟩⟩
    · exact hk.elim
  · split at hk
    · rename_i e0
      obtain ⟨h1, h2, hk⟩ := hk
      split at hk
      · rename_i e1 e2 e3; exact ⟨_, hk.2.2.2.2, fun _ h => by unfold acut; simp only [e0, e1, e2, e3]; exact ⟨h1, h2, hk.1, hk.2.1, hk.2.2.1, hk.2.2.2.1, h⟩⟩
      · exact hk.elim
    · exact hk.elim
  · split at hk
    · rename_i e0
      obtain ⟨h1, hk⟩ := hk
      split at hk
      · rename_i e1 e2; exact ⟨_, hk.2.2, fun _ h => by unfold acut; simp only [e0, e1, e2]; exact ⟨h1, hk.1, hk.2.1, h⟩⟩
      · exact hk.elim
    · exact hk.elim
  · exact hk.elim
theorem afill_det {pl : Nat → Option (Nat × Nat)} : ∀ {parts : List (Nat × Value)} {cs : List Value} {K : List Value → Prop}, afill pl parts cs K → ∃ v, K v ∧ ∀ K' : List Value → Prop, K' v → afill pl parts cs K'
  | [], cs, K, hk => ⟨cs, hk, fun _ h => h⟩
  | (i, v) :: r, cs, K, hk => by
    unfold afill at hk
    split at hk
    · rename_i off size e
      obtain ⟨h1, h2, h3, hk⟩ := hk
      obtain ⟨u, hu, hr⟩ := afill_det hk
      exact ⟨u, hu, fun K' h => by unfold afill; simp only [e]; exact ⟨h1, h2, h3, hr K' h⟩⟩
    · exact hk.elim
theorem aload_det {t : TypeId} {p : Value} {K : Value → Prop} (hk : aload P h t p K) :
    ∃ id off v, p = .pointer (some ⟨id, off, none⟩) ∧ K v ∧ ∀ h' : AH, h'.ob id = h.ob id → ∀ K' : Value → Prop, K' v → aload P h' t p K' := by
  unfold aload at hk
  split at hk
  · rename_i i id off e
    split at hk
    · rename_i ha
      split at hk
      · rename_i vs hv
        refine ⟨id, off, _, rfl, hk, fun h' e' K' hK' => ?_⟩
        have : rd h' id off i.size = some vs := by rw [← hv]; unfold rd; rw [e']
        unfold aload; simp only [e, ha, if_true, this]; exact hK'
      · exact hk.elim
    · rename_i ha
      split at hk
      · rename_i v hv
        refine ⟨id, off, _, rfl, hk, fun h' e' K' hK' => ?_⟩
        have : rd1 h' id off = some v := by rw [← hv]; unfold rd1; rw [e']
        unfold aload; simp only [e, ha, if_false, this]; exact hK'
      · exact hk.elim
  · exact hk.elim

/-- Which operations a walk may take first: pure ones, loads. -/
def qkind : Op → Bool
  | .move _ | .pick .. | .nilCheck _ | .binOp .. | .unOp .. | .fieldAddr .. | .field .. | .indexAddr .. | .index .. | .extract .. | .slice .. | .build .. | .load .. | .assign _ | .convert .. => true
  | .makeFunc .. => true
  | .call c => (match c.callee with | .builtin .len => true | _ => false)
  | _ => false
/-- What must stay for such an operation: the object that it reads. -/
def qid (ρ : Operand → Value) : Op → Option Nat
  | .load _ x => (match ρ x with | .pointer (some a) => some a.block | _ => none)
  | .convert _ _ x => (match ρ x with | .slice (some a) _ _ => some a.block | _ => none)
  | .call c => (match c.args.toList.map ρ with | [.map (some r)] => some r | _ => none)
  | _ => none
/-- A turning of types that makes nothing new. -/
def qval (ρ : Operand → Value) : Op → Prop
  | .convert _ _ x => (match ρ x with | .int _ _ => True | .slice _ _ _ => True | _ => False)
  | _ => True
def Kept (o : Option Nat) (h h' : AH) : Prop := ∀ i, o = some i → h'.ob i = h.ob i

theorem alen_det {t : TypeId} {x : Value} {K : Value → Prop} (hk : alen P h t x K) : ∃ v, K v ∧ ∀ h' : AH, (∀ r, x = .map (some r) → h'.ob r = h.ob r) → ∀ K' : Value → Prop, K' v → alen P h' t x K' := by
  unfold alen at hk
  split at hk
  · rename_i e; exact ⟨_, hk, fun h' _ _ h => by unfold alen; simp only [e]; exact h⟩
  · rename_i e; exact ⟨_, hk, fun h' _ _ h => by unfold alen; simp only [e]; exact h⟩
  · rename_i r e
    split at hk
    · rename_i es eo; exact ⟨_, hk, fun h' hr _ h => by unfold alen; simp only [e, hr r rfl, eo]; exact h⟩
    · exact hk.elim
  · exact hk.elim

theorem aop_quiet {o : Op} {ρ : Operand → Value} {K : Value → AH → Prop} (hq : qkind o = true) (hv : qval ρ o) (hk : aop P o ρ h K) :
    ∃ v, K v h ∧ ∀ h', Kept (qid ρ o) h h' → ∀ K' : Value → AH → Prop, K' v h' → aop P o ρ h' K' := by
  cases o <;> first | (cases hq; done) | skip
  case move x => exact ⟨_, hk, fun h' _ K' hK => hK⟩
  case assign x => exact ⟨_, hk, fun h' _ K' hK => hK⟩
  case pick c a b =>
    simp only [aop] at hk ⊢
    split at hk
    · rename_i t e; exact ⟨_, hk, fun h' _ K' hK => hK⟩
    · exact hk.elim
  case nilCheck x =>
    simp only [aop] at hk ⊢
    split at hk
    · rename_i a e; exact ⟨_, hk, fun h' _ K' hK => hK⟩
    · exact hk.elim
  case binOp op t x y yt =>
    simp only [aop] at hk ⊢
    obtain ⟨v, a, b⟩ := abinT_det hk
    exact ⟨v, a, fun h' _ K' hK => b (fun v => K' v h') hK⟩
  case unOp op t x =>
    simp only [aop] at hk ⊢
    obtain ⟨v, a, b⟩ := aun_det hk
    exact ⟨v, a, fun h' _ K' hK => b (fun v => K' v h') hK⟩
  case fieldAddr t x f =>
    simp only [aop] at hk ⊢
    obtain ⟨v, a, b⟩ := afieldAddr_det hk
    exact ⟨v, a, fun h' _ K' hK => b (fun v => K' v h') hK⟩
  case field t x f =>
    simp only [aop] at hk ⊢
    obtain ⟨v, a, b⟩ := afield_det hk
    exact ⟨v, a, fun h' _ K' hK => b (fun v => K' v h') hK⟩
  case indexAddr t x y =>
    simp only [aop] at hk ⊢
    obtain ⟨v, a, b⟩ := aindexAddr_det hk
    exact ⟨v, a, fun h' _ K' hK => b (fun v => K' v h') hK⟩
  case index t x y =>
    simp only [aop] at hk ⊢
    obtain ⟨v, a, b⟩ := aindex_det hk
    exact ⟨v, a, fun h' _ K' hK => b (fun v => K' v h') hK⟩
  case extract x i =>
    simp only [aop] at hk ⊢
    obtain ⟨v, a, b⟩ := aextract_det hk
    exact ⟨v, a, fun h' _ K' hK => b (fun v => K' v h') hK⟩
  case makeFunc fn f c => exact ⟨_, hk, fun h' _ K' hK => hK⟩
  case slice t x lo hi mx =>
    simp only [aop] at hk ⊢
    split at hk
    · exact hk.elim
    · obtain ⟨v, a, b⟩ := acut_det hk
      exact ⟨v, a, fun h' _ K' hK => b (fun v => K' v h') hK⟩
  case build t ps =>
    simp only [aop, abuild] at hk ⊢
    split at hk
    · rename_i i e
      obtain ⟨v, a, b⟩ := afill_det hk
      exact ⟨_, a, fun h' _ K' hK => b (fun cs => K' (.agg cs.toArray) h') hK⟩
    · exact hk.elim
  case load t x =>
    simp only [aop] at hk ⊢
    obtain ⟨id, off, v, e, a, b⟩ := aload_det hk
    exact ⟨v, a, fun h' hkept K' hK => b h' (hkept id (by simp [qid, e])) (fun v => K' v h') hK⟩
  case convert s d x =>
    simp only [qval] at hv
    split at hv
    · rename_i k n e
      simp only [aop, aconv] at hk ⊢
      rw [e] at hk ⊢
      split at hk <;> first
        | exact hk.elim
        | (rename_i hp; exact Value.noConfusion hp)
        | exact ⟨_, hk, fun h' _ K' hK => hK⟩
    · rename_i A n k e
      simp only [aop, aconv] at hk ⊢
      simp only [qid]
      rw [e] at hk ⊢
      split at hk
      · rename_i hp; cases hp
      · rename_i hp; cases hp
      · rename_i hp; cases hp
      · rename_i e1 e2 hp; cases hp
        exact ⟨_, hk.2, fun h' _ K' hK => ⟨hk.1, hK⟩⟩
      · rename_i id off n2 c e1 e2 hp
        cases hp
        obtain ⟨h1, hk⟩ := hk
        split at hk
        · rename_i l hl
          refine ⟨_, hk, fun h' hkept K' hK => ⟨h1, ?_⟩⟩
          have hob := hkept id rfl
          have : rd h' id off n = rd h id off n := by unfold rd; rw [hob]
          simp only [this, hl]; exact hK
        · exact hk.elim
      · exact hk.elim
    · exact hv.elim
  case call c =>
    simp only [aop] at hk ⊢
    cases hc : c.callee with
    | builtin b =>
      rw [hc] at hk
      cases b <;> first | (simp [qkind, hc] at hq; done) | skip
      simp only [abuiltin] at hk ⊢
      split at hk <;> first | exact hk.elim | skip
      all_goals first
        | (rename_i t x e2 e3
           obtain ⟨v, a, b⟩ := alen_det hk
           exact ⟨v, a, fun h' hkept K' hK => b h' (fun r hr => hkept r (by simp [qid, e3, hr])) (fun v => K' v h') hK⟩)
        | (rename_i t x e1 e2 e3
           obtain ⟨v, a, b⟩ := alen_det hk
           exact ⟨v, a, fun h' hkept K' hK => b h' (fun r hr => hkept r (by simp [qid, e3, hr])) (fun v => K' v h') hK⟩)
        | (rename_i h1; cases h1; done)
        | (rename_i h1 _; cases h1; done)
        | (rename_i h1 _ _; cases h1; done)
    | value f => simp [qkind, hc] at hq
    | invoke r m => simp [qkind, hc] at hq

end Go.Sim
/- Regions that draw their order: soundness of the walk. Conditions: those that each theorem names. -/
set_option linter.unusedVariables false
set_option linter.unusedSimpArgs false
namespace Go.Sim
variable {P : Program} {FB : Nat → Prop} {w0 : World} {μ : Nat → Option Loc} {h : AH} {w : World} {ops : Array Oper}

def dsOf (ops : Array Oper) : List (Option Tmp) := ops.toList.map (·.dst)

/-- One operation of a region, where it is wanted: what stands behind it. -/
def q1 (P : Program) (ds : List (Option Tmp)) (o : Oper) (t : List Value) (h : AH) (K : List Value → AH → Prop) : Prop :=
  if wantedL ds t o = true then QOp P o (aev t) h fun v h' => K (put t o.dst v) h' else K (put t o.dst undef) h

theorem QOp.mono {o : Oper} {ρ : Operand → Value} {K K' : Value → AH → Prop} (hq : QOp P o ρ h K) (hk : ∀ v h', K v h' → K' v h') : QOp P o ρ h K' :=
  fun FB w0 μ a w K2 Q s hx hk2 => hq FB w0 μ a w K2 Q s hx (fun v h' μ' cv w' k => hk2 v h' μ' cv w' (hk v h' k))
theorem QOp.congr {o : Oper} {ρ ρ' : Operand → Value} {K : Value → AH → Prop} (hq : QOp P o ρ h K) (he : ∀ x ∈ o.op.operands, ρ x = ρ' x) : QOp P o ρ' h K :=
  fun FB w0 μ a w K2 Q s hx hk2 => hq FB w0 μ a w K2 Q s (fun x hx' => by rw [he x hx']; exact hx x hx') hk2
theorem q1_mono {ds : List (Option Tmp)} {o : Oper} {t : List Value} {K K' : List Value → AH → Prop} (hq : q1 P ds o t h K) (hk : ∀ t h', K t h' → K' t h') : q1 P ds o t h K' := by
  unfold q1 at *
  split
  · rename_i hw; rw [if_pos hw] at hq; exact hq.mono (fun v h' => hk _ h')
  · rename_i hw; rw [if_neg hw] at hq; exact hk _ _ hq

theorem q1_wp {o : Oper} {t : List Value} {Kc : List Value → AH → Prop} (hs : q1 P (dsOf ops) o t h Kc) (hok : ∀ x ∈ o.op.operands, opdOK P.globals.size x = true)
    {a : Act} {K : Act → World → Prop} {Q : Exit → Act → World → Prop} (s : Sim P FB w0 μ h w) (ht : LR μ t a.tmps.toList) (hd : a.defers = [])
    (hk : ∀ t' h' μ' a' w', Kc t' h' → Post P FB w0 μ h μ' h' w' → LR μ' t' a'.tmps.toList → a'.defers = [] → K a' w') :
    if Region.wanted o (yielded ops a.tmps) then o.wp P a w K Q else K (a.put o.dst undef) w := by
  rw [wantedL_eq ht]
  unfold q1 dsOf at hs
  by_cases hw : wantedL (ops.toList.map (·.dst)) t o = true
  · rw [if_pos hw] at hs ⊢
    exact hs FB w0 μ a w K Q s (fun x hx => aev_VR s ht (hok x hx)) (fun v h' μ' cv w' hkv p hv => hk _ h' μ' _ w' hkv p (put_LR (ht.ext p.ext) o.dst hv) (by rw [put_defers]; exact hd))
  · rw [if_neg hw] at hs ⊢
    exact hk _ h μ _ w hs s.post (put_LR ht o.dst (VR.undef μ)) (by rw [put_defers]; exact hd)

/-! ### operations apart -/
theorem aev_put {t : List Value} {d : Option Tmp} {v : Value} {x : Operand} (hne : ∀ i, d = some i → x ≠ .tmp i) : aev (put t d v) x = aev t x := by
  cases d with
  | none => rfl
  | some i =>
    cases x with
    | tmp j =>
      have : i ≠ j := fun e => hne i rfl (by rw [e])
      simp [aev, put, List.getD, List.getElem?_set, this]
    | _ => rfl
theorem mem_looks_op {o : Oper} {d : Tmp} (hx : Operand.tmp d ∈ o.op.operands) : d ∈ o.looksAt ops :=
  List.mem_append_left _ (List.mem_filterMap.2 ⟨.tmp d, by simpa using hx, rfl⟩)
theorem aev_apart {o : Oper} {t : List Value} {d : Option Tmp} {v : Value} (hn : ∀ i, d = some i → i ∉ o.looksAt ops) : ∀ x ∈ o.op.operands, aev (put t d v) x = aev t x := fun x hx =>
  aev_put (fun i hi e => hn i hi (mem_looks_op (by rw [← e]; exact hx)))
theorem yl_put {t : List Value} {d : Option Tmp} {v : Value} {j : Nat} {ds : List (Option Tmp)} (hn : ∀ i, d = some i → (ds[j]?).bind id ≠ some i) : yl ds (put t d v) j = yl ds t j := by
  unfold yl
  cases hb : (ds[j]?).bind id with
  | none => rfl
  | some e =>
    cases d with
    | none => rfl
    | some i =>
      have : i ≠ e := fun x => hn i rfl (by rw [hb, x])
      simp [put, List.getElem?_set, this]
theorem wantedL_apart {o : Oper} {t : List Value} {d : Option Tmp} {v : Value} (hn : ∀ i, d = some i → i ∉ o.looksAt ops) : wantedL (dsOf ops) (put t d v) o = wantedL (dsOf ops) t o := by
  unfold wantedL
  cases hg : o.guard with
  | none => rfl
  | some p =>
    obtain ⟨g, want⟩ := p
    simp only
    rw [yl_put (fun i hi e => hn i hi ?_)]
    refine List.mem_append_right _ ?_
    rw [hg]
    simp only [Option.mem_toList]
    have e1 : ((dsOf ops)[g]?).bind id = (ops[g]?).bind (·.dst) := by
      unfold dsOf
      rw [List.getElem?_map, Array.getElem?_toList]
      cases ops[g]? <;> rfl
    rw [← e1]; exact e
theorem put_comm (t : List Value) {x y : Option Tmp} (v u : Value) (hn : ∀ d, x = some d → y ≠ some d) : put (put t x v) y u = put (put t y u) x v := by
  cases x with
  | none => rfl
  | some d =>
    cases y with
    | none => rfl
    | some e =>
      have : d ≠ e := fun he => hn d rfl (by rw [he])
      simp only [put]
      exact List.set_comm _ _ this

/-- Quiet: this value, in whatever heap of the class. -/
def Qt (P : Program) (ds : List (Option Tmp)) (o : Oper) (t : List Value) (v : Value) (C : AH → Prop) : Prop :=
  if wantedL ds t o = true then ∀ h', C h' → ∀ K : Value → AH → Prop, K v h' → QOp P o (aev t) h' K else v = undef
theorem Qt.q1 {ds : List (Option Tmp)} {o : Oper} {t : List Value} {v : Value} {C : AH → Prop} (hq : Qt P ds o t v C) (hC : C h) {K : List Value → AH → Prop} (hk : K (put t o.dst v) h) : q1 P ds o t h K := by
  unfold Qt at hq; unfold Sim.q1
  split
  · rename_i hw; rw [if_pos hw] at hq; exact hq h hC (fun v h' => K (put t o.dst v) h') hk
  · rename_i hw; rw [if_neg hw] at hq; subst hq; exact hk
theorem Qt.put {o : Oper} {t : List Value} {v u : Value} {C : AH → Prop} {d : Option Tmp} (hq : Qt P (dsOf ops) o t v C) (hn : ∀ i, d = some i → i ∉ o.looksAt ops) : Qt P (dsOf ops) o (put t d u) v C := by
  unfold Qt at *
  rw [wantedL_apart hn]
  split
  · rename_i hw; rw [if_pos hw] at hq
    exact fun h' hC K hK => (hq h' hC K hK).congr (fun x hx => (aev_apart hn x hx).symm)
  · rename_i hw; rw [if_neg hw] at hq; exact hq
/-- An operation apart from one that was taken first. -/
theorem q1_put {oi oj : Oper} {t : List Value} {v : Value} (hap : oi.apart ops oj = true) {K : List Value → AH → Prop} (hq : q1 P (dsOf ops) oj (put t oi.dst v) h K) :
    q1 P (dsOf ops) oj t h fun t' h' => K (put t' oi.dst v) h' ∧ ∃ u, t' = put t oj.dst u := by
  obtain ⟨h1, h2, h3⟩ := Oper.apart_spec hap
  unfold q1 at *
  rw [wantedL_apart h1] at hq
  split
  · rename_i hw; rw [if_pos hw] at hq
    refine (hq.congr (fun x hx => aev_apart h1 x hx)).mono (fun u h' k => ⟨?_, u, rfl⟩)
    rw [← put_comm t v u h2]; exact k
  · rename_i hw; rw [if_neg hw] at hq
    refine ⟨?_, undef, rfl⟩
    rw [← put_comm t v undef h2]; exact hq

/-! ### all orders -/
/-- The operations that one waits for. -/
def preds (o : Oper) (k : Nat) : Prop := ∃ e ∈ o.after, Region.binds .any e = true ∧ e.on = k
/-- What is watched: an operation's number and the object that it read. -/
def keepS (S : List (Nat × Nat)) (o : Oper) (h h' : AH) : Prop := ∀ p ∈ S, ¬ preds o p.1 → h'.ob p.2 = h.ob p.2
def tree (P : Program) (ops : Array Oper) (S : List (Nat × Nat)) (Q : List Value → AH → Prop) : Nat → Array Bool → List Value → AH → Prop
  | 0, listed, t, h => Region.ready .any ops listed = [] ∧ Q t h
  | fuel + 1, listed, t, h => (Region.ready .any ops listed = [] → Q t h) ∧
    ∀ i ∈ Region.ready .any ops listed, ∀ o, ops[i]? = some o → q1 P (dsOf ops) o t h fun t' h' => keepS S o h h' ∧ tree P ops S Q fuel (listed.setIfInBounds i true) t' h'

theorem wpOp_of {Q : Exit → Act → World → Prop} {i : Nat} {o : Oper} {K : Act → World → Prop} {a : Act} {w : World} (ho : ops[i]? = some o)
    (hk : if Region.wanted o (yielded ops a.tmps) = true then Oper.wp P o a w K Q else K (a.put o.dst undef) w) : wpOp P ops Q i K a w := by
  unfold wpOp
  rw [ho]
  simp only
  split
  · rename_i hw; rw [if_pos hw] at hk; exact .inl hk
  · rename_i hw; rw [if_neg hw] at hk; exact hk

theorem tree_sound {S : List (Nat × Nat)} {Qa : List Value → AH → Prop} {Q : Exit → Act → World → Prop} (hok : ∀ o ∈ ops.toList, ∀ x ∈ o.op.operands, opdOK P.globals.size x = true) :
    ∀ (fuel : Nat) (listed : Array Bool) (t : List Value) (h : AH) (μ : Nat → Option Loc) (a : Act) (w : World), tree P ops S Qa fuel listed t h → Sim P FB w0 μ h w → LR μ t a.tmps.toList → a.defers = [] →
      (∀ t' h' μ' a' w', Qa t' h' → Post P FB w0 μ h μ' h' w' → LR μ' t' a'.tmps.toList → a'.defers = [] → Q .normal a' w') → wpAny P .any ops Q fuel listed a w
  | 0, listed, t, h, μ, a, w, hk, s, ht, hd, hq => ⟨hk.1, hq t h μ a w hk.2 s.post ht hd⟩
  | fuel + 1, listed, t, h, μ, a, w, hk, s, ht, hd, hq => by
    refine ⟨fun e => hq t h μ a w (hk.1 e) s.post ht hd, fun i hi => ?_⟩
    obtain ⟨_, o, ho, _⟩ := mem_ready.1 hi
    refine wpOp_of ho (q1_wp (hk.2 i hi o ho) (hok o (by simpa using Array.mem_of_getElem? ho)) s ht hd (fun t1 h1 μ1 a1 w1 q p1 ht1 hd1 => ?_))
    exact tree_sound hok fuel _ t1 h1 μ1 a1 w1 q.2 p1.sim ht1 hd1 (fun t2 h2 μ2 a2 w2 q2 p2 ht2 hd2 => hq t2 h2 μ2 a2 w2 q2 (p1.trans p2) ht2 hd2)

theorem tree_first {i : Nat} {oi : Oper} {v : Value} {C : AH → Prop} {S S2 : List (Nat × Nat)} {Q : List Value → AH → Prop} (hi : ops[i]? = some oi) (hS : ∀ p ∈ S, p ∈ S2)
    (hC : ∀ oj, ¬ preds oj i → ∀ h h', C h → keepS S2 oj h h' → C h') :
    ∀ (fuel : Nat) (listed : Array Bool) (t : List Value) (h : AH),
      (∀ j oj, ops[j]? = some oj → j ≠ i → listed.getD j true = false → (∀ e ∈ oj.after, Region.binds .any e = true → e.on ≠ i) → oi.apart ops oj = true) →
      i ∈ Region.ready .any ops listed → Qt P (dsOf ops) oi t v C → C h →
      tree P ops S2 Q fuel (listed.setIfInBounds i true) (put t oi.dst v) h → tree P ops S Q (fuel + 1) listed t h := by
  have keepSub : ∀ {o : Oper} {h h' : AH}, keepS S2 o h h' → keepS S o h h' := fun k p hp => k p (hS p hp)
  have treeSub : ∀ (fuel : Nat) (listed : Array Bool) (t : List Value) (h : AH), tree P ops S2 Q fuel listed t h → tree P ops S Q fuel listed t h := by
    intro fuel
    induction fuel with
    | zero => intro listed t h hk; exact hk
    | succ fuel ih => intro listed t h hk; exact ⟨hk.1, fun i hi o ho => q1_mono (hk.2 i hi o ho) (fun t' h' q => ⟨keepSub q.1, ih _ _ _ q.2⟩)⟩
  intro fuel
  induction fuel with
  | zero =>
    intro listed t h _ hr hy hc H
    refine ⟨fun e => (by rw [e] at hr; cases hr), fun j hj oj hoj => ?_⟩
    by_cases hji : j = i
    · subst hji
      have : oj = oi := by rw [hi] at hoj; exact (Option.some.inj hoj).symm
      subst this
      exact hy.q1 hc ⟨fun p _ _ => rfl, treeSub _ _ _ _ H⟩
    · have := ready_mono hj hji
      rw [H.1] at this
      cases this
  | succ fuel ih =>
    intro listed t h hfree hr hy hc H
    refine ⟨fun e => (by rw [e] at hr; cases hr), fun j hj oj hoj => ?_⟩
    by_cases hji : j = i
    · subst hji
      have : oj = oi := by rw [hi] at hoj; exact (Option.some.inj hoj).symm
      subst this
      exact hy.q1 hc ⟨fun p _ _ => rfl, treeSub _ _ _ _ H⟩
    · have h1 := H.2 j (ready_mono hj hji) oj hoj
      obtain ⟨hjun, oj', hoj', hall⟩ := mem_ready.1 hj
      have : oj' = oj := by rw [hoj] at hoj'; exact (Option.some.inj hoj').symm
      subst this
      have hnot : ∀ e ∈ oj'.after, Region.binds .any e = true → e.on ≠ i := fun e he hb heq => by
        have h1 := hall e he hb
        have h0 := (mem_ready.1 hr).1
        rw [heq] at h1
        rcases Nat.lt_or_ge i listed.size with h' | h'
        · simp [h'] at h0 h1; rw [h0] at h1; cases h1
        · simp [Array.getElem?_eq_none h'] at h1
      have hap := hfree j oj' hoj hji hjun hnot
      have h2 := q1_put hap h1
      have hfree' : ∀ k ok, ops[k]? = some ok → k ≠ i → (listed.setIfInBounds j true).getD k true = false →
          (∀ e ∈ ok.after, Region.binds .any e = true → e.on ≠ i) → oi.apart ops ok = true := fun k ok hk hki hun hno => by
        refine hfree k ok hk hki ?_ hno
        by_cases hjk : j = k
        · subst hjk; exact hjun
        · rw [getD_set_ne true hjk] at hun; exact hun
      refine q1_mono h2 (fun t' h' q => ?_)
      obtain ⟨⟨hkeep, htree⟩, u, rfl⟩ := q
      refine ⟨keepSub hkeep, ih (listed.setIfInBounds j true) _ h' hfree' (ready_mono hr (Ne.symm hji)) (hy.put (Oper.apart_spec hap).2.2) (hC oj' (fun ⟨e, he, hb, hon⟩ => hnot e he hb hon) h h' hc hkeep) ?_⟩
      rw [Array.setIfInBounds_comm _ _ hji]
      exact htree

/-! ### one walk -/
inductive Plan where
  | done
  | q (i : Nat) (p : Plan)
  | a (i : Nat) (fl : Bool) (p : Plan)
  | b (i : Nat) (p : Plan) (j : Nat) (p' : Plan)
  | c (i : Nat) (p : Plan)
  deriving Repr

/-- An operation that waits for all others. -/
def lastOp (ops : Array Oper) (i : Nat) : Bool :=
  match ops[i]? with
  | some o => (List.range ops.size).all fun k => k == i || o.after.any fun e => Region.binds .any e && e.on == k
  | none => false
def planOK (ops : Array Oper) : Nat → Plan → Array Bool → Bool
  | _, .done, l => (Region.ready .any ops l).isEmpty
  | n + 1, .q i p, l => (Region.ready .any ops l).contains i && Region.free .any ops l i && planOK ops n p (l.setIfInBounds i true)
  | n + 1, .c i p, l => (Region.ready .any ops l).contains i && Region.free .any ops l i && planOK ops n p (l.setIfInBounds i true)
  | n + 1, .a i fl p, l => (Region.ready .any ops l == [i]) && (!fl || lastOp ops i) && planOK ops n p (l.setIfInBounds i true)
  | n + 1, .b i p j p', l => (Region.ready .any ops l == [i, j]) && planOK ops n p (l.setIfInBounds i true) && planOK ops n p' (l.setIfInBounds j true)
  | 0, _, _ => false

def opAt : List Oper → Nat → (Oper → Prop) → Prop
  | [], _, _ => False
  | o :: _, 0, K => K o
  | _ :: r, i + 1, K => opAt r i K
theorem opAt_some : ∀ {l : List Oper} {i : Nat} {K : Oper → Prop}, opAt l i K → ∃ o, l[i]? = some o ∧ K o
  | [], _, _, hk => hk.elim
  | o :: _, 0, _, hk => ⟨o, rfl, hk⟩
  | _ :: r, i + 1, _, hk => by
    obtain ⟨o, h1, h2⟩ := opAt_some (l := r) hk
    exact ⟨o, by simpa using h1, h2⟩

/-- What is watched besides, once this operation was taken first. -/
def watch (i : Nat) (o : Op) (ρ : Operand → Value) (S : List (Nat × Nat)) : List (Nat × Nat) :=
  match qid ρ o with
  | some id => (i, id) :: S
  | none => S
def allKept : List (Nat × Nat) → AH → AH → Prop
  | [], _, _ => True
  | p :: r, h, h' => h'.ob p.2 = h.ob p.2 ∧ allKept r h h'
theorem allKept_mem : ∀ {S : List (Nat × Nat)} {h h' : AH}, allKept S h h' → ∀ p ∈ S, h'.ob p.2 = h.ob p.2
  | [], _, _, _, p, hp => by cases hp
  | q :: r, _, _, hk, p, hp => by
    rcases List.mem_cons.1 hp with rfl | hp
    · exact hk.1
    · exact allKept_mem hk.2 p hp

/-- A call that leaves all as it was. -/
def ccall (P : Program) (op : Op) (t : List Value) (h : AH) (X : Value → List Nat → Prop) : Prop :=
  match op with
  | .call c =>
    (match c.callee with
     | .value f => (match aev t f with | .func (.func fid) first captured => CQ P fid (first.toList ++ c.args.toList.map (aev t) ++ captured.toList) h X | _ => False)
     | _ => False)
  | _ => False
def cstep (P : Program) (ds : List (Option Tmp)) (o : Oper) (t : List Value) (h : AH) (X : List Value → Value → List Nat → Prop) : Prop :=
  match o.guard with
  | none => ccall P o.op t h (X t)
  | some (j, want) => ag (gd ds j) want t (fun t' => ccall P o.op t' h (X t')) (fun t' => X t' undef [])
def watchAll (i : Nat) (ids : List Nat) (S : List (Nat × Nat)) : List (Nat × Nat) := ids.map (fun id => (i, id)) ++ S

def walk (P : Program) (ops : List Oper) (ds : List (Option Tmp)) : Plan → List (Nat × Nat) → List Value → AH → (List Value → AH → Prop) → Prop
  | .done, _, t, h, K => K t h
  | .q i p, S, t, h, K => opAt ops i fun o => qkind o.op = true ∧ qval (aev t) o.op ∧ aops P ds [o] t h fun t' h' => walk P ops ds p (watch i o.op (aev t) S) t' h' K
  | .c i p, S, t, h, K => opAt ops i fun o => cstep P ds o t h fun t' v ids => walk P ops ds p (watchAll i ids S) (put t' o.dst v) h K
  | .a i fl p, S, t, h, K => opAt ops i fun o => aops P ds [o] t h fun t' h' => (if fl = true then True else allKept S h h') ∧ walk P ops ds p S t' h' K
  | .b i p j p', S, t, h, K => (opAt ops i fun o => aops P ds [o] t h fun t' h' => allKept S h h' ∧ walk P ops ds p S t' h' K) ∧
      (opAt ops j fun o => aops P ds [o] t h fun t' h' => allKept S h h' ∧ walk P ops ds p' S t' h' K)

theorem a1_q1 {ds : List (Option Tmp)} {o : Oper} {t : List Value} {K : List Value → AH → Prop} (hk : a1 P ds o t h K) : q1 P ds o t h K := by
  unfold a1 at hk; unfold q1
  split
  · rename_i hw; rw [if_pos hw] at hk; exact aop_sound hk
  · rename_i hw; rw [if_neg hw] at hk; exact hk
theorem one_a1 {ds : List (Option Tmp)} {o : Oper} {t : List Value} {K : List Value → AH → Prop} (hk : aops P ds [o] t h K) : a1 P ds o t h K := a1_of hk

theorem set_getD {t : List Value} {d : Nat} {v : Value} (e : t.getD d undef = v) (hv : v ≠ undef) : t.set d v = t := by
  by_cases hi : d < t.length
  · apply List.ext_getElem (by simp)
    intro j a b
    by_cases e2 : d = j
    · subst e2; simp [List.getD, hi] at e; simp [e]
    · simp [List.getElem_set, e2]
  · simp [List.getD, hi] at e; exact absurd e.symm hv
theorem ag_cases {ds : List (Option Tmp)} {t : List Value} {j : Nat} {want : Bool} {o : Oper} (hg : o.guard = some (j, want)) {X Y : List Value → Prop} (hk : ag (gd ds j) want t X Y) :
    (wantedL ds t o = true ∧ X t) ∨ (wantedL ds t o = false ∧ Y t) := by
  unfold ag at hk
  cases hd : gd ds j with
  | none =>
    rw [hd] at hk
    have hy : yl ds t j = none := by unfold yl; unfold gd at hd; rw [hd]
    exact .inr ⟨by simp [wantedL, hg, hy], hk⟩
  | some d =>
    rw [hd] at hk
    simp only [onB] at hk
    split at hk
    · rename_i b hb
      have hlt : d < t.length := by
        by_cases hi : d < t.length
        · exact hi
        · simp [List.getD, hi] at hb; exact absurd hb (by simp [undef])
      have hy : yl ds t j = some b := by
        unfold yl; unfold gd at hd; rw [hd]
        simp only [List.getElem?_eq_getElem hlt]
        have : t[d] = .bool b := by simpa [List.getD, hlt] using hb
        rw [this]
      have hset : t.set d (.bool b) = t := set_getD hb (by simp [undef])
      cases want <;> cases b <;> simp only [Bool.false_eq_true, if_false, if_true] at hk
      · rw [bcase_false, hset] at hk; exact .inl ⟨by simp [wantedL, hg, hy], hk⟩
      · rw [bcase_true, hset] at hk; exact .inr ⟨by simp [wantedL, hg, hy], hk⟩
      · rw [bcase_false, hset] at hk; exact .inr ⟨by simp [wantedL, hg, hy], hk⟩
      · rw [bcase_true, hset] at hk; exact .inl ⟨by simp [wantedL, hg, hy], hk⟩
    · rename_i hb
      have hy : yl ds t j = none := by
        unfold yl; unfold gd at hd; rw [hd]
        by_cases hlt : d < t.length
        · simp only [List.getElem?_eq_getElem hlt]
          have hb' : ∀ b, t[d] ≠ .bool b := fun b hh => hb b (by simp [List.getD, hlt, hh])
          generalize t[d] = x at hb'
          cases x <;> first | rfl | exact absurd rfl (hb' _)
        · simp [hlt]
      exact .inr ⟨by simp [wantedL, hg, hy], hk⟩
theorem ccall_spec {o : Oper} {t : List Value} {X : Value → List Nat → Prop} (hk : ccall P o.op t h X) :
    ∃ v ids, X v ids ∧ ∀ h' : AH, (∀ id ∈ ids, h'.ob id = h.ob id) → ∀ K : Value → AH → Prop, K v h' → QOp P o (aev t) h' K := by
  unfold ccall at hk
  split at hk
  · rename_i c hc
    split at hk
    · rename_i f hf
      split at hk
      · rename_i fid first captured hp
        obtain ⟨v, ids, h1, h2⟩ := hk
        refine ⟨v, ids, h2, fun h' hkept K hK => acall_sound hc hf ?_⟩
        unfold acall
        rw [hp]
        exact (h1 h' hkept).to hK
      · exact hk.elim
    · exact hk.elim
  · exact hk.elim
theorem cstep_spec {ds : List (Option Tmp)} {o : Oper} {t : List Value} {X : List Value → Value → List Nat → Prop} (hk : cstep P ds o t h X) :
    ∃ v ids, X t v ids ∧ Qt P ds o t v (fun h' => ∀ id ∈ ids, h'.ob id = h.ob id) := by
  unfold cstep at hk
  split at hk
  · rename_i hg
    obtain ⟨v, ids, h1, h2⟩ := ccall_spec hk
    refine ⟨v, ids, h1, ?_⟩
    unfold Qt
    rw [if_pos (by simp [wantedL, hg])]
    exact fun h' hC K hK => h2 h' hC K hK
  · rename_i j want hg
    rcases ag_cases hg hk with ⟨hw, hx⟩ | ⟨hw, hx⟩
    · obtain ⟨v, ids, h1, h2⟩ := ccall_spec hx
      refine ⟨v, ids, h1, ?_⟩
      unfold Qt
      rw [if_pos hw]
      exact fun h' hC K hK => h2 h' hC K hK
    · refine ⟨undef, [], hx, ?_⟩
      unfold Qt
      rw [if_neg (by simp [hw])]

theorem lastOp_keep {i : Nat} {o : Oper} (ho : ops[i]? = some o) (hl : lastOp ops i = true) (S : List (Nat × Nat)) (hS : ∀ p ∈ S, p.1 < ops.size ∧ p.1 ≠ i) (h h' : AH) : keepS S o h h' := by
  intro p hp hn
  obtain ⟨h1, h2⟩ := hS p hp
  simp only [lastOp, ho, List.all_eq_true, List.mem_range, Bool.or_eq_true, beq_iff_eq] at hl
  rcases hl p.1 h1 with e | e
  · exact absurd e h2
  · obtain ⟨e, he, hb⟩ := Array.any_eq_true'.1 e
    simp only [Bool.and_eq_true, beq_iff_eq] at hb
    exact absurd ⟨e, he, hb.1, hb.2⟩ hn

theorem walk_tree {Q : List Value → AH → Prop} : ∀ (n : Nat) (p : Plan) (listed : Array Bool) (S : List (Nat × Nat)) (t : List Value) (h : AH), planOK ops n p listed = true → (∀ q ∈ S, q.1 < ops.size ∧ listed.getD q.1 true = true) →
    walk P ops.toList (dsOf ops) p S t h Q → tree P ops S Q n listed t h
  | 0, .done, listed, S, t, h, hp, _, hw => by
    simp only [planOK, List.isEmpty_iff] at hp
    exact ⟨hp, hw⟩
  | n + 1, .done, listed, S, t, h, hp, _, hw => by
    simp only [planOK, List.isEmpty_iff] at hp
    exact ⟨fun _ => hw, fun i hi => by rw [hp] at hi; cases hi⟩
  | 0, .q .., listed, S, t, h, hp, _, hw => by simp [planOK] at hp
  | 0, .a .., listed, S, t, h, hp, _, hw => by simp [planOK] at hp
  | 0, .b .., listed, S, t, h, hp, _, hw => by simp [planOK] at hp
  | n + 1, .q i p, listed, S, t, h, hp, hS, hw => by
    simp only [planOK, Bool.and_eq_true] at hp
    obtain ⟨⟨hr, hf⟩, hp⟩ := hp
    have hr : i ∈ Region.ready .any ops listed := by simpa using hr
    obtain ⟨o, ho, hq, hv, hk⟩ := opAt_some hw
    have ho' : ops[i]? = some o := by simpa using ho
    have hk := one_a1 hk
    have hS' : ∀ q ∈ watch i o.op (aev t) S, q.1 < ops.size ∧ (listed.setIfInBounds i true).getD q.1 true = true := by
      have old : ∀ q ∈ S, q.1 < ops.size ∧ (listed.setIfInBounds i true).getD q.1 true = true := fun q hq => by
        refine ⟨(hS q hq).1, ?_⟩
        by_cases e : i = q.1
        · subst e
          by_cases hlt : q.1 < listed.size <;> simp [hlt]
        · rw [getD_set_ne true e]; exact (hS q hq).2
      intro q hq
      unfold watch at hq
      split at hq
      · rcases List.mem_cons.1 hq with rfl | hq
        · refine ⟨(Array.getElem?_eq_some_iff.1 ho').1, ?_⟩
          by_cases hlt : i < listed.size <;> simp [hlt]
        · exact old q hq
      · exact old q hq
    have main : ∃ v, walk P ops.toList (dsOf ops) p (watch i o.op (aev t) S) (put t o.dst v) h Q ∧ Qt P (dsOf ops) o t v (Kept (qid (aev t) o.op) h) := by
      unfold a1 at hk
      split at hk
      · rename_i hwant
        obtain ⟨v, hv1, hv2⟩ := aop_quiet hq hv hk
        exact ⟨v, hv1, by unfold Qt; rw [if_pos hwant]; exact fun h' hC K hK => aop_sound (hv2 h' hC K hK)⟩
      · rename_i hwant
        exact ⟨undef, hk, by unfold Qt; rw [if_neg hwant]⟩
    obtain ⟨v, hk', hqt⟩ := main
    refine tree_first (S2 := watch i o.op (aev t) S) (C := Kept (qid (aev t) o.op) h) ho' (fun p hp => ?_) (fun oj hnp h1 h2 hc hkeep id hid => ?_) n listed t h (Region.free_spec ho' hf) hr hqt (fun _ _ => rfl) (walk_tree n p _ _ _ h hp hS' hk')
    · unfold watch; split
      · exact List.mem_cons_of_mem _ hp
      · exact hp
    · rw [← hc id hid]
      refine hkeep (i, id) ?_ hnp
      unfold watch; rw [hid]; simp
  | 0, .c .., listed, S, t, h, hp, _, hw => by simp [planOK] at hp
  | n + 1, .c i p, listed, S, t, h, hp, hS, hw => by
    simp only [planOK, Bool.and_eq_true] at hp
    obtain ⟨⟨hr, hf⟩, hp⟩ := hp
    have hr : i ∈ Region.ready .any ops listed := by simpa using hr
    obtain ⟨o, ho, hk⟩ := opAt_some hw
    have ho' : ops[i]? = some o := by simpa using ho
    obtain ⟨v, ids, hk', hqt⟩ := cstep_spec hk
    have hS' : ∀ q ∈ watchAll i ids S, q.1 < ops.size ∧ (listed.setIfInBounds i true).getD q.1 true = true := by
      have old : ∀ q ∈ S, q.1 < ops.size ∧ (listed.setIfInBounds i true).getD q.1 true = true := fun q hq => by
        refine ⟨(hS q hq).1, ?_⟩
        by_cases e : i = q.1
        · subst e
          by_cases hlt : q.1 < listed.size <;> simp [hlt]
        · rw [getD_set_ne true e]; exact (hS q hq).2
      intro q hq
      unfold watchAll at hq
      rcases List.mem_append.1 hq with hq | hq
      · obtain ⟨id, _, rfl⟩ := List.mem_map.1 hq
        refine ⟨(Array.getElem?_eq_some_iff.1 ho').1, ?_⟩
        by_cases hlt : i < listed.size <;> simp [hlt]
      · exact old q hq
    refine tree_first (S2 := watchAll i ids S) (C := fun h' => ∀ id ∈ ids, h'.ob id = h.ob id) ho' (fun p hp => ?_) (fun oj hnp h1 h2 hc hkeep id hid => ?_) n listed t h (Region.free_spec ho' hf) hr hqt (fun _ _ => rfl) (walk_tree n p _ _ _ h hp hS' hk')
    · exact List.mem_append_right _ hp
    · rw [← hc id hid]
      exact hkeep (i, id) (List.mem_append_left _ (List.mem_map.2 ⟨id, hid, rfl⟩)) hnp
  | n + 1, .a i fl p, listed, S, t, h, hp, hS, hw => by
    simp only [planOK, Bool.and_eq_true, beq_iff_eq] at hp
    obtain ⟨⟨hr, hl⟩, hp⟩ := hp
    refine ⟨fun e => (by rw [e] at hr; cases hr), fun j hj oj hoj => ?_⟩
    have hjr := hj
    rw [hr] at hj
    obtain rfl : j = i := by simpa using hj
    obtain ⟨o, ho, hk⟩ := opAt_some hw
    have ho' : ops[j]? = some o := by simpa using ho
    obtain rfl : oj = o := by rw [hoj] at ho'; exact Option.some.inj ho'
    have hun := (mem_ready.1 hjr).1
    refine q1_mono (a1_q1 (one_a1 hk)) (fun t' h' q => ⟨?_, walk_tree n p _ S t' h' hp (fun q hq => ⟨(hS q hq).1, ?_⟩) q.2⟩)
    · cases fl with
      | true =>
        refine lastOp_keep hoj (by simpa using hl) S (fun p hp => ⟨(hS p hp).1, fun e => ?_⟩) h h'
        have := (hS p hp).2
        rw [e, hun] at this; cases this
      | false => exact fun p hp _ => allKept_mem (by simpa using q.1) p hp
    · by_cases e : j = q.1
      · subst e
        by_cases hlt : q.1 < listed.size <;> simp [hlt]
      · rw [getD_set_ne true e]; exact (hS q hq).2
  | n + 1, .b i p j p', listed, S, t, h, hp, hS, hw => by
    simp only [planOK, Bool.and_eq_true, beq_iff_eq] at hp
    obtain ⟨⟨hr, hp1⟩, hp2⟩ := hp
    have side : ∀ (k : Nat) (q : Plan), planOK ops n q (listed.setIfInBounds k true) = true → (opAt ops.toList k fun o => aops P (dsOf ops) [o] t h fun t' h' => allKept S h h' ∧ walk P ops.toList (dsOf ops) q S t' h' Q) →
        ∀ o, ops[k]? = some o → q1 P (dsOf ops) o t h fun t' h' => keepS S o h h' ∧ tree P ops S Q n (listed.setIfInBounds k true) t' h' := by
      intro k q hq hk o ho
      obtain ⟨o', ho', hk⟩ := opAt_some hk
      have ho' : ops[k]? = some o' := by simpa using ho'
      obtain rfl : o = o' := by rw [ho] at ho'; exact Option.some.inj ho'
      refine q1_mono (a1_q1 (one_a1 hk)) (fun t' h' x => ⟨fun p hp _ => allKept_mem x.1 p hp, walk_tree n q _ S t' h' hq (fun y hy => ⟨(hS y hy).1, ?_⟩) x.2⟩)
      by_cases e : k = y.1
      · subst e
        by_cases hlt : y.1 < listed.size <;> simp [hlt]
      · rw [getD_set_ne true e]; exact (hS y hy).2
    refine ⟨fun e => (by rw [e] at hr; cases hr), fun k hk o ho => ?_⟩
    rw [hr] at hk
    simp only [List.mem_cons, List.not_mem_nil, or_false] at hk
    rcases hk with rfl | rfl
    · exact side _ p hp1 hw.1 o ho
    · exact side _ p' hp2 hw.2 o ho

/-- A region that draws its order: one walk by a plan. -/
theorem WC.draw {id : Nat} {t : List Value} {Q : Exit → List Value → AH → Prop} (hm : P.follows .mixedOrders = true) (hok : codeOK P.globals.size (.region id ops true) = true) (p : Plan)
    (hp : planOK ops ops.size p (Array.replicate ops.size false) = true) (hw : walk P ops.toList (ops.toList.map (·.dst)) p [] t h (Q .normal)) : WC P (.region id ops true) Q t h := by
  intro FB w0 μ a w Q' s ht hd hq
  have s' := s.drew
  refine wp_region_any hm (tree_sound (codeOK_ops hok) ops.size _ t h μ a _ (walk_tree ops.size p _ [] t h hp (fun q hq => by cases hq) hw) s' ht hd (fun t' h' μ' a' w' q p' => hq .normal t' h' μ' a' w' q ⟨p'.sim, p'.ext, p'.unt⟩))

end Go.Sim
/- How the walk of a region that draws its order is reckoned: rewriting rules. Conditions: none. -/
set_option linter.unusedVariables false
set_option linter.unusedSimpArgs false
namespace Go.Sim
variable {P : Program} {h : AH}

@[congr] theorem walk_congr {tk : Prop} (_ : tick = tk) {l : List Oper} {ds : List (Option Tmp)} {p : Plan} {S S2 : List (Nat × Nat)} {t t2 : List Value} {h h2 : AH} {K : List Value → AH → Prop} (eS : S = S2) (et : t = t2) (eh : h = h2) : walk P l ds p S t h K = walk P l ds p S2 t2 h2 K := by subst eS; subst et; subst eh; rfl
@[congr] theorem opAt_congr {tk : Prop} (_ : tick = tk) {l : List Oper} {i i2 : Nat} {K : Oper → Prop} (ei : i = i2) : opAt l i K = opAt l i2 K := by subst ei; rfl
theorem opAt_zero (o : Oper) (r : List Oper) (K : Oper → Prop) : opAt (o :: r) 0 K = K o := rfl
theorem opAt_succ (o : Oper) (r : List Oper) (i : Nat) (K : Oper → Prop) : opAt (o :: r) (i + 1) K = opAt r i K := rfl
theorem walk_done (l : List Oper) (ds : List (Option Tmp)) (S : List (Nat × Nat)) (t : List Value) (K : List Value → AH → Prop) : walk P l ds .done S t h K = K t h := rfl
/-- A step that was taken first. -/
def qstep (P : Program) (ds : List (Option Tmp)) (S : List (Nat × Nat)) (t : List Value) (h : AH) (i : Nat) (X : List (Nat × Nat) → List Value → AH → Prop) (o : Oper) : Prop :=
  qkind o.op = true ∧ qval (aev t) o.op ∧ aops P ds [o] t h fun t' h' => X (watch i o.op (aev t) S) t' h'
@[congr] theorem qstep_congr {tk : Prop} (_ : tick = tk) {ds : List (Option Tmp)} {S S2 : List (Nat × Nat)} {t t2 : List Value} {h h2 : AH} {i i2 : Nat} {X : List (Nat × Nat) → List Value → AH → Prop} {o : Oper} (eS : S = S2) (et : t = t2) (eh : h = h2) (ei : i = i2) : qstep P ds S t h i X o = qstep P ds S2 t2 h2 i2 X o := by subst eS; subst et; subst eh; subst ei; rfl
theorem walk_q (l : List Oper) (ds : List (Option Tmp)) (i : Nat) (p : Plan) (S : List (Nat × Nat)) (t : List Value) (K : List Value → AH → Prop) :
    walk P l ds (.q i p) S t h K = opAt l i (qstep P ds S t h i fun S' t' h' => walk P l ds p S' t' h' K) := rfl
theorem walk_last (l : List Oper) (ds : List (Option Tmp)) (i : Nat) (p : Plan) (S : List (Nat × Nat)) (t : List Value) (K : List Value → AH → Prop) :
    walk P l ds (.a i true p) S t h K = opAt l i fun o => aops P ds [o] t h fun t' h' => walk P l ds p S t' h' K := by
  simp only [walk, if_true, true_and]
/-- What stays, then more. -/
def kp (S : List (Nat × Nat)) (h h' : AH) (X : Prop) : Prop := allKept S h h' ∧ X
@[congr] theorem kp_congr {tk : Prop} (_ : tick = tk) {S S2 : List (Nat × Nat)} {h h2 : AH} {h' h'2 : AH} {X : Prop} (eS : S = S2) (eh : h = h2) (eh' : h' = h'2) : kp S h h' X = kp S2 h2 h'2 X := by subst eS; subst eh; subst eh'; rfl
theorem kp_nil (h' : AH) (X : Prop) : kp [] h h' X = X := by simp [kp, allKept]
theorem kp_cons (p : Nat × Nat) (S : List (Nat × Nat)) (h' : AH) (X : Prop) : kp (p :: S) h h' X = (h'.ob p.2 = h.ob p.2 ∧ kp S h h' X) := by simp [kp, allKept, and_assoc]
theorem walk_a (l : List Oper) (ds : List (Option Tmp)) (i : Nat) (p : Plan) (S : List (Nat × Nat)) (t : List Value) (K : List Value → AH → Prop) :
    walk P l ds (.a i false p) S t h K = opAt l i fun o => aops P ds [o] t h fun t' h' => kp S h h' (walk P l ds p S t' h' K) := by
  simp [walk, kp]
theorem walk_b (l : List Oper) (ds : List (Option Tmp)) (i j : Nat) (p p' : Plan) (S : List (Nat × Nat)) (t : List Value) (K : List Value → AH → Prop) :
    walk P l ds (.b i p j p') S t h K = (opAt l i (fun o => aops P ds [o] t h fun t' h' => kp S h h' (walk P l ds p S t' h' K)) ∧ opAt l j fun o => aops P ds [o] t h fun t' h' => kp S h h' (walk P l ds p' S t' h' K)) := rfl

theorem walk_c (l : List Oper) (ds : List (Option Tmp)) (i : Nat) (p : Plan) (S : List (Nat × Nat)) (t : List Value) (K : List Value → AH → Prop) :
    walk P l ds (.c i p) S t h K = opAt l i fun o => cstep P ds o t h fun t' v ids => walk P l ds p (watchAll i ids S) (put t' o.dst v) h K := rfl
/-- Where the function is known. -/
def cfn (P : Program) (f : Value) (args : List Value) (h : AH) (X : Value → List Nat → Prop) : Prop := match f with | .func (.func fid) first captured => CQ P fid (first.toList ++ args ++ captured.toList) h X | _ => False
@[congr] theorem cfn_congr {tk : Prop} (_ : tick = tk) {f f2 : Value} {l l2 : List Value} {h h2 : AH} {X : Value → List Nat → Prop} (ef : f = f2) (el : l = l2) (eh : h = h2) : cfn P f l h X = cfn P f2 l2 h2 X := by subst ef; subst el; subst eh; rfl
theorem cfn_func (fid : FuncId) (a b : Array Value) (args : List Value) (X : Value → List Nat → Prop) : cfn P (.func (.func fid) a b) args h X = CQ P fid (a.toList ++ args ++ b.toList) h X := rfl
theorem cstep_none (ds : List (Option Tmp)) (t : List Value) (X : List Value → Value → List Nat → Prop) (d : Option Tmp) (f : Operand) (args : Array Operand) (ts : Array TypeId) (ty : TypeId) (pos : String) (af : Array Edge) :
    cstep P ds ⟨d, .call { callee := .value f, args := args, argTypes := ts }, ty, pos, af, none⟩ t h X = cfn P (aev t f) (args.toList.map (aev t)) h (X t) := rfl
theorem cstep_some (ds : List (Option Tmp)) (t : List Value) (X : List Value → Value → List Nat → Prop) (d : Option Tmp) (f : Operand) (args : Array Operand) (ts : Array TypeId) (ty : TypeId) (pos : String) (af : Array Edge) (j : Nat) (want : Bool) :
    cstep P ds ⟨d, .call { callee := .value f, args := args, argTypes := ts }, ty, pos, af, some (j, want)⟩ t h X = ag (gd ds j) want t (fun t' => cfn P (aev t' f) (args.toList.map (aev t')) h (X t')) (fun t' => X t' undef []) := rfl
@[congr] theorem cstep_congr {tk : Prop} (_ : tick = tk) {ds : List (Option Tmp)} {o : Oper} {t t2 : List Value} {h h2 : AH} {X : List Value → Value → List Nat → Prop} (et : t = t2) (eh : h = h2) : cstep P ds o t h X = cstep P ds o t2 h2 X := by subst et; subst eh; rfl
theorem watchAll_nil (i : Nat) (S : List (Nat × Nat)) : watchAll i [] S = S := rfl
theorem watchAll_cons (i id : Nat) (r : List Nat) (S : List (Nat × Nat)) : watchAll i (id :: r) S = (i, id) :: watchAll i r S := rfl
attribute [push_cast] walk_c cfn_func cstep_none cstep_some watchAll_nil watchAll_cons
/-- By the kind of operation: what is watched besides. -/
def wt (i : Nat) (v : Value) (S : List (Nat × Nat)) : List (Nat × Nat) := match v with | .pointer (some a) => (i, a.block) :: S | _ => S
theorem wt_ptr (i b off : Nat) (fo : Option Nat) (S : List (Nat × Nat)) : wt i (.pointer (some ⟨b, off, fo⟩)) S = (i, b) :: S := rfl
section
variable {ds : List (Option Tmp)} {S : List (Nat × Nat)} {t : List Value} {i : Nat} {X : List (Nat × Nat) → List Value → AH → Prop} {d : Option Tmp} {ty : TypeId} {pos : String} {af : Array Edge} {g : Option (Nat × Bool)}
theorem qstep_of (op : Op) (hq : qkind op = true) (hv : qval (aev t) op = True) (S' : List (Nat × Nat)) (hw : watch i op (aev t) S = S') : qstep P ds S t h i X ⟨d, op, ty, pos, af, g⟩ = aops P ds [⟨d, op, ty, pos, af, g⟩] t h fun t' h' => X S' t' h' := by
  subst hw; unfold qstep; simp [hq, hv]
theorem qs_move (x : Operand) : qstep P ds S t h i X ⟨d, .move x, ty, pos, af, g⟩ = aops P ds [⟨d, .move x, ty, pos, af, g⟩] t h fun t' h' => X S t' h' := qstep_of _ rfl rfl _ rfl
theorem qs_assign (x : Operand) : qstep P ds S t h i X ⟨d, .assign x, ty, pos, af, g⟩ = aops P ds [⟨d, .assign x, ty, pos, af, g⟩] t h fun t' h' => X S t' h' := qstep_of _ rfl rfl _ rfl
theorem qs_pick (c a b : Operand) : qstep P ds S t h i X ⟨d, .pick c a b, ty, pos, af, g⟩ = aops P ds [⟨d, .pick c a b, ty, pos, af, g⟩] t h fun t' h' => X S t' h' := qstep_of _ rfl rfl _ rfl
theorem qs_nil (x : Operand) : qstep P ds S t h i X ⟨d, .nilCheck x, ty, pos, af, g⟩ = aops P ds [⟨d, .nilCheck x, ty, pos, af, g⟩] t h fun t' h' => X S t' h' := qstep_of _ rfl rfl _ rfl
theorem qs_bin (op : BinOp) (u : TypeId) (x y : Operand) (u' : TypeId) : qstep P ds S t h i X ⟨d, .binOp op u x y u', ty, pos, af, g⟩ = aops P ds [⟨d, .binOp op u x y u', ty, pos, af, g⟩] t h fun t' h' => X S t' h' := qstep_of _ rfl rfl _ rfl
theorem qs_un (op : UnOp) (u : TypeId) (x : Operand) : qstep P ds S t h i X ⟨d, .unOp op u x, ty, pos, af, g⟩ = aops P ds [⟨d, .unOp op u x, ty, pos, af, g⟩] t h fun t' h' => X S t' h' := qstep_of _ rfl rfl _ rfl
theorem qs_fieldAddr (u : TypeId) (x : Operand) (f : Nat) : qstep P ds S t h i X ⟨d, .fieldAddr u x f, ty, pos, af, g⟩ = aops P ds [⟨d, .fieldAddr u x f, ty, pos, af, g⟩] t h fun t' h' => X S t' h' := qstep_of _ rfl rfl _ rfl
theorem qs_field (u : TypeId) (x : Operand) (f : Nat) : qstep P ds S t h i X ⟨d, .field u x f, ty, pos, af, g⟩ = aops P ds [⟨d, .field u x f, ty, pos, af, g⟩] t h fun t' h' => X S t' h' := qstep_of _ rfl rfl _ rfl
theorem qs_indexAddr (u : TypeId) (x y : Operand) : qstep P ds S t h i X ⟨d, .indexAddr u x y, ty, pos, af, g⟩ = aops P ds [⟨d, .indexAddr u x y, ty, pos, af, g⟩] t h fun t' h' => X S t' h' := qstep_of _ rfl rfl _ rfl
theorem qs_index (u : TypeId) (x y : Operand) : qstep P ds S t h i X ⟨d, .index u x y, ty, pos, af, g⟩ = aops P ds [⟨d, .index u x y, ty, pos, af, g⟩] t h fun t' h' => X S t' h' := qstep_of _ rfl rfl _ rfl
theorem qs_extract (x : Operand) (k : Nat) : qstep P ds S t h i X ⟨d, .extract x k, ty, pos, af, g⟩ = aops P ds [⟨d, .extract x k, ty, pos, af, g⟩] t h fun t' h' => X S t' h' := qstep_of _ rfl rfl _ rfl
theorem qs_slice (u : TypeId) (x : Operand) (lo hi mx : Option Operand) : qstep P ds S t h i X ⟨d, .slice u x lo hi mx, ty, pos, af, g⟩ = aops P ds [⟨d, .slice u x lo hi mx, ty, pos, af, g⟩] t h fun t' h' => X S t' h' := qstep_of _ rfl rfl _ rfl
theorem qs_build (u : TypeId) (ps : Array (Nat × Operand)) : qstep P ds S t h i X ⟨d, .build u ps, ty, pos, af, g⟩ = aops P ds [⟨d, .build u ps, ty, pos, af, g⟩] t h fun t' h' => X S t' h' := qstep_of _ rfl rfl _ rfl
theorem qs_makeFunc (fn : Fn) (f c : Array Operand) : qstep P ds S t h i X ⟨d, .makeFunc fn f c, ty, pos, af, g⟩ = aops P ds [⟨d, .makeFunc fn f c, ty, pos, af, g⟩] t h fun t' h' => X S t' h' := qstep_of _ rfl rfl _ rfl
theorem qs_load (u : TypeId) (x : Operand) : qstep P ds S t h i X ⟨d, .load u x, ty, pos, af, g⟩ = aops P ds [⟨d, .load u x, ty, pos, af, g⟩] t h fun t' h' => X (wt i (aev t x) S) t' h' := by
  refine qstep_of _ rfl rfl _ ?_
  simp only [watch, qid, wt]
  split <;> rename_i e <;> split at e <;> simp_all
/-- What a length watches. -/
def wtm (i : Nat) (v : Value) (S : List (Nat × Nat)) : List (Nat × Nat) := match v with | .map (some r) => (i, r) :: S | _ => S
theorem wtm_str (i : Nat) (s : ByteArray) (S : List (Nat × Nat)) : wtm i (.string s) S = S := rfl
theorem wtm_sl (i : Nat) (A : Option Addr) (n k : Nat) (S : List (Nat × Nat)) : wtm i (.slice A n k) S = S := rfl
theorem wtm_map (i r : Nat) (S : List (Nat × Nat)) : wtm i (.map (some r)) S = (i, r) :: S := rfl
theorem qs_len (x : Operand) (ts : Array TypeId) : qstep P ds S t h i X ⟨d, .call { callee := .builtin .len, args := #[x], argTypes := ts }, ty, pos, af, g⟩ =
    aops P ds [⟨d, .call { callee := .builtin .len, args := #[x], argTypes := ts }, ty, pos, af, g⟩] t h fun t' h' => X (wtm i (aev t x) S) t' h' := by
  refine qstep_of _ rfl rfl _ ?_
  simp only [watch, qid, wtm]
  simp only [List.map_cons, List.map_nil]
  generalize aev t x = v
  cases v <;> first | rfl | (rename_i o; cases o <;> rfl)
/-- What a turning of types watches. -/
def wtc (i : Nat) (v : Value) (S : List (Nat × Nat)) : List (Nat × Nat) := match v with | .slice (some a) _ _ => (i, a.block) :: S | _ => S
theorem wtc_int (i : Nat) (k : IntKind) (n : Int) (S : List (Nat × Nat)) : wtc i (.int k n) S = S := rfl
theorem wtc_sl (i b off n k : Nat) (fo : Option Nat) (S : List (Nat × Nat)) : wtc i (.slice (some ⟨b, off, fo⟩) n k) S = (i, b) :: S := rfl
theorem qs_convert (u v : TypeId) (x : Operand) : qstep P ds S t h i X ⟨d, .convert u v x, ty, pos, af, g⟩ = (qval (aev t) (.convert u v x) ∧ aops P ds [⟨d, .convert u v x, ty, pos, af, g⟩] t h fun t' h' => X (wtc i (aev t x) S) t' h') := by
  have e : watch i (.convert u v x) (aev t) S = wtc i (aev t x) S := by
    simp only [watch, qid, wtc]
    split <;> rename_i e <;> split at e <;> simp_all
  unfold qstep; rw [e]; simp [qkind]
/-- An int or a slice. -/
def isI (v : Value) : Prop := match v with | .int _ _ => True | .slice _ _ _ => True | _ => False
theorem qval_convert (u v : TypeId) (x : Operand) : qval (aev t) (.convert u v x) = isI (aev t x) := rfl
theorem isI_int (k : IntKind) (n : Int) : isI (.int k n) = True := rfl
theorem isI_sl (a : Option Addr) (n k : Nat) : isI (.slice a n k) = True := rfl
end
attribute [push_cast] opAt_zero opAt_succ walk_done walk_q walk_last walk_a walk_b kp_nil kp_cons wt_ptr qs_move qs_assign qs_pick qs_nil qs_bin qs_un qs_fieldAddr qs_field qs_indexAddr qs_index qs_extract qs_slice qs_build qs_makeFunc qs_load qs_convert qs_len wtm_str wtm_sl wtm_map qval_convert isI_int isI_sl wtc_int wtc_sl

end Go.Sim
