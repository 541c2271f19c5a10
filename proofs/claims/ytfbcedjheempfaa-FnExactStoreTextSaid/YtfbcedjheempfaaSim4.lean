/- What an operation makes of an abstract heap, and that the model's operation does likewise: values, types, loads, stores, new objects. Conditions: those that each theorem names. -/
import Derived.Test.YtfbcedjheempfaaSim3
set_option linter.unusedVariables false
set_option linter.unusedSimpArgs false
namespace Go.Sim
variable {P : Program} {FB : Nat → Prop} {w0 : World} {μ : Nat → Option Loc} {h : AH} {w : World}

/-! ### types -/
def aggD : TypeDesc → Bool
  | .struct _ | .array _ _ => true
  | _ => false
def zok : Value → Bool
  | .slice Option.none 0 0 => true
  | v => isPlain v && one v
structure TI where
  size : Nat
  bytes : Nat
  zero : List Value
  agg : Bool
def ti (P : Program) (t : TypeId) : Option TI :=
  match P.underlying t, P.info? t with
  | some d, some i =>
    match i.zero with
    | some z => if z.cells.size = i.size ∧ z.cells.all zok = true ∧ (aggD d = true ∨ i.size = 1) ∧ (aggD d = false → one z = true) then some ⟨i.size, i.bytes, z.cells.toList, aggD d⟩ else none
    | none => none
  | _, _ => none
/-- The element type of a slice type, and what is known of it. -/
def si (P : Program) (t : TypeId) : Option (TypeId × TI) :=
  match P.underlying t with
  | some (.slice e) => (ti P e).map fun i => (e, i)
  | _ => none
/-- A field: its place, its size, whether it is a struct. -/
def fi (P : Program) (t : TypeId) (f : Nat) : Option (Nat × Nat × Bool) :=
  match P.underlying t with
  | some (.struct fs) =>
    match fs[f]? with
    | some fd => (ti P fd.type).map fun i => (fd.offset, i.size, i.agg)
    | none => none
  | _ => none
def sti (P : Program) (t : TypeId) : Option TI :=
  match P.underlying t with
  | some (.struct fs) => if fs.all (fun f => (P.info? f.type).isSome) then ti P t else none
  | _ => none

structure TIFacts (P : Program) (t : TypeId) (i : TI) (d : TypeDesc) (j : TypeInfo) (z : Value) : Prop where
  und : P.underlying t = some d
  info : P.info? t = some j
  jz : j.zero = some z
  size : j.size = i.size
  bytes : j.bytes = i.bytes
  zc : z.cells.toList = i.zero
  zn : i.zero.length = i.size
  zk : ∀ v ∈ i.zero, zok v = true
  agg : i.agg = aggD d
  one : aggD d = true ∨ i.size = 1
  zone : aggD d = false → Sim.one z = true

theorem ti_facts {t : TypeId} {i : TI} (e : ti P t = some i) : ∃ d j z, TIFacts P t i d j z := by
  unfold ti at e
  split at e
  · rename_i d j hd hj
    split at e
    · rename_i z hz
      split at e
      · rename_i hc
        obtain ⟨a, b, c, c2⟩ := hc
        obtain rfl := Option.some.inj e
        exact ⟨d, j, z, hd, hj, hz, rfl, rfl, rfl, by simpa using a, by intro v hv; exact Array.all_eq_true_iff_forall_mem.1 b v (by simpa using hv), rfl, c, c2⟩
      · cases e
    · cases e
  · cases e

set_option linter.unusedVariables false
theorem zok_VR {v : Value} (e : zok v = true) (μ : Nat → Option Loc) : VR μ v v := by
  unfold zok at e
  split at e
  · exact .sl0 _ _
  · simp at e; exact .plain _ e.1
theorem zok_one {v : Value} (e : zok v = true) : one v = true := by
  unfold zok at e
  split at e
  · rfl
  · simp at e; exact e.2
theorem LR.refl_zok {l : List Value} (e : ∀ v ∈ l, zok v = true) (μ : Nat → Option Loc) : LR μ l l :=
  ⟨rfl, fun j a _ => zok_VR (e _ (List.getElem_mem a)) μ⟩

section runs
variable {t : TypeId} {i : TI} {d : TypeDesc} {j : TypeInfo} {z : Value} (w : World)
theorem TIFacts.runInfo (f : TIFacts P t i d j z) : (typeInfo t).run P w = .ok j w := by simp [typeInfo, f.info]
theorem TIFacts.runSize (f : TIFacts P t i d j z) : (sizeOf t).run P w = .ok i.size w := by simp [sizeOf, f.runInfo, f.size]
theorem TIFacts.runZero (f : TIFacts P t i d j z) : (zeroValue t).run P w = .ok z w := by simp [zeroValue, f.runInfo, f.jz]
theorem TIFacts.runAgg (f : TIFacts P t i d j z) : (isAgg t).run P w = .ok i.agg w := by
  rw [f.agg]; unfold isAgg
  simp only [Sem.run_bind, run_underlying f.und, Result.andThen_ok]
  cases d <;> rfl
end runs

theorem add_none (b o n : Nat) : (⟨b, o, none⟩ : Addr).add n = ⟨b, o + n, none⟩ := by unfold Addr.add; split <;> simp_all

/-! ### judgements -/
/-- An operation: whatever world the heap lies in, and whatever stands for its operands. -/
def AOp (P : Program) (o : Oper) (ρ : Operand → Value) (h : AH) (v : Value) (h' : AH) : Prop :=
  ∀ FB w0 μ (a : Act) (w : World) (K : Act → World → Prop) (Q : Exit → Act → World → Prop), Sim P FB w0 μ h w → (∀ x ∈ o.op.operands, VR μ (ρ x) (a.eval x)) →
    (∀ μ' cv w', Post P FB w0 μ h μ' h' w' → VR μ' v cv → K (a.put o.dst cv) w') → o.wp P a w K Q

/-- An instruction that gives a value. -/
def AIns (P : Program) (S : (Operand → Value) → Sem Value) (ops : List Operand) (ρ : Operand → Value) (h : AH) (v : Value) (h' : AH) : Prop :=
  ∀ FB w0 μ (σ : Operand → Value) (w : World), Sim P FB w0 μ h w → (∀ x ∈ ops, VR μ (ρ x) (σ x)) →
    ∃ μ' cv w', (S σ).run P w = .ok cv w' ∧ Post P FB w0 μ h μ' h' w' ∧ VR μ' v cv

theorem AIns.op {o : Oper} {S : (Operand → Value) → Sem Value} {ρ : Operand → Value} {v : Value} {h' : AH} (hs : AIns P S o.op.operands.toList ρ h v h')
    (he : ∀ σ, execOp σ o = (do pure (.value (← S σ)))) : AOp P o ρ h v h' := by
  intro FB w0 μ a w K Q s hx hk
  obtain ⟨μ', cv, w', hr, p, hv⟩ := hs FB w0 μ a.eval w s (fun x hx' => hx x (by simpa using hx'))
  unfold Oper.wp
  rw [he]
  simp only [Sem.run_bind, hr, Result.andThen_ok, Sem.run_pure, Oper.upon]
  exact hk μ' cv w' p hv

/-- Where nothing is touched. -/
theorem AIns.quiet {S : (Operand → Value) → Sem Value} {ops : List Operand} {ρ : Operand → Value} {v : Value}
    (hs : ∀ FB w0 μ (σ : Operand → Value) (w : World), Sim P FB w0 μ h w → (∀ x ∈ ops, VR μ (ρ x) (σ x)) → ∃ cv, (S σ).run P w = .ok cv w ∧ VR μ v cv) : AIns P S ops ρ h v h :=
  fun FB w0 μ σ w s hx => let ⟨cv, a, b⟩ := hs FB w0 μ σ w s hx; ⟨μ, cv, w, a, s.post, b⟩

/-! ### reading -/
def rd (h : AH) (i off n : Nat) : Option (List Value) :=
  match h.ob i with
  | .cells cs _ _ => if off + n ≤ cs.length then some ((cs.drop off).take n) else none
  | _ => none
def rd1 (h : AH) (i off : Nat) : Option Value :=
  match h.ob i with
  | .cells cs _ _ => cs[off]?
  | _ => none

theorem run_loadCells_list (P : Program) (w : World) (b o n : Nat) (l : List Value) (hl : l.length = n) (hc : ∀ j (hj : j < l.length), w.cell? ⟨b, o + j, none⟩ = some l[j]) :
    (loadCells ⟨b, o, none⟩ n).run P w = .ok l.toArray w := by
  have := @run_loadCells P w ⟨b, o, none⟩ n (fun j => l.getD j undef) (fun j hj => by
    rw [add_none, hc j (by omega)]; simp [List.getD, hl, hj])
  rw [this]
  congr 1
  apply Array.ext
  · simp [hl]
  · intro k h1 h2
    simp only [List.size_toArray] at h2
    simp [List.getD, h2]

theorem Sim.read (s : Sim P FB w0 μ h w) {i off n : Nat} {l : Loc} {vs : List Value} (hm : μ i = some l) (hr : rd h i off n = some vs) :
    ∃ cvs, LR μ vs cvs ∧ cvs.length = n ∧ ∀ j (hj : j < cvs.length), w.cell? ⟨l.b, l.o + off + j, none⟩ = some cvs[j] := by
  unfold rd at hr
  split at hr
  · rename_i cs st ln ho
    split at hr
    · rename_i hb
      obtain rfl := Option.some.inj hr
      have hall : ∀ j, j < n → ∃ cv, w.cell? ⟨l.b, l.o + off + j, none⟩ = some cv ∧ VR μ (cs.getD (off + j) undef) cv := fun j hj => by
        obtain ⟨cv, a, b⟩ := s.cell i l cs st ln hm ho (off + j) (by omega)
        exact ⟨cv, by rw [show l.o + off + j = l.o + (off + j) by omega]; exact a, by simpa [List.getD, show off + j < cs.length by omega] using b⟩
      have : ∃ cvs : List Value, cvs.length = n ∧ ∀ j (hj : j < cvs.length), w.cell? ⟨l.b, l.o + off + j, none⟩ = some cvs[j] ∧ VR μ (cs.getD (off + j) undef) cvs[j] := by
        clear hb hr
        induction n with
        | zero => exact ⟨[], rfl, fun j hj => by simp at hj⟩
        | succ n ih =>
          obtain ⟨cvs, h1, h2⟩ := ih (fun j hj => hall j (by omega))
          obtain ⟨cv, a, b⟩ := hall n (by omega)
          refine ⟨cvs ++ [cv], by simp [h1], fun j hj => ?_⟩
          by_cases hjn : j < cvs.length
          · rw [List.getElem_append_left hjn]; exact h2 j hjn
          · have : j = n := by simp at hj; omega
            subst this
            have e : (cvs ++ [cv])[j] = cv := by rw [List.getElem_append_right (by omega)]; simp [h1]
            rw [e]; exact ⟨a, b⟩
      obtain ⟨cvs, h1, h2⟩ := this
      refine ⟨cvs, ⟨by simp [h1]; omega, fun j a b => ?_⟩, h1, fun j hj => (h2 j hj).1⟩
      have := (h2 j b).2
      simp only [List.length_take, List.length_drop] at a
      simpa [List.getD, show off + j < cs.length by omega] using this
    · cases hr
  · cases hr

theorem Sim.read1 (s : Sim P FB w0 μ h w) {i off : Nat} {l : Loc} {v : Value} (hm : μ i = some l) (hr : rd1 h i off = some v) :
    ∃ cv, w.cell? ⟨l.b, l.o + off, none⟩ = some cv ∧ VR μ v cv := by
  unfold rd1 at hr
  split at hr
  · rename_i cs st ln ho
    have hb : off < cs.length := (List.getElem?_eq_some_iff.1 hr).1
    obtain ⟨cv, a, b⟩ := s.cell i l cs st ln hm ho off hb
    rw [List.getElem?_eq_getElem hb] at hr
    obtain rfl := Option.some.inj hr
    exact ⟨cv, a, b⟩
  · cases hr

/-- A load. -/
def aload (P : Program) (h : AH) (t : TypeId) (p : Value) (K : Value → Prop) : Prop :=
  match ti P t, p with
  | some i, .pointer (some ⟨id, off, Option.none⟩) =>
    if i.agg then (match rd h id off i.size with | some vs => K (.agg vs.toArray) | none => False)
    else (match rd1 h id off with | some v => K v | none => False)
  | _, _ => False

theorem aload_sound {t : TypeId} {x : Operand} {ρ : Operand → Value} {K : Value → Prop} (hk : aload P h t (ρ x) K) :
    ∃ v, AIns P (fun σ => Instr.loadAt t (σ x)) [x] ρ h v h ∧ K v := by
  unfold aload at hk
  split at hk
  · rename_i i id off ht hp
    obtain ⟨d, j, z, f⟩ := ti_facts ht
    have hpt : ∀ {μ : Nat → Option Loc} {c : Value}, VR μ (ρ x) c → ∃ l, μ id = some l ∧ c = .pointer (some ⟨l.b, l.o + off, none⟩) := by
      intro μ c hc
      rw [hp] at hc
      cases hc with
      | ptr _ _ l hm => exact ⟨l, hm, rfl⟩
      | plain _ hq => simp [isPlain] at hq
    split at hk
    · rename_i hag
      split at hk
      · rename_i vs hvs
        refine ⟨_, AIns.quiet (fun FB w0 μ σ w s hx => ?_), hk⟩
        obtain ⟨l, hm, he⟩ := hpt (hx x (by simp))
        obtain ⟨cvs, h1, h2, h3⟩ := s.read hm hvs
        refine ⟨.agg cvs.toArray, ?_, .agg _ _ (by simpa using h1.1) (fun j a b => by simpa using h1.2 j (by simpa using a) (by simpa using b))⟩
        simp only [he, Instr.loadAt, Instr.sureAddr, loadVar, Sem.run_bind, Sem.run_pure, Result.andThen_ok, f.runAgg, hag, if_true, f.runSize]
        rw [run_loadCells_list P w l.b (l.o + off) i.size cvs h2 h3]
        rfl
      · exact hk.elim
    · rename_i hag
      split at hk
      · rename_i v hv
        refine ⟨v, AIns.quiet (fun FB w0 μ σ w s hx => ?_), hk⟩
        obtain ⟨l, hm, he⟩ := hpt (hx x (by simp))
        obtain ⟨cv, h1, h2⟩ := s.read1 hm hv
        refine ⟨cv, ?_, h2⟩
        have hag' : i.agg = false := by simpa using hag
        simp [he, Instr.loadAt, Instr.sureAddr, loadVar, f.runAgg, hag', h1]
      · exact hk.elim
  · exact hk.elim

/-! ### new objects -/
theorem run_newRow (P : Program) (w : World) (e : TypeId) (c : Array Value) : (newRow e c).run P w = .ok ⟨w.heap.size, 0, none⟩ (w.alloc (.cells c e)) := by
  simp [newRow]

theorem new_post (s : Sim P FB w0 μ h w) {cs : List Value} {arr : Array Value} (e : TypeId) (hl : LR μ cs arr.toList) (h1 : ∀ v ∈ cs, one v = true) :
    Post P FB w0 μ h (upd μ h.n ⟨w.heap.size, 0, arr.size⟩) (h.alloc (.cells cs .solo h.n)) (w.alloc (.cells arr e)) :=
  s.new (by have := hl.1; simp at this; omega) (fun j a b => hl.2 j a (by simpa using b)) (fun j _ hc => by simp at hc) h1

theorem box_sound {t : TypeId} {x : Operand} {ρ : Operand → Value} (h1 : ∀ v ∈ (ρ x).cells.toList, one v = true) :
    AIns P (fun σ => Instr.box t (σ x)) [x] ρ h (.pointer (some ⟨h.n, 0, none⟩)) (h.alloc (.cells (ρ x).cells.toList .solo h.n)) := by
  intro FB w0 μ σ w s hx
  have hv := hx x (by simp)
  refine ⟨_, _, _, ?_, new_post s t hv.cellsLR.list h1, .ptr h.n 0 ⟨w.heap.size, 0, (σ x).cells.size⟩ (upd_same _ _)⟩
  simp [Instr.box, newVar, run_newRow]

theorem alloc_sound {t : TypeId} {ρ : Operand → Value} {i : TI} (ht : ti P t = some i) :
    AIns P (fun _ => Instr.alloc t true (.tuple #[])) [] ρ h (.pointer (some ⟨h.n, 0, none⟩)) (h.alloc (.cells i.zero .solo h.n)) := by
  intro FB w0 μ σ w s hx
  obtain ⟨d, j, z, f⟩ := ti_facts ht
  have hz : LR μ i.zero z.cells.toList := by rw [f.zc]; exact LR.refl_zok f.zk μ
  refine ⟨_, _, _, ?_, new_post s t hz (fun v hv => zok_one (f.zk v hv)), .ptr h.n 0 ⟨w.heap.size, 0, z.cells.size⟩ (upd_same _ _)⟩
  simp [Instr.alloc, f.runZero, newVar, run_newRow]

/-! ### a store -/
def AH.aloneB (h : AH) (i : Nat) : AH := ⟨h.n, fun j => if j = i then h.ob j else
  match h.ob i with
  | .cells _ .solo _ => h.ob j
  | .cells _ _ ln => if (h.ob j).own = some ln then .none else h.ob j
  | _ => h.ob j⟩
/-- The heap behind a store of these cells. -/
def wr (h : AH) (i off : Nat) (vs : List Value) : Option AH :=
  match h.ob i with
  | .cells cs .solo ln => if off + vs.length ≤ cs.length then some (h.set i (.cells (putL cs off vs) .solo ln)) else none
  | .cells cs .tip ln => if off + vs.length ≤ cs.length then some ((h.kill ln).set i (.cells (putL cs off vs) .tip ln)) else none
  | _ => none

def astore (P : Program) (h : AH) (t : TypeId) (p v : Value) (K : AH → Prop) : Prop :=
  match ti P t, p with
  | some i, .pointer (some ⟨id, off, Option.none⟩) =>
    v.cells.size = i.size ∧ v.cells.all one = true ∧ (match wr h id off v.cells.toList with | some h' => K h' | none => False)
  | _, _ => False

theorem one_eq (v : Value) : v.oneCell' = one v := by cases v <;> rfl

theorem Sim.write (s : Sim P FB w0 μ h w) {i off : Nat} {l : Loc} {vs cvs : List Value} {h' : AH} (hm : μ i = some l) (hr : wr h i off vs = some h') (hv : LR μ vs cvs) (h1 : ∀ v ∈ vs, one v = true) :
    Post P FB w0 μ h μ h' (w.setCells l.b (l.o + off) cvs) ∧ (∀ j, j < cvs.length → (w.cell? ⟨l.b, l.o + off + j, none⟩).isSome = true) ∧ ∀ j, j < cvs.length → w.frozen? ⟨l.b, l.o + off + j, none⟩ = false := by
  have hlen := hv.1
  unfold wr at hr
  split at hr
  · rename_i cs ln ho
    split at hr
    · rename_i hb
      obtain rfl := Option.some.inj hr
      obtain ⟨rfl, hu⟩ := s.solo i cs ln ho
      obtain ⟨_, hblk, hroom⟩ := s.blk ln l cs _ ln hm ho (by simp)
      refine ⟨⟨s.store hm ho (by simp) hu off hb hv h1, Ext.refl _, ⟨Nat.le_refl _, fun j hj hjm => ⟨hjm, ?_⟩⟩⟩, fun j hj => ?_, fun j hj => ?_⟩
      · have : j ≠ ln := fun e => by subst e; rw [hm] at hjm; cases hjm
        simp [AH.set, this]
      · obtain ⟨v, e⟩ := hblk.cell (j := off + j) (by omega)
        rw [show l.o + off + j = l.o + (off + j) by omega, e]; rfl
      · rw [show l.o + off + j = l.o + (off + j) by omega]; exact hblk.frozen (by omega)
    · cases hr
  · rename_i cs ln ho
    split at hr
    · rename_i hb
      obtain rfl := Option.some.inj hr
      obtain ⟨hfb, hblk, hroom⟩ := s.blk i l cs _ ln hm ho (by simp)
      have howni : (h.ob i).own = some ln := by rw [ho]; rfl
      -- all others of its line are struck first
      have s1 : Sim P FB w0 μ ((h.kill ln).set i (.cells cs .tip ln)) w := by
        refine s.less ⟨rfl, fun j => ?_⟩
        by_cases e : j = i
        · subst e; right; left; simp [AH.set, ho]
        · by_cases e2 : (h.ob j).own = some ln
          · left; simp [AH.set, AH.kill, e, e2]
          · right; left; simp [AH.set, AH.kill, e, e2]
      have ho1 : ((h.kill ln).set i (.cells cs .tip ln)).ob i = .cells cs .tip ln := by simp [AH.set]
      have hu : ∀ j, (((h.kill ln).set i (.cells cs .tip ln)).ob j).own = some ln → j = i := fun j hj => by
        apply Classical.byContradiction; intro e
        by_cases e2 : (h.ob j).own = some ln
        · have : ((h.kill ln).set i (.cells cs .tip ln)).ob j = .none := by simp [AH.set, AH.kill, e, e2]
          rw [this] at hj; cases hj
        · simp [AH.set, AH.kill, e, e2] at hj
      have s2 := s1.store hm ho1 (by simp) hu off hb hv h1
      have hset : ((h.kill ln).set i (.cells cs .tip ln)).set i (.cells (putL cs off vs) .tip ln) = (h.kill ln).set i (.cells (putL cs off vs) .tip ln) := by
        simp only [AH.set, AH.mk.injEq, true_and]
        funext j; by_cases e : j = i <;> simp [e]
      rw [hset] at s2
      refine ⟨⟨s2, Ext.refl _, ⟨Nat.le_refl _, fun j hj hjm => ⟨hjm, ?_⟩⟩⟩, fun j hj => ?_, fun j hj => ?_⟩
      · have e : j ≠ i := fun e => by subst e; rw [hm] at hjm; cases hjm
        have e2 : (h.ob j).own ≠ some ln := fun e2 => absurd hjm (s.linc i j ln howni e2 (by rw [hm]; simp))
        simp [AH.set, AH.kill, e, e2]
      · obtain ⟨v, e⟩ := hblk.cell (j := off + j) (by omega)
        rw [show l.o + off + j = l.o + (off + j) by omega, e]; rfl
      · rw [show l.o + off + j = l.o + (off + j) by omega]; exact hblk.frozen (by omega)
    · cases hr
  · cases hr

theorem astore_sound {o : Oper} {t : TypeId} {x y : Operand} {ρ : Operand → Value} {K : AH → Prop} (ho : o.op = .store t x y) (hk : astore P h t (ρ x) (ρ y) K) :
    ∃ h', AOp P o ρ h undef h' ∧ K h' := by
  unfold astore at hk
  split at hk
  · rename_i i id off ht hp
    obtain ⟨hsz, hone, hk⟩ := hk
    split at hk
    · rename_i h' hw
      refine ⟨h', ?_, hk⟩
      intro FB w0 μ a w K' Q s hx hk'
      obtain ⟨d, j, z, f⟩ := ti_facts ht
      have vx := hx x (by rw [ho]; simp [Op.operands])
      have vy := hx y (by rw [ho]; simp [Op.operands])
      rw [hp] at vx
      obtain ⟨l, hm, hc⟩ : ∃ l, μ id = some l ∧ a.eval x = .pointer (some ⟨l.b, l.o + off, none⟩) := by
        cases hcc : a.eval x <;> rw [hcc] at vx <;> cases vx
        · rename_i hq; simp [isPlain] at hq
        · rename_i l hm; exact ⟨l, hm, rfl⟩
      have hcl := vy.cellsLR
      obtain ⟨p, q1, q2⟩ := s.write hm hw hcl.list (fun v hv => Array.all_eq_true_iff_forall_mem.1 hone v (by simpa using hv))
      have hsz' : (a.eval y).cells.size = i.size := by rw [← hcl.1]; exact hsz
      have hone' : ∀ v ∈ (a.eval y).cells.toList, v.oneCell' = true := fun v hv => by
        obtain ⟨k, hk1, rfl⟩ := List.getElem_of_mem hv
        have hk2 : k < (a.eval y).cells.size := by simpa using hk1
        have hk3 : k < (ρ y).cells.size := by rw [hcl.1]; exact hk2
        rw [one_eq]
        have := (hcl.2 k hk3 hk2).one
        simp only [Array.getElem_toList]
        rw [this]
        exact Array.all_eq_true_iff_forall_mem.1 hone _ (Array.getElem_mem hk3)
      have hrun := run_storeCells_cells (P := P) l.b (l.o + off) (a.eval y).cells.toList 0 w (fun k hk => by simpa using q1 k hk) (fun k hk => by simpa using q2 k hk) hone'
      have := hk' μ undef _ p (VR.undef _)
      unfold Oper.wp
      simp only [execOp, ho, hc, Instr.storeAt, Instr.sureAddr, storeVar, Sem.run_bind, Sem.run_pure, Result.andThen_ok, f.runSize, hsz', ne_eq, not_true_eq_false, if_false, hrun, Oper.upon]
      simpa using this
    · exact hk.elim
  · exact hk.elim

end Go.Sim
