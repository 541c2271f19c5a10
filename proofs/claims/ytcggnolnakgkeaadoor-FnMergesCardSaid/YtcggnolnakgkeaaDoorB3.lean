/- Parts of the proof of the row: the ground, contracts of the functions that it reaches (SimH, SimI, SimJ, Ty, SimN, SimK, SimL, SimM, P1, P2, P3, P4, L1, L2, L3, L4, L5, L6, L7, L8, L9, L10, L11, L12, L13, L14, L15, L16, L17). Conditions: those that each theorem names. -/
import Derived.Deep.Slices
import Derived.ProofKit
import Derived.HandedShaped
import Derived.Test.YtcggnolnakgkeaaDoorProg
import Derived.KernelRfl
import Derived.Lib.Bytealg
import Derived.Test.YtcggnolnakgkeaaDoorB2
/- From what a row hands in to an abstract heap: objects that are read alone. Conditions: those that each theorem names. -/
set_option linter.unusedVariables false
set_option linter.unusedSimpArgs false
namespace Go.Sim
open Go.ChangeShapes Go.WideShapes Go.RowKit Go.Deep
variable {P : Program} {FB : Nat → Prop} {w0 : World} {μ : Nat → Option Loc} {h : AH} {w : World}

/-- A new object that is read alone: it lies below. -/
theorem Sim.addRo (s : Sim P FB w0 μ h w) (cs : List Value) (l : Loc) (hF : FB l.b) (hc : ∀ j (_ : j < cs.length), ∃ cv, w.cell? ⟨l.b, l.o + j, none⟩ = some cv ∧ VR μ cs[j] cv) (h1 : ∀ v ∈ cs, one v = true) :
    Post P FB w0 μ h (upd μ h.n l) (h.alloc (.cells cs .ro h.n)) w := by
  have hob : ∀ i, i ≠ h.n → (h.alloc (.cells cs .ro h.n)).ob i = h.ob i := fun i hi => by simp [AH.alloc, hi]
  have hnew : (h.alloc (.cells cs .ro h.n)).ob h.n = .cells cs .ro h.n := by simp [AH.alloc]
  have hx : Ext μ (upd μ h.n l) := fun i l' hm => by
    rw [upd_ne _ (by have := s.dom i l' hm; omega)]; exact hm
  have hown : ∀ i n, ((h.alloc (.cells cs .ro h.n)).ob i).own = some n → i ≠ h.n := fun i n ho e => by subst e; rw [hnew] at ho; simp [AOb.own] at ho
  have hnro : ∀ i c st n, (h.alloc (.cells cs .ro h.n)).ob i = .cells c st n → st ≠ .ro → i ≠ h.n := fun i c st n ho hs e => by
    subst e; rw [hnew] at ho; simp only [AOb.cells.injEq] at ho; exact hs ho.2.1.symm
  have hmp : ∀ i es, (h.alloc (.cells cs .ro h.n)).ob i = .map es → i ≠ h.n := fun i es ho e => by subst e; rw [hnew] at ho; cases ho
  have hup : ∀ i l', i ≠ h.n → upd μ h.n l i = some l' → μ i = some l' := fun i l' hne hm => by rwa [upd_ne _ hne] at hm
  refine ⟨?_, hx, ⟨by simp [AH.alloc], fun i hi hm => ⟨by rw [upd_ne _ (by omega)]; exact hm, hob i (by omega)⟩⟩⟩
  constructor
  case os => exact s.os
  case tape => exact s.tape
  case out => exact s.out
  case frame => exact s.frame
  case dom =>
    intro i l' hm
    by_cases e : i = h.n
    · subst e; simp [AH.alloc]
    · have := s.dom i l' (hup i l' e hm); simp [AH.alloc]; omega
  case big => intro i hi; simp [AH.alloc] at hi; rw [hob i (by omega)]; exact s.big i (by omega)
  case glob => intro g hg; obtain ⟨l', h1, h2⟩ := s.glob g hg; exact ⟨l', hx g l' h1, h2⟩
  case tab =>
    intro g c n hg ho
    have e1 : g ≠ h.n := fun e1 => by
      obtain ⟨l, a, _⟩ := s.glob g hg
      have := s.dom g l a
      omega
    rw [hob g e1] at ho
    exact s.tab g c n hg ho
  case cell =>
    intro i l' c st ln hm ho j hj
    by_cases e : i = h.n
    · subst e; rw [hnew] at ho
      simp only [AOb.cells.injEq] at ho
      obtain ⟨rfl, _, _⟩ := ho
      rw [upd_same] at hm
      obtain rfl := Option.some.inj hm
      obtain ⟨cv, q1, q2⟩ := hc j hj
      exact ⟨cv, q1, q2.ext hx⟩
    · rw [hob i e] at ho
      obtain ⟨cv, q1, q2⟩ := s.cell i l' c st ln (hup i l' e hm) ho j hj
      exact ⟨cv, q1, q2.ext hx⟩
  case blk =>
    intro i l' c st ln hm ho hs
    have e := hnro i c st ln ho hs
    rw [hob i e] at ho; exact s.blk i l' c st ln (hup i l' e hm) ho hs
  case rob =>
    intro i l' c n hm ho
    by_cases e : i = h.n
    · subst e; rw [upd_same] at hm; obtain rfl := Option.some.inj hm; exact hF
    · rw [hob i e] at ho; exact s.rob i l' c n (hup i l' e hm) ho
  case onec =>
    intro i c st' n ho
    by_cases e1 : i = h.n
    · subst e1; rw [hnew] at ho
      simp only [AOb.cells.injEq] at ho
      obtain ⟨rfl, _, _⟩ := ho
      exact h1
    · rw [hob i e1] at ho; exact s.onec i c st' n ho
  case sep =>
    intro i j li lj ni nj hi hj oi oj hb
    have e1 := hown i _ oi
    have e2 := hown j _ oj
    rw [hob i e1] at oi; rw [hob j e2] at oj
    exact s.sep i j li lj ni nj (hup _ _ e1 hi) (hup _ _ e2 hj) oi oj hb
  case tip =>
    intro i j li lj ci cj sj ni nj hi hj oi oj hs hb
    have e1 := hnro i _ _ _ oi (by simp)
    have e2 := hnro j _ _ _ oj hs
    rw [hob i e1] at oi; rw [hob j e2] at oj
    exact s.tip i j li lj ci cj sj ni nj (hup _ _ e1 hi) (hup _ _ e2 hj) oi oj hs hb
  case tipu =>
    intro i j ci cj n oi oj
    have e1 := hnro i _ _ _ oi (by simp)
    have e2 := hnro j _ _ _ oj (by simp)
    rw [hob i e1] at oi; rw [hob j e2] at oj
    exact s.tipu i j ci cj n oi oj
  case solo =>
    intro i c n oi
    have e1 := hnro i _ _ _ oi (by simp)
    rw [hob i e1] at oi
    obtain ⟨rfl, hu⟩ := s.solo i c n oi
    refine ⟨rfl, fun j hj => ?_⟩
    have e2 := hown j _ hj
    rw [hob j e2] at hj; exact hu j hj
  case lin =>
    intro i n oi
    have e1 := hown i _ oi
    rw [hob i e1] at oi; exact s.lin i n oi
  case linc =>
    intro i j n oi oj hm
    have e1 := hown i _ oi
    have e2 := hown j _ oj
    rw [hob i e1] at oi; rw [hob j e2] at oj
    rw [upd_ne _ e1] at hm
    rw [upd_ne _ e2]
    exact s.linc i j n oi oj hm
  case mp =>
    intro i l' es hm ho
    have e1 := hmp i _ ho
    rw [hob i e1] at ho
    obtain ⟨a, ents, clock, b, c⟩ := s.mp i l' es (hup _ _ e1 hm) ho
    exact ⟨a, ents, clock, b, c.ext hx⟩
  case mpu =>
    intro i j li lj es es' hi hj oi oj hb
    have e1 := hmp i _ oi
    have e2 := hmp j _ oj
    rw [hob i e1] at oi; rw [hob j e2] at oj
    exact s.mpu i j li lj es es' (hup _ _ e1 hi) (hup _ _ e2 hj) oi oj hb

/-- The heap that a function is called in: each block where it lies, nothing told of it. -/
def mu0 (w : World) (i : Nat) : Option Loc := if i < w.heap.size then some ⟨i, 0, 0⟩ else none
theorem Sim.base (w : World) (hg : P.globals.size ≤ w.heap.size) : Sim P (fun b => b < w.heap.size) w (mu0 w) ⟨w.heap.size, fun _ => .none⟩ w := by
  constructor <;> first | rfl | skip
  case frame => exact fun b hb => ⟨hb, rfl⟩
  case dom => intro i l hm; unfold mu0 at hm; split at hm <;> simp_all
  case big => intro i _; rfl
  case tab => intro g c n _ ho; cases ho
  case glob => intro g hg'; exact ⟨⟨g, 0, 0⟩, by unfold mu0; rw [if_pos (by omega)], rfl, rfl⟩
  all_goals (intros; simp_all [AOb.own])

/-- Fields one behind the other, up to so many cells. -/
def contig (P : Program) : List Field → Nat → Nat → Bool
  | [], o, tot => o == tot
  | f :: r, o, tot => f.offset == o && contig P r (o + P.cellsOf f.type) tot
/-- A type of bools, whole numbers, strings, slices and structs alone. -/
def flat (P : Program) : Nat → TypeId → Bool
  | 0, _ => false
  | n + 1, t =>
    match P.underlying t with
    | some .bool | some (.int _) | some .string => true
    | some (.slice e) => decide (0 < P.cellsOf e) && flat P n e
    | some (.struct fs) => contig P fs.toList 0 (P.cellsOf t) && fs.toList.all fun f => flat P n f.type
    | _ => false

/-- What such a value is, in an abstract heap. -/
inductive Rep (P : Program) (h : AH) : TypeId → List Value → Prop
  | bool (t : TypeId) (b : Bool) (ht : P.underlying t = some .bool) : Rep P h t [.bool b]
  | int (t : TypeId) (k : IntKind) (n : Int) (ht : P.underlying t = some (.int k)) (hw : (Lit.int k n).wf = true) : Rep P h t [.int k n]
  | str (t : TypeId) (s : ByteArray) (ht : P.underlying t = some .string) (hs : s.size ≤ maxLen) : Rep P h t [.string s]
  | nil (t e : TypeId) (c : Nat) (ht : P.underlying t = some (.slice e)) : Rep P h t [.slice none 0 c]
  | slice (t e : TypeId) (id n ln : Nat) (chs : List (List Value)) (ht : P.underlying t = some (.slice e)) (hid : id < h.n) (ho : h.ob id = .cells chs.flatten .ro ln) (hn : chs.length = n) (hm : n ≤ maxLen)
      (hl : ∀ i (a : i < chs.length), (chs[i]).length = P.cellsOf e) (hr : ∀ i (a : i < chs.length), Rep P h e chs[i]) : Rep P h t [.slice (some ⟨id, 0, none⟩) n (P.cellsOf e)]
  | struct (t : TypeId) (fs : Array Field) (cks : List (List Value)) (ht : P.underlying t = some (.struct fs)) (hn : cks.length = fs.toList.length)
      (hr : ∀ i (a : i < fs.toList.length) (b : i < cks.length), Rep P h (fs.toList[i]).type cks[i]) : Rep P h t cks.flatten

theorem Rep.pre {h' : AH} (p : Pre h h') {t : TypeId} {cs : List Value} (r : Rep P h t cs) : Rep P h' t cs := by
  induction r with
  | bool t b ht => exact .bool t b ht
  | int t k n ht hw => exact .int t k n ht hw
  | str t s ht hs => exact .str t s ht hs
  | nil t e c ht => exact .nil t e c ht
  | slice t e id n ln chs ht hid ho hn hm hl hr ih => exact .slice t e id n ln chs ht (Nat.lt_of_lt_of_le hid p.n) (by rw [p.ob id hid]; exact ho) hn hm hl ih
  | struct t fs cks ht hn hr ih => exact .struct t fs cks ht hn ih
theorem Rep.one {t : TypeId} {cs : List Value} (r : Rep P h t cs) : ∀ v ∈ cs, Sim.one v = true := by
  induction r with
  | bool | int | str | nil | slice => intro v hv; simp at hv; subst hv; rfl
  | struct t fs cks ht hn hr ih =>
    intro v hv
    obtain ⟨l, hl, hv⟩ := List.mem_flatten.1 hv
    obtain ⟨i, hi, rfl⟩ := List.mem_iff_getElem.1 hl
    exact ih i (by omega) hi v hv

/-- Cells that lie from a place on. -/
def At (μ : Nat → Option Loc) (w : World) (b o : Nat) (cs : List Value) : Prop := ∀ j (_ : j < cs.length), ∃ cv, w.cell? ⟨b, o + j, none⟩ = some cv ∧ VR μ cs[j] cv
theorem At.append {b o : Nat} {xs ys : List Value} (hx : At μ w b o xs) (hy : At μ w b (o + xs.length) ys) : At μ w b o (xs ++ ys) := by
  intro j hj
  by_cases e : j < xs.length
  · rw [List.getElem_append_left e]; exact hx j e
  · rw [List.getElem_append_right (by omega)]
    obtain ⟨cv, q1, q2⟩ := hy (j - xs.length) (by simp at hj; omega)
    exact ⟨cv, by rw [← q1]; congr 2; omega, q2⟩
theorem At.flatten {b k : Nat} : ∀ {chs : List (List Value)} {o : Nat}, (∀ c ∈ chs, c.length = k) → (∀ i (a : i < chs.length), At μ w b (o + i * k) chs[i]) → At μ w b o chs.flatten
  | [], o, _, _ => fun j hj => by simp at hj
  | c :: r, o, hk, ha => by
    rw [List.flatten_cons]
    have h0 := ha 0 (by simp)
    rw [Nat.zero_mul, Nat.add_zero] at h0
    refine At.append h0 (At.flatten (fun c hc => hk c (by simp [hc])) (fun i a => ?_))
    have := ha (i + 1) (by simpa using a)
    rw [hk c (by simp), show o + k + i * k = o + (i + 1) * k by rw [Nat.add_mul]; omega]
    simpa using this

section
variable {H : Type} {enc : TypeId × Value → H} {held : Bool}

theorem contig_flatten {tot : Nat} {cs : List Value} (hl : cs.length = tot) : ∀ {fs : List Field} {o : Nat}, contig P fs o tot = true → (fs.map fun f => (cs.drop f.offset).take (P.cellsOf f.type)).flatten = cs.drop o
  | [], o, hc => by
    simp only [contig, beq_iff_eq] at hc
    rw [List.map_nil, List.flatten_nil, List.drop_of_length_le (by omega)]
  | f :: r, o, hc => by
    simp only [contig, Bool.and_eq_true, beq_iff_eq] at hc
    rw [List.map_cons, List.flatten_cons, contig_flatten hl hc.2, hc.1]
    rw [← List.drop_drop, List.take_append_drop]
theorem LR.flatten : ∀ {a b : List (List Value)}, a.length = b.length → (∀ i (x : i < a.length) (y : i < b.length), LR μ a[i] b[i]) → LR μ a.flatten b.flatten
  | [], [], _, _ => LR.nil μ
  | x :: a, y :: b, hl, hr => by
    rw [List.flatten_cons, List.flatten_cons]
    exact (hr 0 (by simp) (by simp)).append (LR.flatten (by simpa using hl) (fun i p q => hr (i + 1) (by simpa using p) (by simpa using q)))

/-- What one value is, where it was read. -/
def OneRep (P : Program) (enc : TypeId × Value → H) (held : Bool) (FB : Nat → Prop) (w0 w : World) (fl : Nat) : Prop :=
  ∀ (fuel : Nat) (t : TypeId) (cs : List Value) (x : DataW H × List MemPlace), flat P fl t = true → DataW.trod enc P w 0 (fun _ => true) held fuel t cs = some x →
    ∀ {μ : Nat → Option Loc} {h : AH}, Sim P FB w0 μ h w → ∃ (μ' : Nat → Option Loc) (h' : AH) (acs : List Value), Post P FB w0 μ h μ' h' w ∧ Pre h h' ∧ LR μ' acs cs ∧ Rep P h' t acs

theorem rep_items {fl : Nat} (ih : OneRep P enc held FB w0 w fl) : ∀ (items : List (TypeId × List Value)), (∀ it ∈ items, flat P fl it.1 = true ∧ ∃ fuel x, DataW.trod enc P w 0 (fun _ => true) held fuel it.1 it.2 = some x) →
    ∀ {μ : Nat → Option Loc} {h : AH}, Sim P FB w0 μ h w → ∃ (μ' : Nat → Option Loc) (h' : AH) (acks : List (List Value)), Post P FB w0 μ h μ' h' w ∧ Pre h h' ∧ ∃ hl : acks.length = items.length, ∀ i (hi : i < items.length) (hi' : i < acks.length), LR μ' acks[i] items[i].2 ∧ Rep P h' items[i].1 acks[i]
  | [], _, μ, h, s => ⟨μ, h, [], s.post, Pre.refl h, rfl, fun i hi => by simp at hi⟩
  | it :: r, hit, μ, h, s => by
    obtain ⟨hf, fuel, x, hx⟩ := hit it (by simp)
    obtain ⟨μ1, h1, acs, p1, g1, l1, r1⟩ := ih fuel it.1 it.2 x hf hx s
    obtain ⟨μ2, h2, acks, p2, g2, hl, hr⟩ := rep_items ih r (fun y hy => hit y (by simp [hy])) p1.sim
    refine ⟨μ2, h2, acs :: acks, p1.trans p2, g1.trans g2, by simp [hl], fun i hi hi' => ?_⟩
    cases i with
    | zero => exact ⟨l1.ext p2.ext, r1.pre g2⟩
    | succ i => exact hr i (by simpa using hi) (by simpa using hi')

theorem one_rep (hF : ∀ b, b < w.heap.size → FB b) : ∀ fl, OneRep P enc held FB w0 w fl
  | 0 => fun fuel t cs x hf => by simp [flat] at hf
  | fl + 1 => by
    intro fuel t cs x hf hx μ h s
    have ih := one_rep hF fl
    unfold flat at hf
    split at hf
    · rename_i ht
      obtain ⟨b, rfl, _⟩ := DataW.trod_bool ht hx
      exact ⟨μ, h, [.bool b], s.post, Pre.refl h, LR.cons (.plain _ rfl) (LR.nil μ), .bool t b ht⟩
    · rename_i k ht
      obtain ⟨n, rfl, _, hw⟩ := DataW.trod_int ht hx
      exact ⟨μ, h, [.int k n], s.post, Pre.refl h, LR.cons (.plain _ rfl) (LR.nil μ), .int t k n ht hw⟩
    · rename_i ht
      obtain ⟨b, rfl, _, hs⟩ := DataW.trod_string ht hx
      exact ⟨μ, h, [.string b], s.post, Pre.refl h, LR.cons (.plain _ rfl) (LR.nil μ), .str t b ht hs⟩
    · rename_i e ht
      simp only [Bool.and_eq_true, decide_eq_true_eq] at hf
      obtain ⟨hk, hfe⟩ := hf
      rcases open_slice ht hx with ⟨rfl, _⟩ | ⟨a, len, cap, m, n', D, Pl, rfl, _, hlc, hcm, hm, _, hel⟩
      · exact ⟨μ, h, [.slice none 0 0], s.post, Pre.refl h, LR.cons (.sl0 none 0) (LR.nil μ), .nil t e 0 ht⟩
      · simp only [if_true] at hm
        subst hm
        by_cases hc0 : m = 0
        · subst hc0
          obtain rfl : len = 0 := by omega
          exact ⟨μ, h, [.slice none 0 0], s.post, Pre.refl h, LR.cons (.sl0 _ 0) (LR.nil μ), .nil t e 0 ht⟩
        · -- every element's cells
          have hcells : ∀ i, i < m → ∃ cs', cs'.length = P.cellsOf e ∧ (∀ j (hj : j < cs'.length), w.cell? ⟨a.block, a.off + (i * P.cellsOf e + j), none⟩ = some cs'[j]) ∧ DataW.trod enc P w 0 (fun _ => true) held n' e cs' = some (D i, Pl i) := by
            have spot : a.spot = none := by
              obtain ⟨cs', hc, _⟩ := hel 0 (by omega)
              obtain ⟨_, hcl, hat⟩ := World.cells?_some hc
              have := hat 0 (by omega)
              have hz : 0 * P.cellsOf e = 0 := by omega
              rw [hz] at this
              simp only [Addr.add, if_true] at this
              rw [List.getElem?_eq_getElem (by omega)] at this
              unfold World.cell? at this
              split at this
              · split at this
                · cases this
                · rename_i hsp; simpa using hsp
              · cases this
            intro i hi
            obtain ⟨cs', hc, ht'⟩ := hel i hi
            obtain ⟨_, hcl, hat⟩ := World.cells?_some hc
            refine ⟨cs', hcl, fun j hj => ?_, ht'⟩
            have := hat j (by omega)
            rw [List.getElem?_eq_getElem hj] at this
            rw [← this]
            congr 1
            unfold Addr.add
            cases a with
            | mk ab ao asp =>
              simp only at spot
              subst spot
              by_cases h1 : i * P.cellsOf e = 0 <;> by_cases h2 : j = 0 <;> simp [h1, h2] <;> omega
          have hblk : a.block < w.heap.size := by
            obtain ⟨cs', hcl, hat, _⟩ := hcells 0 (by omega)
            have := hat 0 (by omega)
            unfold World.cell? at this
            split at this
            · rename_i hh; exact (Array.getElem?_eq_some_iff.1 hh).1
            · cases this
          let c : Nat → List Value := fun i => if hi : i < m then (hcells i hi).choose else []
          have hc : ∀ i (hi : i < m), c i = (hcells i hi).choose := fun i hi => by simp only [c]; rw [dif_pos hi]
          obtain ⟨μ1, h1, acks, p1, g1, hl, hr⟩ := rep_items ih ((List.range len).map fun i => (e, c i)) (fun it hit => by
            obtain ⟨i, hi, rfl⟩ := List.mem_map.1 hit
            have hi' : i < m := by have := List.mem_range.1 hi; omega
            refine ⟨hfe, n', (D i, Pl i), ?_⟩
            simp only [hc i hi']
            exact (hcells i hi').choose_spec.2.2) s
          have hl' : acks.length = len := by simpa using hl
          have hlen : ∀ i (x : i < acks.length), (acks[i]).length = P.cellsOf e := fun i x => by
            have h1 := (hr i (by simp; omega) x).1.1
            simp only [List.getElem_map, List.getElem_range] at h1
            rw [h1, hc i (by omega)]
            exact (hcells i (by omega)).choose_spec.1
          have spot : a.spot = none := by
            obtain ⟨cs', hc, _⟩ := hel 0 (by omega)
            obtain ⟨_, hcl, hat⟩ := World.cells?_some hc
            have := hat 0 (by omega)
            have hz : 0 * P.cellsOf e = 0 := by omega
            rw [hz] at this
            simp only [Addr.add, if_true] at this
            rw [List.getElem?_eq_getElem (by omega)] at this
            unfold World.cell? at this
            split at this
            · split at this
              · cases this
              · rename_i hsp; simpa using hsp
            · cases this
          have hat : At μ1 w a.block a.off acks.flatten := by
            refine At.flatten (k := P.cellsOf e) (fun x hx => ?_) (fun i x j hj => ?_)
            · obtain ⟨i, hi, rfl⟩ := List.mem_iff_getElem.1 hx
              exact hlen i hi
            · obtain ⟨h1, _⟩ := hr i (by simp; omega) x
              have hj' : j < (c i).length := by
                rw [hc i (by omega), (hcells i (by omega)).choose_spec.1, ← hlen i x]; exact hj
              have h2 := h1.2 j hj (by simpa using hj')
              simp only [List.getElem_map, List.getElem_range] at h2
              refine ⟨(c i)[j], ?_, h2⟩
              have := (hcells i (by omega)).choose_spec.2.1 j (by rw [← hc i (by omega)]; exact hj')
              simp only [← hc i (show i < m by omega)] at this
              rw [← this]; congr 2; omega
          have hone : ∀ v ∈ acks.flatten, Sim.one v = true := fun v hv => by
            obtain ⟨l, hl2, hv⟩ := List.mem_flatten.1 hv
            obtain ⟨i, hi, rfl⟩ := List.mem_iff_getElem.1 hl2
            exact (hr i (by simp; omega) hi).2.one v hv
          have p2 := p1.sim.addRo acks.flatten ⟨a.block, a.off, m * P.cellsOf e⟩ (hF _ hblk) hat hone
          have g2 : Pre h1 (h1.alloc (.cells acks.flatten .ro h1.n)) := ⟨by simp [AH.alloc], fun i hi => alloc_lt _ hi⟩
          refine ⟨_, _, [.slice (some ⟨h1.n, 0, none⟩) len (P.cellsOf e)], p1.trans p2, g1.trans g2, LR.cons ?_ (LR.nil _), ?_⟩
          · have := VR.sl (μ := upd μ1 h1.n ⟨a.block, a.off, m * P.cellsOf e⟩) h1.n 0 len (P.cellsOf e) m ⟨a.block, a.off, m * P.cellsOf e⟩ (upd_same _ _) hlc (by simp)
            cases a with
            | mk ab ao asp =>
              simp only at spot
              subst spot
              simpa using this
          · refine .slice t e h1.n len h1.n acks ht (by simp [AH.alloc]) (alloc_same _) hl' (by omega) hlen (fun i x => ?_)
            have := (hr i (by simp; omega) x).2
            simp only [List.getElem_map] at this
            exact this.pre g2
    · rename_i fs ht
      simp only [Bool.and_eq_true, List.all_eq_true] at hf
      obtain ⟨xs, n', rfl, rfl, hcl, hxl, hxf⟩ := DataW.trod_struct ht hx
      obtain ⟨μ1, h1, acks, p1, g1, hl, hr⟩ := rep_items ih (fs.toList.map fun f => (f.type, (cs.drop f.offset).take (P.cellsOf f.type))) (fun it hit => by
        obtain ⟨f, hfm, rfl⟩ := List.mem_map.1 hit
        obtain ⟨i, hi, rfl⟩ := List.mem_iff_getElem.1 hfm
        have h1 := hxf i fs.toList[i] (by simp at hi; simp [hi])
        refine ⟨hf.2 _ hfm, n', xs[i]'(by simp at hi; omega), ?_⟩
        rw [h1, List.getElem?_eq_getElem]) s
      have hl' : acks.length = fs.toList.length := by simpa using hl
      have hcs : cs = ((fs.toList.map fun f => (f.type, (cs.drop f.offset).take (P.cellsOf f.type))).map (·.2)).flatten := by
        rw [List.map_map]
        have := contig_flatten (P := P) hcl hf.1
        rw [List.drop_zero] at this
        exact this.symm
      refine ⟨μ1, h1, acks.flatten, p1, g1, ?_, .struct t fs acks ht hl' (fun i x y => ?_)⟩
      · rw [hcs]
        refine LR.flatten (by simp [hl']) (fun i x y => ?_)
        have := (hr i (by simpa using y) x).1
        simpa using this
      · have := (hr i (by simpa using x) y).2
        simpa using this
    · cases hf
/-- From a contract to the row: the argument one cell. -/
theorem row_cell {f : FuncId} {t : TypeId} {v : Value} {d : DataW H} {ps : List MemPlace} {W : World} (fl : Nat) (hfl : flat P fl t = true) (hg : P.globals.size ≤ W.heap.size) (hv : v.cells.toList = [v])
    (ht : DataW.Trod enc P W 0 (fun _ => true) held t v d ps) (hc : ∀ (h : AH) (av : Value), Rep P h t [av] → P.globals.size ≤ h.n → CE P f [av] h fun r _ => r = .bool true) :
    Calls P f #[v] W fun e W' => e = .returned (.bool true) ∧ Below W.heap.size W W' := by
  obtain ⟨fuel, hx⟩ := ht
  rw [hv] at hx
  obtain ⟨μ, h, acs, p, g, l, r⟩ := one_rep (FB := fun b => b < W.heap.size) (w0 := W) (fun b hb => hb) fl fuel t [v] _ hfl hx (Sim.base W hg)
  obtain ⟨av, rfl⟩ : ∃ av, acs = [av] := by
    match acs, l.1 with
    | [a], _ => exact ⟨a, rfl⟩
  refine hc h av r (Nat.le_trans hg g.n) _ _ μ W #[v] _ p.sim l (fun r' h' μ' cv w' hr p' hvr => ?_)
  subst hr
  refine ⟨by rw [hvr.bool], ⟨p'.sim.os, p'.sim.tape, p'.sim.out, ?_, fun b hb => (p'.sim.frame b hb).2⟩⟩
  rcases Nat.eq_zero_or_pos W.heap.size with e | e
  · omega
  · have := (p'.sim.frame (W.heap.size - 1) (by omega)).1; omega
/-- The same, the argument a struct. -/
theorem row_struct {f : FuncId} {t : TypeId} {cs : Array Value} {d : DataW H} {ps : List MemPlace} {W : World} (fl : Nat) (hfl : flat P fl t = true) (hg : P.globals.size ≤ W.heap.size)
    (ht : DataW.Trod enc P W 0 (fun _ => true) held t (.agg cs) d ps) (hc : ∀ (h : AH) (acs : List Value), Rep P h t acs → P.globals.size ≤ h.n → CE P f [.agg acs.toArray] h fun r _ => r = .bool true) :
    Calls P f #[.agg cs] W fun e W' => e = .returned (.bool true) ∧ Below W.heap.size W W' := by
  obtain ⟨fuel, hx⟩ := ht
  obtain ⟨μ, h, acs, p, g, l, r⟩ := one_rep (FB := fun b => b < W.heap.size) (w0 := W) (fun b hb => hb) fl fuel t _ _ hfl hx (Sim.base W hg)
  have hvr : VR μ (.agg acs.toArray) (.agg cs) := .agg _ _ (by simpa [Value.cells] using l.1) (fun j a b => by simpa [Value.cells] using l.2 j (by simpa using a) (by simpa [Value.cells] using b))
  refine hc h acs r (Nat.le_trans hg g.n) _ _ μ W #[.agg cs] _ p.sim (LR.cons hvr (LR.nil μ)) (fun r' h' μ' cv w' hr p' hvr => ?_)
  subst hr
  refine ⟨by rw [hvr.bool], ⟨p'.sim.os, p'.sim.tape, p'.sim.out, ?_, fun b hb => (p'.sim.frame b hb).2⟩⟩
  rcases Nat.eq_zero_or_pos W.heap.size with e | e
  · omega
  · have := (p'.sim.frame (W.heap.size - 1) (by omega)).1; omega
end

end Go.Sim
/- Numbers in the walks. Conditions: those that each theorem names. -/
set_option linter.unusedVariables false
set_option linter.unusedSimpArgs false
namespace Go.Sim

theorem w64 {n : Int} (h0 : -9223372036854775808 ≤ n) (h1 : n ≤ 9223372036854775807) : IntKind.i64.wrap n = n := by
  rw [IntKind.wrap_i64]; omega
theorem w8 {n : Int} (h0 : 0 ≤ n) (h1 : n < 256) : IntKind.u8.wrap n = n := by
  simp only [IntKind.wrap, IntKind.bits, IntKind.signed, Bool.false_and]
  simp; omega
theorem w32 {n : Int} (h0 : 0 ≤ n) (h1 : n < 4294967296) : IntKind.u32.wrap n = n := by
  simp only [IntKind.wrap, IntKind.bits, IntKind.signed, Bool.false_and]
  simp; omega
theorem ne10 : ((1 : Nat) ≠ 0) = True := by simp
theorem bigSize (s : ByteArray) (h : s.size ≤ maxLen) : (s.size : Int) ≤ 9223372036854775807 := by
  have : maxLen = 9223372036854775807 := by decide
  omega
theorem n_alloc (h : AH) (o : AOb) : (h.alloc o).n = h.n + 1 := rfl
theorem n_set (h : AH) (i : Nat) (o : AOb) : (h.set i o).n = h.n := rfl
theorem all1 (v : Value) (e : one v = true) : #[v].all one 0 1 = true := by simp [e]
theorem bcase_mk {b : Bool} {X Y : Prop} (hx : b = true → X) (hy : b = false → Y) : bcase b X Y := ⟨hx, hy⟩
variable {P : Program} {h : AH}
theorem WC.loop' {c : Code} {Q : Exit → List Value → AH → Prop} {t : List Value} (hok : codeOK P.globals.size c = true) (I : List Value → AH → Prop) (m : List Value → AH → Nat) (h0 : I t h)
    (round : ∀ t h, I t h → wpc P c (thn (fun t' h' => I t' h' ∧ m t' h' < m t h) Q) t h) : WC P (.loop c) Q t h :=
  WC.loop hok I m h0 (fun t h i => by
    refine Eq.mp (congrArg (fun Q' => wpc P c Q' t h) ?_) (round t h i)
    funext ex t' h'
    cases ex <;> rfl)
theorem WC.draw' {id : Nat} {l : List Oper} {t : List Value} {Q : Exit → List Value → AH → Prop} (hm : P.follows .mixedOrders = true) (hok : codeOK P.globals.size (.region id l.toArray true) = true) (p : Plan)
    (hp : planOK l.toArray l.toArray.size p (Array.replicate l.toArray.size false) = true) (hw : walk P l (dsts l) p [] t h (Q .normal)) : WC P (.region id l.toArray true) Q t h :=
  WC.draw hm hok p hp hw
theorem toBytes_cons (n : Int) (r : List Value) : toBytes (.int .u8 n :: r) = (toBytes r).map (UInt8.ofNat n.toNat :: ·) := rfl
theorem toBytes_nil : toBytes [] = some [] := rfl
attribute [push_cast] toBytes_cons toBytes_nil if_true ne10 Nat.zero_add Nat.add_zero List.length_set
end Go.Sim
/- What is handed in, opened by its type. Conditions: those that each theorem names. -/
set_option linter.unusedVariables false
set_option linter.unusedSimpArgs false
namespace Go.Sim
variable {P : Program} {h : AH}

def fieldTypes (P : Program) (t : TypeId) : Option (List TypeId) :=
  match P.underlying t with
  | some (.struct fs) => some (fs.toList.map (·.type))
  | _ => none
def RepL (P : Program) (h : AH) : List TypeId → List (List Value) → Prop
  | [], [] => True
  | t :: ts, c :: cs => Rep P h t c ∧ RepL P h ts cs
  | _, _ => False
theorem repL_of : ∀ {ts : List TypeId} {cks : List (List Value)}, cks.length = ts.length → (∀ i (a : i < ts.length) (b : i < cks.length), Rep P h ts[i] cks[i]) → RepL P h ts cks
  | [], [], _, _ => trivial
  | t :: ts, c :: cs, hl, hr => ⟨hr 0 (by simp) (by simp), repL_of (by simpa using hl) (fun i a b => hr (i + 1) (by simpa using a) (by simpa using b))⟩
theorem Rep.fields {t : TypeId} {ts : List TypeId} {cs : List Value} (ht : fieldTypes P t = some ts) (r : Rep P h t cs) : ∃ cks, cs = cks.flatten ∧ RepL P h ts cks := by
  unfold fieldTypes at ht
  cases r with
  | struct _ fs cks hu hn hr =>
    rw [hu] at ht
    simp only [Option.some.injEq] at ht
    subst ht
    exact ⟨cks, rfl, repL_of (by simpa using hn) (fun i a b => by rw [List.getElem_map]; exact hr i (by simpa using a) b)⟩
  | _ => simp_all
theorem okWide_agg {t : TypeId} {ts : List TypeId} {W : World} {r : Reach} {base : Nat} {v : Value} (ht : fieldTypes P t = some ts) (hv : Value.okWide P W r base t v) : ∃ cs, v = .agg cs := by
  unfold fieldTypes at ht
  split at ht
  · rename_i fs hu
    obtain ⟨cs, rfl, _⟩ := Go.WideShapes.okWide_struct hu hv
    exact ⟨cs, rfl⟩
  · cases ht
theorem Rep.ofInt {t : TypeId} {k : IntKind} {cs : List Value} (ht : P.underlying t = some (.int k)) (r : Rep P h t cs) : ∃ n, cs = [.int k n] ∧ (Lit.int k n).wf = true := by
  cases r <;> simp_all
theorem Rep.ofStr {t : TypeId} {cs : List Value} (ht : P.underlying t = some .string) (r : Rep P h t cs) : ∃ s, cs = [.string s] ∧ s.size ≤ maxLen := by
  cases r <;> simp_all
theorem Rep.ofBool {t : TypeId} {cs : List Value} (ht : P.underlying t = some .bool) (r : Rep P h t cs) : ∃ b, cs = [.bool b] := by
  cases r <;> simp_all

/-- The heap reaches as far as the globals do. -/
theorem globals_le {W : World} (hsh : W.ShapedOpen P) {n : Nat} (hn : P.globals.size = n + 1) (h0 : ((((begin P (fun _ _ => 0) default).world.heap[n]?).bind Obj.row?).isSome) = true) : P.globals.size ≤ W.heap.size := by
  obtain ⟨⟨zero, t⟩, h1⟩ := Option.isSome_iff_exists.1 h0
  obtain ⟨cs, hh, _⟩ := hsh.1 n zero t (by omega) h1
  have := (Array.getElem?_eq_some_iff.1 hh).1
  omega

end Go.Sim
/- What is known of the types of this seat's program. Conditions: none. Written by types.py of this work. -/
namespace Go.Proofs.YtcggnolnakgkeaaDoor
open Go Go.Sim Go.Proofs
theorem ti1 : ti Tryd.prog 1 = some ⟨1, 8, [.nilFunc], false⟩ := by kernel_rfl
theorem und2 : Tryd.prog.underlying 2 = some (.int .i64) := by kernel_rfl
theorem ti2 : ti Tryd.prog 2 = some ⟨1, 8, [.int .i64 0], false⟩ := by kernel_rfl
theorem und3 : Tryd.prog.underlying 3 = some (.int .i64) := by kernel_rfl
theorem ti3 : ti Tryd.prog 3 = some ⟨1, 8, [.int .i64 0], false⟩ := by kernel_rfl
theorem und4 : Tryd.prog.underlying 4 = some (.bool) := by kernel_rfl
theorem ti4 : ti Tryd.prog 4 = some ⟨1, 1, [.bool false], false⟩ := by kernel_rfl
theorem und5 : Tryd.prog.underlying 5 = some (.int .u8) := by kernel_rfl
theorem ti5 : ti Tryd.prog 5 = some ⟨1, 1, [.int .u8 0], false⟩ := by kernel_rfl
theorem und6 : Tryd.prog.underlying 6 = some (.int .u8) := by kernel_rfl
theorem ti6 : ti Tryd.prog 6 = some ⟨1, 1, [.int .u8 0], false⟩ := by kernel_rfl
theorem ti7 : ti Tryd.prog 7 = some ⟨4, 24, [.int .i64 0, .int .i64 0, .bool false, .int .u8 0], true⟩ := by kernel_rfl
theorem sti7 : sti Tryd.prog 7 = some ⟨4, 24, [.int .i64 0, .int .i64 0, .bool false, .int .u8 0], true⟩ := by kernel_rfl
theorem fi7_0 : fi Tryd.prog 7 0 = some (0, 1, false) := by kernel_rfl
theorem fi7_1 : fi Tryd.prog 7 1 = some (1, 1, false) := by kernel_rfl
theorem fi7_2 : fi Tryd.prog 7 2 = some (2, 1, false) := by kernel_rfl
theorem fi7_3 : fi Tryd.prog 7 3 = some (3, 1, false) := by kernel_rfl
theorem ti8 : ti Tryd.prog 8 = some ⟨4, 24, [.int .i64 0, .int .i64 0, .bool false, .int .u8 0], true⟩ := by kernel_rfl
theorem sti8 : sti Tryd.prog 8 = some ⟨4, 24, [.int .i64 0, .int .i64 0, .bool false, .int .u8 0], true⟩ := by kernel_rfl
theorem fi8_0 : fi Tryd.prog 8 0 = some (0, 1, false) := by kernel_rfl
theorem fi8_1 : fi Tryd.prog 8 1 = some (1, 1, false) := by kernel_rfl
theorem fi8_2 : fi Tryd.prog 8 2 = some (2, 1, false) := by kernel_rfl
theorem fi8_3 : fi Tryd.prog 8 3 = some (3, 1, false) := by kernel_rfl
theorem und9 : Tryd.prog.underlying 9 = some (.string) := by kernel_rfl
theorem ti9 : ti Tryd.prog 9 = some ⟨1, 16, [(.string ⟨#[]⟩)], false⟩ := by kernel_rfl
theorem und10 : Tryd.prog.underlying 10 = some (.string) := by kernel_rfl
theorem ti10 : ti Tryd.prog 10 = some ⟨1, 16, [(.string ⟨#[]⟩)], false⟩ := by kernel_rfl
theorem und11 : Tryd.prog.underlying 11 = some (.string) := by kernel_rfl
theorem ti11 : ti Tryd.prog 11 = some ⟨1, 16, [(.string ⟨#[]⟩)], false⟩ := by kernel_rfl
theorem und12 : Tryd.prog.underlying 12 = some (.int .u64) := by kernel_rfl
theorem ti12 : ti Tryd.prog 12 = some ⟨1, 8, [.int .u64 0], false⟩ := by kernel_rfl
theorem ti13 : ti Tryd.prog 13 = some ⟨2, 24, [(.string ⟨#[]⟩), .int .u64 0], true⟩ := by kernel_rfl
theorem sti13 : sti Tryd.prog 13 = some ⟨2, 24, [(.string ⟨#[]⟩), .int .u64 0], true⟩ := by kernel_rfl
theorem fi13_0 : fi Tryd.prog 13 0 = some (0, 1, false) := by kernel_rfl
theorem fi13_1 : fi Tryd.prog 13 1 = some (1, 1, false) := by kernel_rfl
theorem ti14 : ti Tryd.prog 14 = some ⟨2, 24, [(.string ⟨#[]⟩), .int .u64 0], true⟩ := by kernel_rfl
theorem sti14 : sti Tryd.prog 14 = some ⟨2, 24, [(.string ⟨#[]⟩), .int .u64 0], true⟩ := by kernel_rfl
theorem fi14_0 : fi Tryd.prog 14 0 = some (0, 1, false) := by kernel_rfl
theorem fi14_1 : fi Tryd.prog 14 1 = some (1, 1, false) := by kernel_rfl
theorem und15 : Tryd.prog.underlying 15 = some (.pointer 132) := by kernel_rfl
theorem ti15 : ti Tryd.prog 15 = some ⟨1, 8, [.pointer none], false⟩ := by kernel_rfl
theorem und16 : Tryd.prog.underlying 16 = some (.pointer 135) := by kernel_rfl
theorem ti16 : ti Tryd.prog 16 = some ⟨1, 8, [.pointer none], false⟩ := by kernel_rfl
theorem und17 : Tryd.prog.underlying 17 = some (.pointer 144) := by kernel_rfl
theorem ti17 : ti Tryd.prog 17 = some ⟨1, 8, [.pointer none], false⟩ := by kernel_rfl
theorem ti18 : ti Tryd.prog 18 = some ⟨1, 8, [.pointer none], true⟩ := by kernel_rfl
theorem sti18 : sti Tryd.prog 18 = some ⟨1, 8, [.pointer none], true⟩ := by kernel_rfl
theorem fi18_0 : fi Tryd.prog 18 0 = some (0, 1, false) := by kernel_rfl
theorem ti19 : ti Tryd.prog 19 = some ⟨1, 8, [.pointer none], true⟩ := by kernel_rfl
theorem sti19 : sti Tryd.prog 19 = some ⟨1, 8, [.pointer none], true⟩ := by kernel_rfl
theorem fi19_0 : fi Tryd.prog 19 0 = some (0, 1, false) := by kernel_rfl
theorem und21 : Tryd.prog.underlying 21 = some (.int .i32) := by kernel_rfl
theorem ti21 : ti Tryd.prog 21 = some ⟨1, 4, [.int .i32 0], false⟩ := by kernel_rfl
theorem und22 : Tryd.prog.underlying 22 = some (.slice 5) := by kernel_rfl
theorem si22 : si Tryd.prog 22 = some (5, ⟨1, 1, [.int .u8 0], false⟩) := by kernel_rfl
theorem ti22 : ti Tryd.prog 22 = some ⟨1, 24, [.slice none 0 0], false⟩ := by kernel_rfl
theorem ti23 : ti Tryd.prog 23 = some ⟨1, 8, [.nilFunc], false⟩ := by kernel_rfl
theorem und24 : Tryd.prog.underlying 24 = some (.slice 46) := by kernel_rfl
theorem si24 : si Tryd.prog 24 = some (46, ⟨2, 32, [(.string ⟨#[]⟩), (.string ⟨#[]⟩)], true⟩) := by kernel_rfl
theorem ti24 : ti Tryd.prog 24 = some ⟨1, 24, [.slice none 0 0], false⟩ := by kernel_rfl
theorem und25 : Tryd.prog.underlying 25 = some (.slice 49) := by kernel_rfl
theorem si25 : si Tryd.prog 25 = some (49, ⟨3, 48, [(.string ⟨#[]⟩), (.string ⟨#[]⟩), (.string ⟨#[]⟩)], true⟩) := by kernel_rfl
theorem ti25 : ti Tryd.prog 25 = some ⟨1, 24, [.slice none 0 0], false⟩ := by kernel_rfl
theorem ti26 : ti Tryd.prog 26 = some ⟨3, 64, [.slice none 0 0, .slice none 0 0, (.string ⟨#[]⟩)], true⟩ := by kernel_rfl
theorem sti26 : sti Tryd.prog 26 = some ⟨3, 64, [.slice none 0 0, .slice none 0 0, (.string ⟨#[]⟩)], true⟩ := by kernel_rfl
theorem fi26_0 : fi Tryd.prog 26 0 = some (0, 1, false) := by kernel_rfl
theorem fi26_1 : fi Tryd.prog 26 1 = some (1, 1, false) := by kernel_rfl
theorem fi26_2 : fi Tryd.prog 26 2 = some (2, 1, false) := by kernel_rfl
theorem ti27 : ti Tryd.prog 27 = some ⟨3, 64, [.slice none 0 0, .slice none 0 0, (.string ⟨#[]⟩)], true⟩ := by kernel_rfl
theorem sti27 : sti Tryd.prog 27 = some ⟨3, 64, [.slice none 0 0, .slice none 0 0, (.string ⟨#[]⟩)], true⟩ := by kernel_rfl
theorem fi27_0 : fi Tryd.prog 27 0 = some (0, 1, false) := by kernel_rfl
theorem fi27_1 : fi Tryd.prog 27 1 = some (1, 1, false) := by kernel_rfl
theorem fi27_2 : fi Tryd.prog 27 2 = some (2, 1, false) := by kernel_rfl
theorem ti28 : ti Tryd.prog 28 = some ⟨1, 8, [.nilFunc], false⟩ := by kernel_rfl
theorem ti30 : ti Tryd.prog 30 = some ⟨1, 8, [.nilFunc], false⟩ := by kernel_rfl
theorem ti31 : ti Tryd.prog 31 = some ⟨1, 8, [.nilFunc], false⟩ := by kernel_rfl
theorem ti32 : ti Tryd.prog 32 = some ⟨1, 8, [.nilFunc], false⟩ := by kernel_rfl
theorem ti33 : ti Tryd.prog 33 = some ⟨1, 8, [.nilFunc], false⟩ := by kernel_rfl
theorem und34 : Tryd.prog.underlying 34 = some (.slice 87) := by kernel_rfl
theorem si34 : si Tryd.prog 34 = some (87, ⟨2, 32, [(.string ⟨#[]⟩), (.string ⟨#[]⟩)], true⟩) := by kernel_rfl
theorem ti34 : ti Tryd.prog 34 = some ⟨1, 24, [.slice none 0 0], false⟩ := by kernel_rfl
theorem und35 : Tryd.prog.underlying 35 = some (.slice 89) := by kernel_rfl
theorem si35 : si Tryd.prog 35 = some (89, ⟨3, 48, [(.string ⟨#[]⟩), (.string ⟨#[]⟩), (.string ⟨#[]⟩)], true⟩) := by kernel_rfl
theorem ti35 : ti Tryd.prog 35 = some ⟨1, 24, [.slice none 0 0], false⟩ := by kernel_rfl
theorem ti36 : ti Tryd.prog 36 = some ⟨3, 64, [.slice none 0 0, .slice none 0 0, (.string ⟨#[]⟩)], true⟩ := by kernel_rfl
theorem sti36 : sti Tryd.prog 36 = some ⟨3, 64, [.slice none 0 0, .slice none 0 0, (.string ⟨#[]⟩)], true⟩ := by kernel_rfl
theorem fi36_0 : fi Tryd.prog 36 0 = some (0, 1, false) := by kernel_rfl
theorem fi36_1 : fi Tryd.prog 36 1 = some (1, 1, false) := by kernel_rfl
theorem fi36_2 : fi Tryd.prog 36 2 = some (2, 1, false) := by kernel_rfl
theorem ti37 : ti Tryd.prog 37 = some ⟨3, 64, [.slice none 0 0, .slice none 0 0, (.string ⟨#[]⟩)], true⟩ := by kernel_rfl
theorem sti37 : sti Tryd.prog 37 = some ⟨3, 64, [.slice none 0 0, .slice none 0 0, (.string ⟨#[]⟩)], true⟩ := by kernel_rfl
theorem fi37_0 : fi Tryd.prog 37 0 = some (0, 1, false) := by kernel_rfl
theorem fi37_1 : fi Tryd.prog 37 1 = some (1, 1, false) := by kernel_rfl
theorem fi37_2 : fi Tryd.prog 37 2 = some (2, 1, false) := by kernel_rfl
theorem ti38 : ti Tryd.prog 38 = some ⟨1, 8, [.nilFunc], false⟩ := by kernel_rfl
theorem ti39 : ti Tryd.prog 39 = some ⟨1, 8, [.nilFunc], false⟩ := by kernel_rfl
theorem ti40 : ti Tryd.prog 40 = some ⟨1, 8, [.nilFunc], false⟩ := by kernel_rfl
theorem ti41 : ti Tryd.prog 41 = some ⟨1, 8, [.nilFunc], false⟩ := by kernel_rfl
theorem ti42 : ti Tryd.prog 42 = some ⟨1, 8, [.nilFunc], false⟩ := by kernel_rfl
theorem und43 : Tryd.prog.underlying 43 = some (.pointer 77) := by kernel_rfl
theorem ti43 : ti Tryd.prog 43 = some ⟨1, 8, [.pointer none], false⟩ := by kernel_rfl
theorem ti44 : ti Tryd.prog 44 = some ⟨1, 8, [.nilFunc], false⟩ := by kernel_rfl
theorem ti45 : ti Tryd.prog 45 = some ⟨2, 32, [(.string ⟨#[]⟩), (.string ⟨#[]⟩)], true⟩ := by kernel_rfl
theorem sti45 : sti Tryd.prog 45 = some ⟨2, 32, [(.string ⟨#[]⟩), (.string ⟨#[]⟩)], true⟩ := by kernel_rfl
theorem fi45_0 : fi Tryd.prog 45 0 = some (0, 1, false) := by kernel_rfl
theorem fi45_1 : fi Tryd.prog 45 1 = some (1, 1, false) := by kernel_rfl
theorem ti46 : ti Tryd.prog 46 = some ⟨2, 32, [(.string ⟨#[]⟩), (.string ⟨#[]⟩)], true⟩ := by kernel_rfl
theorem seq46 (a0 b0 : ByteArray) (a1 b1 : ByteArray) : aeqB Tryd.prog 46 (.agg #[.string a0, .string a1]) (.agg #[.string b0, .string b1]) = some (decide (a0 = b0) && (decide (a1 = b1) && true)) := by kernel_rfl
theorem sti46 : sti Tryd.prog 46 = some ⟨2, 32, [(.string ⟨#[]⟩), (.string ⟨#[]⟩)], true⟩ := by kernel_rfl
theorem fi46_0 : fi Tryd.prog 46 0 = some (0, 1, false) := by kernel_rfl
theorem fi46_1 : fi Tryd.prog 46 1 = some (1, 1, false) := by kernel_rfl
theorem ti47 : ti Tryd.prog 47 = some ⟨1, 8, [.nilFunc], false⟩ := by kernel_rfl
theorem ti48 : ti Tryd.prog 48 = some ⟨3, 48, [(.string ⟨#[]⟩), (.string ⟨#[]⟩), (.string ⟨#[]⟩)], true⟩ := by kernel_rfl
theorem sti48 : sti Tryd.prog 48 = some ⟨3, 48, [(.string ⟨#[]⟩), (.string ⟨#[]⟩), (.string ⟨#[]⟩)], true⟩ := by kernel_rfl
theorem fi48_0 : fi Tryd.prog 48 0 = some (0, 1, false) := by kernel_rfl
theorem fi48_1 : fi Tryd.prog 48 1 = some (1, 1, false) := by kernel_rfl
theorem fi48_2 : fi Tryd.prog 48 2 = some (2, 1, false) := by kernel_rfl
theorem ti49 : ti Tryd.prog 49 = some ⟨3, 48, [(.string ⟨#[]⟩), (.string ⟨#[]⟩), (.string ⟨#[]⟩)], true⟩ := by kernel_rfl
theorem seq49 (a0 b0 : ByteArray) (a1 b1 : ByteArray) (a2 b2 : ByteArray) : aeqB Tryd.prog 49 (.agg #[.string a0, .string a1, .string a2]) (.agg #[.string b0, .string b1, .string b2]) = some (decide (a0 = b0) && (decide (a1 = b1) && (decide (a2 = b2) && true))) := by kernel_rfl
theorem sti49 : sti Tryd.prog 49 = some ⟨3, 48, [(.string ⟨#[]⟩), (.string ⟨#[]⟩), (.string ⟨#[]⟩)], true⟩ := by kernel_rfl
theorem fi49_0 : fi Tryd.prog 49 0 = some (0, 1, false) := by kernel_rfl
theorem fi49_1 : fi Tryd.prog 49 1 = some (1, 1, false) := by kernel_rfl
theorem fi49_2 : fi Tryd.prog 49 2 = some (2, 1, false) := by kernel_rfl
theorem ti50 : ti Tryd.prog 50 = some ⟨1, 8, [.nilFunc], false⟩ := by kernel_rfl
theorem ti51 : ti Tryd.prog 51 = some ⟨1, 8, [.nilFunc], false⟩ := by kernel_rfl
theorem ti52 : ti Tryd.prog 52 = some ⟨1, 8, [.nilFunc], false⟩ := by kernel_rfl
theorem ti53 : ti Tryd.prog 53 = some ⟨1, 8, [.nilFunc], false⟩ := by kernel_rfl
theorem ti54 : ti Tryd.prog 54 = some ⟨1, 8, [.nilFunc], false⟩ := by kernel_rfl
theorem ti55 : ti Tryd.prog 55 = some ⟨1, 8, [.nilFunc], false⟩ := by kernel_rfl
theorem ti56 : ti Tryd.prog 56 = some ⟨1, 8, [.nilFunc], false⟩ := by kernel_rfl
theorem ti57 : ti Tryd.prog 57 = some ⟨1, 8, [.nilFunc], false⟩ := by kernel_rfl
theorem ti58 : ti Tryd.prog 58 = some ⟨1, 8, [.nilFunc], false⟩ := by kernel_rfl
theorem ti59 : ti Tryd.prog 59 = some ⟨1, 8, [.nilFunc], false⟩ := by kernel_rfl
theorem ti60 : ti Tryd.prog 60 = some ⟨1, 8, [.nilFunc], false⟩ := by kernel_rfl
theorem ti61 : ti Tryd.prog 61 = some ⟨1, 8, [.nilFunc], false⟩ := by kernel_rfl
theorem ti62 : ti Tryd.prog 62 = some ⟨1, 8, [.nilFunc], false⟩ := by kernel_rfl
theorem ti63 : ti Tryd.prog 63 = some ⟨1, 8, [.nilFunc], false⟩ := by kernel_rfl
theorem ti64 : ti Tryd.prog 64 = some ⟨1, 8, [.nilFunc], false⟩ := by kernel_rfl
theorem ti65 : ti Tryd.prog 65 = some ⟨1, 8, [.nilFunc], false⟩ := by kernel_rfl
theorem ti66 : ti Tryd.prog 66 = some ⟨1, 8, [.nilFunc], false⟩ := by kernel_rfl
theorem ti67 : ti Tryd.prog 67 = some ⟨1, 8, [.nilFunc], false⟩ := by kernel_rfl
theorem ti68 : ti Tryd.prog 68 = some ⟨1, 8, [.nilFunc], false⟩ := by kernel_rfl
theorem ti69 : ti Tryd.prog 69 = some ⟨1, 8, [.nilFunc], false⟩ := by kernel_rfl
theorem ti70 : ti Tryd.prog 70 = some ⟨1, 8, [.nilFunc], false⟩ := by kernel_rfl
theorem ti71 : ti Tryd.prog 71 = some ⟨1, 8, [.nilFunc], false⟩ := by kernel_rfl
theorem ti72 : ti Tryd.prog 72 = some ⟨1, 8, [.nilFunc], false⟩ := by kernel_rfl
theorem ti73 : ti Tryd.prog 73 = some ⟨1, 8, [.nilFunc], false⟩ := by kernel_rfl
theorem und74 : Tryd.prog.underlying 74 = some (.slice 9) := by kernel_rfl
theorem si74 : si Tryd.prog 74 = some (9, ⟨1, 16, [(.string ⟨#[]⟩)], false⟩) := by kernel_rfl
theorem ti74 : ti Tryd.prog 74 = some ⟨1, 24, [.slice none 0 0], false⟩ := by kernel_rfl
theorem ti75 : ti Tryd.prog 75 = some ⟨1, 8, [.nilFunc], false⟩ := by kernel_rfl
theorem ti76 : ti Tryd.prog 76 = some ⟨3, 40, [.slice none 0 0, .int .i64 0, .int .i64 0], true⟩ := by kernel_rfl
theorem sti76 : sti Tryd.prog 76 = some ⟨3, 40, [.slice none 0 0, .int .i64 0, .int .i64 0], true⟩ := by kernel_rfl
theorem fi76_0 : fi Tryd.prog 76 0 = some (0, 1, false) := by kernel_rfl
theorem fi76_1 : fi Tryd.prog 76 1 = some (1, 1, false) := by kernel_rfl
theorem fi76_2 : fi Tryd.prog 76 2 = some (2, 1, false) := by kernel_rfl
theorem ti77 : ti Tryd.prog 77 = some ⟨3, 40, [.slice none 0 0, .int .i64 0, .int .i64 0], true⟩ := by kernel_rfl
theorem sti77 : sti Tryd.prog 77 = some ⟨3, 40, [.slice none 0 0, .int .i64 0, .int .i64 0], true⟩ := by kernel_rfl
theorem fi77_0 : fi Tryd.prog 77 0 = some (0, 1, false) := by kernel_rfl
theorem fi77_1 : fi Tryd.prog 77 1 = some (1, 1, false) := by kernel_rfl
theorem fi77_2 : fi Tryd.prog 77 2 = some (2, 1, false) := by kernel_rfl
theorem ti78 : ti Tryd.prog 78 = some ⟨1, 8, [.nilFunc], false⟩ := by kernel_rfl
theorem ti79 : ti Tryd.prog 79 = some ⟨1, 8, [.nilFunc], false⟩ := by kernel_rfl
theorem ti80 : ti Tryd.prog 80 = some ⟨1, 8, [.nilFunc], false⟩ := by kernel_rfl
theorem und81 : Tryd.prog.underlying 81 = some (.pointer 27) := by kernel_rfl
theorem ti81 : ti Tryd.prog 81 = some ⟨1, 8, [.pointer none], false⟩ := by kernel_rfl
theorem ti82 : ti Tryd.prog 82 = some ⟨1, 8, [.nilFunc], false⟩ := by kernel_rfl
theorem ti83 : ti Tryd.prog 83 = some ⟨1, 8, [.nilFunc], false⟩ := by kernel_rfl
theorem ti84 : ti Tryd.prog 84 = some ⟨1, 8, [.nilFunc], false⟩ := by kernel_rfl
theorem ti85 : ti Tryd.prog 85 = some ⟨1, 8, [.nilFunc], false⟩ := by kernel_rfl
theorem ti86 : ti Tryd.prog 86 = some ⟨1, 8, [.nilFunc], false⟩ := by kernel_rfl
theorem ti87 : ti Tryd.prog 87 = some ⟨2, 32, [(.string ⟨#[]⟩), (.string ⟨#[]⟩)], true⟩ := by kernel_rfl
theorem seq87 (a0 b0 : ByteArray) (a1 b1 : ByteArray) : aeqB Tryd.prog 87 (.agg #[.string a0, .string a1]) (.agg #[.string b0, .string b1]) = some (decide (a0 = b0) && (decide (a1 = b1) && true)) := by kernel_rfl
theorem sti87 : sti Tryd.prog 87 = some ⟨2, 32, [(.string ⟨#[]⟩), (.string ⟨#[]⟩)], true⟩ := by kernel_rfl
theorem fi87_0 : fi Tryd.prog 87 0 = some (0, 1, false) := by kernel_rfl
theorem fi87_1 : fi Tryd.prog 87 1 = some (1, 1, false) := by kernel_rfl
theorem ti88 : ti Tryd.prog 88 = some ⟨1, 8, [.nilFunc], false⟩ := by kernel_rfl
theorem ti89 : ti Tryd.prog 89 = some ⟨3, 48, [(.string ⟨#[]⟩), (.string ⟨#[]⟩), (.string ⟨#[]⟩)], true⟩ := by kernel_rfl
theorem seq89 (a0 b0 : ByteArray) (a1 b1 : ByteArray) (a2 b2 : ByteArray) : aeqB Tryd.prog 89 (.agg #[.string a0, .string a1, .string a2]) (.agg #[.string b0, .string b1, .string b2]) = some (decide (a0 = b0) && (decide (a1 = b1) && (decide (a2 = b2) && true))) := by kernel_rfl
theorem sti89 : sti Tryd.prog 89 = some ⟨3, 48, [(.string ⟨#[]⟩), (.string ⟨#[]⟩), (.string ⟨#[]⟩)], true⟩ := by kernel_rfl
theorem fi89_0 : fi Tryd.prog 89 0 = some (0, 1, false) := by kernel_rfl
theorem fi89_1 : fi Tryd.prog 89 1 = some (1, 1, false) := by kernel_rfl
theorem fi89_2 : fi Tryd.prog 89 2 = some (2, 1, false) := by kernel_rfl
theorem ti90 : ti Tryd.prog 90 = some ⟨1, 8, [.nilFunc], false⟩ := by kernel_rfl
theorem ti91 : ti Tryd.prog 91 = some ⟨1, 8, [.nilFunc], false⟩ := by kernel_rfl
theorem ti92 : ti Tryd.prog 92 = some ⟨1, 8, [.nilFunc], false⟩ := by kernel_rfl
theorem ti93 : ti Tryd.prog 93 = some ⟨1, 8, [.nilFunc], false⟩ := by kernel_rfl
theorem ti94 : ti Tryd.prog 94 = some ⟨1, 8, [.nilFunc], false⟩ := by kernel_rfl
theorem und95 : Tryd.prog.underlying 95 = some (.int .u64) := by kernel_rfl
theorem ti95 : ti Tryd.prog 95 = some ⟨1, 8, [.int .u64 0], false⟩ := by kernel_rfl
theorem ti96 : ti Tryd.prog 96 = some ⟨1, 8, [.nilFunc], false⟩ := by kernel_rfl
theorem ti100 : ti Tryd.prog 100 = some ⟨1, 8, [.nilFunc], false⟩ := by kernel_rfl
theorem ti101 : ti Tryd.prog 101 = some ⟨1, 8, [.nilFunc], false⟩ := by kernel_rfl
theorem und102 : Tryd.prog.underlying 102 = some (.pointer 98) := by kernel_rfl
theorem ti102 : ti Tryd.prog 102 = some ⟨1, 8, [.pointer none], false⟩ := by kernel_rfl
theorem ti104 : ti Tryd.prog 104 = some ⟨1, 8, [.nilFunc], false⟩ := by kernel_rfl
theorem ti105 : ti Tryd.prog 105 = some ⟨1, 8, [.nilFunc], false⟩ := by kernel_rfl
theorem ti106 : ti Tryd.prog 106 = some ⟨1, 8, [.nilFunc], false⟩ := by kernel_rfl
theorem ti107 : ti Tryd.prog 107 = some ⟨1, 8, [.nilFunc], false⟩ := by kernel_rfl
theorem und109 : Tryd.prog.underlying 109 = some (.int .u64) := by kernel_rfl
theorem ti109 : ti Tryd.prog 109 = some ⟨1, 8, [.int .u64 0], false⟩ := by kernel_rfl
theorem ti110 : ti Tryd.prog 110 = some ⟨1, 8, [.nilFunc], false⟩ := by kernel_rfl
theorem ti111 : ti Tryd.prog 111 = some ⟨1, 8, [.nilFunc], false⟩ := by kernel_rfl
theorem ti113 : ti Tryd.prog 113 = some ⟨1, 8, [.nilFunc], false⟩ := by kernel_rfl
theorem ti115 : ti Tryd.prog 115 = some ⟨2, 2, [.int .u8 0, .int .u8 0], true⟩ := by kernel_rfl
theorem sti115 : sti Tryd.prog 115 = some ⟨2, 2, [.int .u8 0, .int .u8 0], true⟩ := by kernel_rfl
theorem fi115_0 : fi Tryd.prog 115 0 = some (0, 1, false) := by kernel_rfl
theorem fi115_1 : fi Tryd.prog 115 1 = some (1, 1, false) := by kernel_rfl
theorem ti116 : ti Tryd.prog 116 = some ⟨2, 2, [.int .u8 0, .int .u8 0], true⟩ := by kernel_rfl
theorem sti116 : sti Tryd.prog 116 = some ⟨2, 2, [.int .u8 0, .int .u8 0], true⟩ := by kernel_rfl
theorem fi116_0 : fi Tryd.prog 116 0 = some (0, 1, false) := by kernel_rfl
theorem fi116_1 : fi Tryd.prog 116 1 = some (1, 1, false) := by kernel_rfl
theorem ti118 : ti Tryd.prog 118 = some ⟨1, 8, [.nilFunc], false⟩ := by kernel_rfl
theorem ti119 : ti Tryd.prog 119 = some ⟨1, 8, [.nilFunc], false⟩ := by kernel_rfl
theorem ti120 : ti Tryd.prog 120 = some ⟨1, 8, [.nilFunc], false⟩ := by kernel_rfl
theorem ti121 : ti Tryd.prog 121 = some ⟨1, 8, [.nilFunc], false⟩ := by kernel_rfl
theorem und123 : Tryd.prog.underlying 123 = some (.int .u32) := by kernel_rfl
theorem ti123 : ti Tryd.prog 123 = some ⟨1, 4, [.int .u32 0], false⟩ := by kernel_rfl
theorem ti125 : ti Tryd.prog 125 = some ⟨1, 8, [.nilFunc], false⟩ := by kernel_rfl
theorem ti126 : ti Tryd.prog 126 = some ⟨1, 8, [.nilFunc], false⟩ := by kernel_rfl
theorem ti127 : ti Tryd.prog 127 = some ⟨1, 8, [.nilFunc], false⟩ := by kernel_rfl
theorem ti130 : ti Tryd.prog 130 = some ⟨1, 8, [.nilFunc], false⟩ := by kernel_rfl
theorem ti131 : ti Tryd.prog 131 = some ⟨4, 40, [.pointer none, .pointer none, .pointer none, (.string ⟨#[]⟩)], true⟩ := by kernel_rfl
theorem sti131 : sti Tryd.prog 131 = some ⟨4, 40, [.pointer none, .pointer none, .pointer none, (.string ⟨#[]⟩)], true⟩ := by kernel_rfl
theorem fi131_0 : fi Tryd.prog 131 0 = some (0, 1, false) := by kernel_rfl
theorem fi131_1 : fi Tryd.prog 131 1 = some (1, 1, false) := by kernel_rfl
theorem fi131_2 : fi Tryd.prog 131 2 = some (2, 1, false) := by kernel_rfl
theorem fi131_3 : fi Tryd.prog 131 3 = some (3, 1, false) := by kernel_rfl
theorem ti132 : ti Tryd.prog 132 = some ⟨4, 40, [.pointer none, .pointer none, .pointer none, (.string ⟨#[]⟩)], true⟩ := by kernel_rfl
theorem sti132 : sti Tryd.prog 132 = some ⟨4, 40, [.pointer none, .pointer none, .pointer none, (.string ⟨#[]⟩)], true⟩ := by kernel_rfl
theorem fi132_0 : fi Tryd.prog 132 0 = some (0, 1, false) := by kernel_rfl
theorem fi132_1 : fi Tryd.prog 132 1 = some (1, 1, false) := by kernel_rfl
theorem fi132_2 : fi Tryd.prog 132 2 = some (2, 1, false) := by kernel_rfl
theorem fi132_3 : fi Tryd.prog 132 3 = some (3, 1, false) := by kernel_rfl
theorem ti134 : ti Tryd.prog 134 = some ⟨0, 0, [], true⟩ := by kernel_rfl
theorem sti134 : sti Tryd.prog 134 = some ⟨0, 0, [], true⟩ := by kernel_rfl
theorem fi134_0 : fi Tryd.prog 134 0 = some (0, 0, true) := by kernel_rfl
theorem ti135 : ti Tryd.prog 135 = some ⟨0, 0, [], true⟩ := by kernel_rfl
theorem sti135 : sti Tryd.prog 135 = some ⟨0, 0, [], true⟩ := by kernel_rfl
theorem fi135_0 : fi Tryd.prog 135 0 = some (0, 0, true) := by kernel_rfl
theorem ti136 : ti Tryd.prog 136 = some ⟨1, 8, [.nilFunc], false⟩ := by kernel_rfl
theorem und137 : Tryd.prog.underlying 137 = some (.int .u8) := by kernel_rfl
theorem ti137 : ti Tryd.prog 137 = some ⟨1, 1, [.int .u8 0], false⟩ := by kernel_rfl
theorem und138 : Tryd.prog.underlying 138 = some (.int .u8) := by kernel_rfl
theorem ti138 : ti Tryd.prog 138 = some ⟨1, 1, [.int .u8 0], false⟩ := by kernel_rfl
theorem ti139 : ti Tryd.prog 139 = some ⟨1, 8, [.nilFunc], false⟩ := by kernel_rfl
theorem und140 : Tryd.prog.underlying 140 = some (.pointer 5) := by kernel_rfl
theorem ti140 : ti Tryd.prog 140 = some ⟨1, 8, [.pointer none], false⟩ := by kernel_rfl
theorem und141 : Tryd.prog.underlying 141 = some (.int .i32) := by kernel_rfl
theorem ti141 : ti Tryd.prog 141 = some ⟨1, 4, [.int .i32 0], false⟩ := by kernel_rfl
theorem und142 : Tryd.prog.underlying 142 = some (.int .i32) := by kernel_rfl
theorem ti142 : ti Tryd.prog 142 = some ⟨1, 4, [.int .i32 0], false⟩ := by kernel_rfl
theorem ti143 : ti Tryd.prog 143 = some ⟨11, 48, [.int .u64 0, .int .u64 0, .int .u32 0, .int .u8 0, .int .u8 0, .int .u8 0, .int .u8 0, .nilFunc, .pointer none, .int .i32 0, .int .i32 0], true⟩ := by kernel_rfl
theorem sti143 : sti Tryd.prog 143 = some ⟨11, 48, [.int .u64 0, .int .u64 0, .int .u32 0, .int .u8 0, .int .u8 0, .int .u8 0, .int .u8 0, .nilFunc, .pointer none, .int .i32 0, .int .i32 0], true⟩ := by kernel_rfl
theorem fi143_0 : fi Tryd.prog 143 0 = some (0, 1, false) := by kernel_rfl
theorem fi143_1 : fi Tryd.prog 143 1 = some (1, 1, false) := by kernel_rfl
theorem fi143_2 : fi Tryd.prog 143 2 = some (2, 1, false) := by kernel_rfl
theorem fi143_3 : fi Tryd.prog 143 3 = some (3, 1, false) := by kernel_rfl
theorem fi143_4 : fi Tryd.prog 143 4 = some (4, 1, false) := by kernel_rfl
theorem fi143_5 : fi Tryd.prog 143 5 = some (5, 1, false) := by kernel_rfl
theorem fi143_6 : fi Tryd.prog 143 6 = some (6, 1, false) := by kernel_rfl
theorem fi143_7 : fi Tryd.prog 143 7 = some (7, 1, false) := by kernel_rfl
theorem fi143_8 : fi Tryd.prog 143 8 = some (8, 1, false) := by kernel_rfl
theorem fi143_9 : fi Tryd.prog 143 9 = some (9, 1, false) := by kernel_rfl
theorem fi143_10 : fi Tryd.prog 143 10 = some (10, 1, false) := by kernel_rfl
theorem ti144 : ti Tryd.prog 144 = some ⟨11, 48, [.int .u64 0, .int .u64 0, .int .u32 0, .int .u8 0, .int .u8 0, .int .u8 0, .int .u8 0, .nilFunc, .pointer none, .int .i32 0, .int .i32 0], true⟩ := by kernel_rfl
theorem sti144 : sti Tryd.prog 144 = some ⟨11, 48, [.int .u64 0, .int .u64 0, .int .u32 0, .int .u8 0, .int .u8 0, .int .u8 0, .int .u8 0, .nilFunc, .pointer none, .int .i32 0, .int .i32 0], true⟩ := by kernel_rfl
theorem fi144_0 : fi Tryd.prog 144 0 = some (0, 1, false) := by kernel_rfl
theorem fi144_1 : fi Tryd.prog 144 1 = some (1, 1, false) := by kernel_rfl
theorem fi144_2 : fi Tryd.prog 144 2 = some (2, 1, false) := by kernel_rfl
theorem fi144_3 : fi Tryd.prog 144 3 = some (3, 1, false) := by kernel_rfl
theorem fi144_4 : fi Tryd.prog 144 4 = some (4, 1, false) := by kernel_rfl
theorem fi144_5 : fi Tryd.prog 144 5 = some (5, 1, false) := by kernel_rfl
theorem fi144_6 : fi Tryd.prog 144 6 = some (6, 1, false) := by kernel_rfl
theorem fi144_7 : fi Tryd.prog 144 7 = some (7, 1, false) := by kernel_rfl
theorem fi144_8 : fi Tryd.prog 144 8 = some (8, 1, false) := by kernel_rfl
theorem fi144_9 : fi Tryd.prog 144 9 = some (9, 1, false) := by kernel_rfl
theorem fi144_10 : fi Tryd.prog 144 10 = some (10, 1, false) := by kernel_rfl
theorem ti145 : ti Tryd.prog 145 = some ⟨1, 8, [.nilFunc], false⟩ := by kernel_rfl
attribute [push_cast] ti1 und2 ti2 und3 ti3 und4 ti4 und5 ti5 und6 ti6 ti7 sti7 fi7_0 fi7_1 fi7_2 fi7_3 ti8 sti8 fi8_0 fi8_1 fi8_2 fi8_3 und9 ti9 und10 ti10 und11 ti11 und12 ti12 ti13 sti13 fi13_0 fi13_1 ti14 sti14 fi14_0 fi14_1 und15 ti15 und16 ti16 und17 ti17 ti18 sti18 fi18_0 ti19 sti19 fi19_0 und21 ti21 und22 si22 ti22 ti23 und24 si24 ti24 und25 si25 ti25 ti26 sti26 fi26_0 fi26_1 fi26_2 ti27 sti27 fi27_0 fi27_1 fi27_2 ti28 ti30 ti31 ti32 ti33 und34 si34 ti34 und35 si35 ti35 ti36 sti36 fi36_0 fi36_1 fi36_2 ti37 sti37 fi37_0 fi37_1 fi37_2 ti38 ti39 ti40 ti41 ti42 und43 ti43 ti44 ti45 sti45 fi45_0 fi45_1 ti46 seq46 sti46 fi46_0 fi46_1 ti47 ti48 sti48 fi48_0 fi48_1 fi48_2 ti49 seq49 sti49 fi49_0 fi49_1 fi49_2 ti50 ti51 ti52 ti53 ti54 ti55 ti56 ti57 ti58 ti59 ti60 ti61 ti62 ti63 ti64 ti65 ti66 ti67 ti68 ti69 ti70 ti71 ti72 ti73 und74 si74 ti74 ti75 ti76 sti76 fi76_0 fi76_1 fi76_2 ti77 sti77 fi77_0 fi77_1 fi77_2 ti78 ti79 ti80 und81 ti81 ti82 ti83 ti84 ti85 ti86 ti87 seq87 sti87 fi87_0 fi87_1 ti88 ti89 seq89 sti89 fi89_0 fi89_1 fi89_2 ti90 ti91 ti92 ti93 ti94 und95 ti95 ti96 ti100 ti101 und102 ti102 ti104 ti105 ti106 ti107 und109 ti109 ti110 ti111 ti113 ti115 sti115 fi115_0 fi115_1 ti116 sti116 fi116_0 fi116_1 ti118 ti119 ti120 ti121 und123 ti123 ti125 ti126 ti127 ti130 ti131 sti131 fi131_0 fi131_1 fi131_2 fi131_3 ti132 sti132 fi132_0 fi132_1 fi132_2 fi132_3 ti134 sti134 fi134_0 ti135 sti135 fi135_0 ti136 und137 ti137 und138 ti138 ti139 und140 ti140 und141 ti141 und142 ti142 ti143 sti143 fi143_0 fi143_1 fi143_2 fi143_3 fi143_4 fi143_5 fi143_6 fi143_7 fi143_8 fi143_9 fi143_10 ti144 sti144 fi144_0 fi144_1 fi144_2 fi144_3 fi144_4 fi144_5 fi144_6 fi144_7 fi144_8 fi144_9 fi144_10 ti145
end Go.Proofs.YtcggnolnakgkeaaDoor
/- Temporaries ten by ten: a walk finds them in fewer steps. Conditions: none. -/
set_option linter.unusedVariables false
set_option linter.unusedSimpArgs false
namespace Go.Sim
variable {P : Program} {h : AH}
/-- Ten values and what stands behind them. -/
def N10 (a0 a1 a2 a3 a4 a5 a6 a7 a8 a9 : Value) (r : List Value) : List Value := a0 :: a1 :: a2 :: a3 :: a4 :: a5 :: a6 :: a7 :: a8 :: a9 :: r
theorem n10_getD {a0 a1 a2 a3 a4 a5 a6 a7 a8 a9 : Value} {r : List Value} (i : Nat) : (N10 a0 a1 a2 a3 a4 a5 a6 a7 a8 a9 r).getD (i + 10) undef = r.getD i undef := rfl
theorem n10_set {a0 a1 a2 a3 a4 a5 a6 a7 a8 a9 : Value} {r : List Value} (i : Nat) (v : Value) : (N10 a0 a1 a2 a3 a4 a5 a6 a7 a8 a9 r).set (i + 10) v = N10 a0 a1 a2 a3 a4 a5 a6 a7 a8 a9 (r.set i v) := rfl
theorem n10_getD0 {a0 a1 a2 a3 a4 a5 a6 a7 a8 a9 : Value} {r : List Value} : (N10 a0 a1 a2 a3 a4 a5 a6 a7 a8 a9 r).getD 0 undef = a0 := rfl
theorem n10_set0 {a0 a1 a2 a3 a4 a5 a6 a7 a8 a9 : Value} {r : List Value} (v : Value) : (N10 a0 a1 a2 a3 a4 a5 a6 a7 a8 a9 r).set 0 v = N10 v a1 a2 a3 a4 a5 a6 a7 a8 a9 r := rfl
theorem n10_getD1 {a0 a1 a2 a3 a4 a5 a6 a7 a8 a9 : Value} {r : List Value} : (N10 a0 a1 a2 a3 a4 a5 a6 a7 a8 a9 r).getD 1 undef = a1 := rfl
theorem n10_set1 {a0 a1 a2 a3 a4 a5 a6 a7 a8 a9 : Value} {r : List Value} (v : Value) : (N10 a0 a1 a2 a3 a4 a5 a6 a7 a8 a9 r).set 1 v = N10 a0 v a2 a3 a4 a5 a6 a7 a8 a9 r := rfl
theorem n10_getD2 {a0 a1 a2 a3 a4 a5 a6 a7 a8 a9 : Value} {r : List Value} : (N10 a0 a1 a2 a3 a4 a5 a6 a7 a8 a9 r).getD 2 undef = a2 := rfl
theorem n10_set2 {a0 a1 a2 a3 a4 a5 a6 a7 a8 a9 : Value} {r : List Value} (v : Value) : (N10 a0 a1 a2 a3 a4 a5 a6 a7 a8 a9 r).set 2 v = N10 a0 a1 v a3 a4 a5 a6 a7 a8 a9 r := rfl
theorem n10_getD3 {a0 a1 a2 a3 a4 a5 a6 a7 a8 a9 : Value} {r : List Value} : (N10 a0 a1 a2 a3 a4 a5 a6 a7 a8 a9 r).getD 3 undef = a3 := rfl
theorem n10_set3 {a0 a1 a2 a3 a4 a5 a6 a7 a8 a9 : Value} {r : List Value} (v : Value) : (N10 a0 a1 a2 a3 a4 a5 a6 a7 a8 a9 r).set 3 v = N10 a0 a1 a2 v a4 a5 a6 a7 a8 a9 r := rfl
theorem n10_getD4 {a0 a1 a2 a3 a4 a5 a6 a7 a8 a9 : Value} {r : List Value} : (N10 a0 a1 a2 a3 a4 a5 a6 a7 a8 a9 r).getD 4 undef = a4 := rfl
theorem n10_set4 {a0 a1 a2 a3 a4 a5 a6 a7 a8 a9 : Value} {r : List Value} (v : Value) : (N10 a0 a1 a2 a3 a4 a5 a6 a7 a8 a9 r).set 4 v = N10 a0 a1 a2 a3 v a5 a6 a7 a8 a9 r := rfl
theorem n10_getD5 {a0 a1 a2 a3 a4 a5 a6 a7 a8 a9 : Value} {r : List Value} : (N10 a0 a1 a2 a3 a4 a5 a6 a7 a8 a9 r).getD 5 undef = a5 := rfl
theorem n10_set5 {a0 a1 a2 a3 a4 a5 a6 a7 a8 a9 : Value} {r : List Value} (v : Value) : (N10 a0 a1 a2 a3 a4 a5 a6 a7 a8 a9 r).set 5 v = N10 a0 a1 a2 a3 a4 v a6 a7 a8 a9 r := rfl
theorem n10_getD6 {a0 a1 a2 a3 a4 a5 a6 a7 a8 a9 : Value} {r : List Value} : (N10 a0 a1 a2 a3 a4 a5 a6 a7 a8 a9 r).getD 6 undef = a6 := rfl
theorem n10_set6 {a0 a1 a2 a3 a4 a5 a6 a7 a8 a9 : Value} {r : List Value} (v : Value) : (N10 a0 a1 a2 a3 a4 a5 a6 a7 a8 a9 r).set 6 v = N10 a0 a1 a2 a3 a4 a5 v a7 a8 a9 r := rfl
theorem n10_getD7 {a0 a1 a2 a3 a4 a5 a6 a7 a8 a9 : Value} {r : List Value} : (N10 a0 a1 a2 a3 a4 a5 a6 a7 a8 a9 r).getD 7 undef = a7 := rfl
theorem n10_set7 {a0 a1 a2 a3 a4 a5 a6 a7 a8 a9 : Value} {r : List Value} (v : Value) : (N10 a0 a1 a2 a3 a4 a5 a6 a7 a8 a9 r).set 7 v = N10 a0 a1 a2 a3 a4 a5 a6 v a8 a9 r := rfl
theorem n10_getD8 {a0 a1 a2 a3 a4 a5 a6 a7 a8 a9 : Value} {r : List Value} : (N10 a0 a1 a2 a3 a4 a5 a6 a7 a8 a9 r).getD 8 undef = a8 := rfl
theorem n10_set8 {a0 a1 a2 a3 a4 a5 a6 a7 a8 a9 : Value} {r : List Value} (v : Value) : (N10 a0 a1 a2 a3 a4 a5 a6 a7 a8 a9 r).set 8 v = N10 a0 a1 a2 a3 a4 a5 a6 a7 v a9 r := rfl
theorem n10_getD9 {a0 a1 a2 a3 a4 a5 a6 a7 a8 a9 : Value} {r : List Value} : (N10 a0 a1 a2 a3 a4 a5 a6 a7 a8 a9 r).getD 9 undef = a9 := rfl
theorem n10_set9 {a0 a1 a2 a3 a4 a5 a6 a7 a8 a9 : Value} {r : List Value} (v : Value) : (N10 a0 a1 a2 a3 a4 a5 a6 a7 a8 a9 r).set 9 v = N10 a0 a1 a2 a3 a4 a5 a6 a7 a8 v r := rfl
def toN : List Value → List Value
  | a0 :: a1 :: a2 :: a3 :: a4 :: a5 :: a6 :: a7 :: a8 :: a9 :: r => N10 a0 a1 a2 a3 a4 a5 a6 a7 a8 a9 (toN r)
  | l => l
theorem toN_eq : ∀ l : List Value, toN l = l
  | a0 :: a1 :: a2 :: a3 :: a4 :: a5 :: a6 :: a7 :: a8 :: a9 :: r => by show N10 a0 a1 a2 a3 a4 a5 a6 a7 a8 a9 (toN r) = _; rw [toN_eq r]; rfl
  | [] => rfl
  | [a0] => rfl
  | [a0, a1] => rfl
  | [a0, a1, a2] => rfl
  | [a0, a1, a2, a3] => rfl
  | [a0, a1, a2, a3, a4] => rfl
  | [a0, a1, a2, a3, a4, a5] => rfl
  | [a0, a1, a2, a3, a4, a5, a6] => rfl
  | [a0, a1, a2, a3, a4, a5, a6, a7] => rfl
  | [a0, a1, a2, a3, a4, a5, a6, a7, a8] => rfl
theorem toN_ten {a0 a1 a2 a3 a4 a5 a6 a7 a8 a9 : Value} {r : List Value} : toN (a0 :: a1 :: a2 :: a3 :: a4 :: a5 :: a6 :: a7 :: a8 :: a9 :: r) = N10 a0 a1 a2 a3 a4 a5 a6 a7 a8 a9 (toN r) := rfl
theorem toN_0  : toN [] = [] := rfl
theorem toN_1 {a0 : Value} : toN [a0] = [a0] := rfl
theorem toN_2 {a0 a1 : Value} : toN [a0, a1] = [a0, a1] := rfl
theorem toN_3 {a0 a1 a2 : Value} : toN [a0, a1, a2] = [a0, a1, a2] := rfl
theorem toN_4 {a0 a1 a2 a3 : Value} : toN [a0, a1, a2, a3] = [a0, a1, a2, a3] := rfl
theorem toN_5 {a0 a1 a2 a3 a4 : Value} : toN [a0, a1, a2, a3, a4] = [a0, a1, a2, a3, a4] := rfl
theorem toN_6 {a0 a1 a2 a3 a4 a5 : Value} : toN [a0, a1, a2, a3, a4, a5] = [a0, a1, a2, a3, a4, a5] := rfl
theorem toN_7 {a0 a1 a2 a3 a4 a5 a6 : Value} : toN [a0, a1, a2, a3, a4, a5, a6] = [a0, a1, a2, a3, a4, a5, a6] := rfl
theorem toN_8 {a0 a1 a2 a3 a4 a5 a6 a7 : Value} : toN [a0, a1, a2, a3, a4, a5, a6, a7] = [a0, a1, a2, a3, a4, a5, a6, a7] := rfl
theorem toN_9 {a0 a1 a2 a3 a4 a5 a6 a7 a8 : Value} : toN [a0, a1, a2, a3, a4, a5, a6, a7, a8] = [a0, a1, a2, a3, a4, a5, a6, a7, a8] := rfl
theorem CC.ofN {f : FuncId} {fn : Func} {c : Code} {args : List Value} {R : Value → AH → Prop} {n : Nat} {rs : Array ResultVar} (hf : P.funcs[f]? = some fn) (hn : fn.ntmps = n) (hr : fn.results = rs) (hb : fn.body = some c)
    (hnm : fn.name ≠ "runtime.NumGoroutine") (hok : codeOK P.globals.size c = true) (hw : wpc P c (bodyQ P rs.toList R) (toN (args ++ List.replicate (n - args.length) undef)) h) : CC P f args h R :=
  CC.of' hf hn hr hb hnm hok (by rw [toN_eq] at hw; exact hw)
theorem CE.ofN {f : FuncId} {fn : Func} {c : Code} {args : List Value} {R : Value → AH → Prop} {n : Nat} {rs : Array ResultVar} (hf : P.funcs[f]? = some fn) (hn : fn.ntmps = n) (hr : fn.results = rs) (hb : fn.body = some c)
    (hok : codeOK P.globals.size c = true) (hw : wpc P c (bodyQ P rs.toList R) (toN (args ++ List.replicate (n - args.length) undef)) h) : CE P f args h R :=
  CE.of' hf hn hr hb hok (by rw [toN_eq] at hw; exact hw)
attribute [push_cast] n10_getD n10_set n10_getD0 n10_set0 n10_getD1 n10_set1 n10_getD2 n10_set2 n10_getD3 n10_set3 n10_getD4 n10_set4 n10_getD5 n10_set5 n10_getD6 n10_set6 n10_getD7 n10_set7 n10_getD8 n10_set8 n10_getD9 n10_set9 toN_ten toN_0 toN_1 toN_2 toN_3 toN_4 toN_5 toN_6 toN_7 toN_8 toN_9
end Go.Sim
/- Loops: what a round changes is told by the places that it writes. Conditions: those that each theorem names. -/
set_option linter.unusedVariables false
set_option linter.unusedSimpArgs false
namespace Go.Sim
variable {P : Program} {h : AH}

def setL (t : List Value) : List Nat → List Value → List Value
  | i :: V, x :: xs => setL (t.set i x) V xs
  | _, _ => t
def setF (t : List Value) (g : Nat → Value) : List Nat → List Value
  | i :: D => setF (t.set i (g i)) g D
  | [] => t
theorem setL_cons (t : List Value) (i : Nat) (V : List Nat) (x : Value) (xs : List Value) : setL t (i :: V) (x :: xs) = setL (t.set i x) V xs := rfl
theorem setL_nil (t : List Value) : setL t [] [] = t := rfl
theorem setF_cons (t : List Value) (g : Nat → Value) (i : Nat) (D : List Nat) : setF t g (i :: D) = setF (t.set i (g i)) g D := rfl
theorem setF_nil (t : List Value) (g : Nat → Value) : setF t g [] = t := rfl
theorem bcase_d {p : Prop} [Decidable p] {X Y : Prop} (hx : p → X) (hy : ¬ p → Y) : bcase (decide p) X Y := ⟨fun e => hx (of_decide_eq_true e), fun e => hy (of_decide_eq_false e)⟩
theorem and_keep {a b : Prop} (x : a) (y : b) : a ∧ b := ⟨x, y⟩
theorem onB_undef' (X : Bool → Prop) (Y : Prop) : onB undef X Y = Y := rfl
attribute [push_cast] onB_undef' setL_cons setL_nil setF_cons setF_nil cond_true cond_false Bool.not_true Bool.not_false Bool.false_and Bool.and_false Bool.true_or Bool.or_true Bool.false_or Bool.or_false decide_true decide_false Int.toNat_natCast

/-- A loop: 'V' are the places that it hands on from round to round, 'D' those that it writes besides. -/
theorem WC.loopA {α : Type} {c : Code} {Q : Exit → List Value → AH → Prop} {t : List Value} (hok : codeOK P.globals.size c = true) (V D : List Nat) (vals : α → List Value) (J : α → AH → Prop) (m : α → Nat) (a0 : α)
    (e0 : t = setF (setL t V (vals a0)) (fun j => t.getD j undef) D) (h0 : J a0 h)
    (round : ∀ a g h', J a h' → wpc P c (thn (fun t' h'' => ∃ b, t' = setF (setL t V (vals b)) (fun j => t'.getD j undef) D ∧ J b h'' ∧ m b < m a) Q) (setF (setL t V (vals a)) g D) h') : WC P (.loop c) Q t h := by
  intro FB w0 μ act w Q' s ht hd hq
  have key : ∀ (k : Nat) (a : α) (g : Nat → Value) (h : AH) (μ : Nat → Option Loc) (act : Act) (w : World), m a < k → J a h → Sim P FB w0 μ h w → LR μ (setF (setL t V (vals a)) g D) act.tmps.toList → act.defers = [] →
      (∀ ex t' h' μ' a' w', Q ex t' h' → Post P FB w0 μ h μ' h' w' → LR μ' t' a'.tmps.toList → a'.defers = [] → Q' ex a' w') → Code.rounds P c Q' k act w := by
    intro k
    induction k with
    | zero => intro a g h μ act w hk; omega
    | succ k ih =>
      intro a g h μ act w hk hj s ht hd hq
      rw [rounds_succ]
      refine wpc_sound hok (round a g h hj) FB w0 μ act w _ s ht hd (fun ex t1 h1 μ1 a1 w1 q1 p1 ht1 hd1 => ?_)
      cases ex with
      | normal =>
        obtain ⟨b, e1, j1, m1⟩ := q1
        rw [e1] at ht1
        exact ih b _ h1 μ1 a1 w1 (by omega) j1 p1.sim ht1 hd1 (fun ex t2 h2 μ2 a2 w2 q2 p2 ht2 hd2 => hq ex t2 h2 μ2 a2 w2 q2 (p1.trans p2) ht2 hd2)
      | _ => exact hq _ t1 h1 μ1 a1 w1 q1 p1 ht1 hd1
  exact wp_loop_rounds (m a0 + 1) (key (m a0 + 1) a0 _ h μ act w (by omega) h0 s (e0 ▸ ht) hd hq)
/-- All bytes of a text. -/
def allAt (s : ByteArray) (p : Int → Bool) : Bool := (List.range s.size).all fun i => p (byteAt s i).toNat
theorem allAt_iff {s : ByteArray} {p : Int → Bool} : allAt s p = true ↔ ∀ i, i < s.size → p (byteAt s i).toNat = true := by simp [allAt]
theorem allAt_false {s : ByteArray} {p : Int → Bool} {i : Nat} (hi : i < s.size) (e : p (byteAt s i).toNat = false) : allAt s p = false := by
  cases h : allAt s p with
  | false => rfl
  | true => have := allAt_iff.1 h i hi; rw [e] at this; cases this
theorem byte_lt (s : ByteArray) (i : Nat) : ((byteAt s i).toNat : Int) < 256 := by have := (byteAt s i).toNat_lt; omega
theorem wrapNat {n : Nat} (h : n ≤ 9223372036854775807) : IntKind.i64.wrap ((n : Nat) : Int) = (n : Nat) := w64 (by omega) (by omega)
theorem wrapSucc {n : Nat} (h : n < 9223372036854775807) : IntKind.i64.wrap ((n : Int) + 1) = ((n + 1 : Nat) : Int) := by rw [w64 (by omega) (by omega)]; rfl
theorem all2 (a0 a1 : Value) (e0 : one a0 = true) (e1 : one a1 = true) : #[a0, a1].all one 0 2 = true := by simp [e0, e1]
theorem all3 (a0 a1 a2 : Value) (e0 : one a0 = true) (e1 : one a1 = true) (e2 : one a2 = true) : #[a0, a1, a2].all one 0 3 = true := by simp [e0, e1, e2]
theorem all4 (a0 a1 a2 a3 : Value) (e0 : one a0 = true) (e1 : one a1 = true) (e2 : one a2 = true) (e3 : one a3 = true) : #[a0, a1, a2, a3].all one 0 4 = true := by simp [e0, e1, e2, e3]
theorem all5 (a0 a1 a2 a3 a4 : Value) (e0 : one a0 = true) (e1 : one a1 = true) (e2 : one a2 = true) (e3 : one a3 = true) (e4 : one a4 = true) : #[a0, a1, a2, a3, a4].all one 0 5 = true := by simp [e0, e1, e2, e3, e4]
theorem all6 (a0 a1 a2 a3 a4 a5 : Value) (e0 : one a0 = true) (e1 : one a1 = true) (e2 : one a2 = true) (e3 : one a3 = true) (e4 : one a4 = true) (e5 : one a5 = true) : #[a0, a1, a2, a3, a4, a5].all one 0 6 = true := by simp [e0, e1, e2, e3, e4, e5]
theorem all7 (a0 a1 a2 a3 a4 a5 a6 : Value) (e0 : one a0 = true) (e1 : one a1 = true) (e2 : one a2 = true) (e3 : one a3 = true) (e4 : one a4 = true) (e5 : one a5 = true) (e6 : one a6 = true) : #[a0, a1, a2, a3, a4, a5, a6].all one 0 7 = true := by simp [e0, e1, e2, e3, e4, e5, e6]
attribute [push_cast] all2 all3 all4 all5 all6 all7
theorem maxLen_eq : maxLen = 9223372036854775807 := by decide
end Go.Sim
/- Slices that are read: elements of so many cells each. Conditions: those that each theorem names. -/
set_option linter.unusedVariables false
set_option linter.unusedSimpArgs false
namespace Go.Sim
variable {P : Program} {h : AH}

def Big (h : AH) : Prop := ∀ i, h.n ≤ i → h.ob i = .none
theorem CC.withBig {f : FuncId} {args : List Value} {R : Value → AH → Prop} (hc : Big h → CC P f args h R) : CC P f args h R := fun FB w0 μ w cargs o a K Q s => hc s.big FB w0 μ w cargs o a K Q s
theorem CD.withBig {f : FuncId} {args : List Value} {V : Value} {H : AH} (hc : Big h → CD P f args h V H) : CD P f args h V H := CC.withBig hc
theorem Big.alloc (b : Big h) (o : AOb) : Big (h.alloc o) := fun i hi => by
  have hi' : h.n + 1 ≤ i := hi
  have : i ≠ h.n := by omega
  simp only [AH.alloc, this, if_false]; exact b i (by omega)
theorem Big.set (b : Big h) {j : Nat} (o : AOb) (hj : j < h.n) : Big (h.set j o) := fun i hi => by
  have hi' : h.n ≤ i := hi
  rw [set_ne o (by omega)]; exact b i hi'
theorem rd_some {i off n : Nat} {vs : List Value} (e : rd h i off n = some vs) : h.ob i ≠ .none := fun e' => by rw [rd_eq, e'] at e; cases e
theorem Big.lt (b : Big h) {i off n : Nat} {vs : List Value} (e : rd h i off n = some vs) : i < h.n := Nat.lt_of_not_le (fun hi => rd_some e (b i hi))
theorem Pre.rd {h' : AH} (p : Pre h h') {i : Nat} (hi : i < h.n) (off n : Nat) : rd h' i off n = Sim.rd h i off n := by rw [rd_eq, rd_eq, p.ob i hi]
theorem Pre.rd1 {h' : AH} (p : Pre h h') {i : Nat} (hi : i < h.n) (off : Nat) : rd1 h' i off = Sim.rd1 h i off := by rw [rd1_eq, rd1_eq, p.ob i hi]

/-- A slice whose elements are read, k cells each. -/
def RdE {α : Type} (h : AH) (A : Option Addr) (k : Nat) (enc : α → List Value) (l : List α) : Prop :=
  ∀ i (hi : i < l.length), ∃ id off, A = some ⟨id, off, none⟩ ∧ rd h id (off + i * k) k = some (enc l[i])
theorem RdE.at {α : Type} {A : Option Addr} {k : Nat} {enc : α → List Value} {l : List α} (r : RdE h A k enc l) (b : Big h) {h1 : AH} (p : Pre h h1) {i : Nat} (hi : i < l.length) :
    ∃ id off, A = some ⟨id, off, none⟩ ∧ id < h1.n ∧ rd h1 id (off + i * k) k = some (enc l[i]) := by
  obtain ⟨id, off, e, hr⟩ := r i hi
  have hlt := b.lt hr
  exact ⟨id, off, e, Nat.lt_of_lt_of_le hlt p.n, (p.rd hlt _ _).trans hr⟩
theorem RdE.use {α : Type} {A : Option Addr} {k : Nat} {enc : α → List Value} {l : List α} (r : RdE h A k enc l) (b : Big h) {h1 : AH} (p : Pre h h1) {i : Nat} (hi : i < l.length) {G : Prop}
    (hg : ∀ id off, A = some ⟨id, off, none⟩ → id < h1.n → rd h1 id (off + i * k) k = some (enc l[i]) → G) : G := by
  obtain ⟨id, off, a, b, c⟩ := r.at b p hi
  exact hg id off a b c
theorem RdE.rdAt {α : Type} {id off : Nat} {k : Nat} {enc : α → List Value} {l : List α} (r : RdE h (some ⟨id, off, none⟩) k enc l) (b : Big h) {h1 : AH} (p : Pre h h1) {i : Nat} (hi : i < l.length) : rd h1 id (off + i * k) k = some (enc l[i]) := by
  obtain ⟨id', off', a, _, c⟩ := r.at b p hi
  simp only [Option.some.injEq, Addr.mk.injEq] at a
  obtain ⟨rfl, rfl, _⟩ := a
  exact c
theorem RdE.pre {α : Type} {A : Option Addr} {k : Nat} {enc : α → List Value} {l : List α} (r : RdE h A k enc l) (b : Big h) {h1 : AH} (p : Pre h h1) : RdE h1 A k enc l := fun i hi => by
  obtain ⟨id, off, e, _, hr⟩ := r.at b p hi
  exact ⟨id, off, e, hr⟩
def idsOf (A : Option Addr) : List Nat := match A with | some a => [a.block] | none => []
theorem RdE.kept {α : Type} {A : Option Addr} {k : Nat} {enc : α → List Value} {l : List α} (r : RdE h A k enc l) {h1 : AH} (e : ∀ id ∈ idsOf A, h1.ob id = h.ob id) : RdE h1 A k enc l := fun i hi => by
  obtain ⟨id, off, ea, hr⟩ := r i hi
  subst ea
  exact ⟨id, off, rfl, by rw [← hr, rd_eq, rd_eq, e id (by simp [idsOf])]⟩
theorem RdE.nil {α : Type} (A : Option Addr) (k : Nat) (enc : α → List Value) : RdE h A k enc [] := fun i hi => absurd hi (Nat.not_lt_zero i)
theorem rd_len {i off n : Nat} {vs : List Value} (e : rd h i off n = some vs) : vs.length = n := by
  rw [rd_eq] at e
  unfold rdO at e
  split at e
  · split at e
    · simp only [Option.some.injEq] at e; subst e; simp; omega
    · cases e
  · cases e
theorem rd_rd1 {i off n : Nat} {vs : List Value} (e : rd h i off n = some vs) {j : Nat} (hj : j < n) : rd1 h i (off + j) = vs[j]? := by
  rw [rd_eq] at e
  rw [rd1_eq]
  unfold rdO at e
  unfold rd1O
  split at e
  · rename_i cs st ln ho
    split at e
    · simp only [Option.some.injEq] at e; subst e
      simp [List.getElem?_take, hj]
    · cases e
  · cases e
theorem rd_1 {i off : Nat} {a : Value} (e : rd h i off 1 = some [a]) : rd1 h i off = some a := rd_rd1 e (j := 0) (by omega)
theorem rd_2 {i off : Nat} {a b : Value} (e : rd h i off 2 = some [a, b]) : rd1 h i off = some a ∧ rd1 h i (off + 1) = some b := ⟨rd_rd1 e (j := 0) (by omega), rd_rd1 e (j := 1) (by omega)⟩
theorem rd_3 {i off : Nat} {a b c : Value} (e : rd h i off 3 = some [a, b, c]) : rd1 h i off = some a ∧ rd1 h i (off + 1) = some b ∧ rd1 h i (off + 2) = some c :=
  ⟨rd_rd1 e (j := 0) (by omega), rd_rd1 e (j := 1) (by omega), rd_rd1 e (j := 2) (by omega)⟩
theorem rd_4 {i off : Nat} {a b c d : Value} (e : rd h i off 4 = some [a, b, c, d]) : rd1 h i off = some a ∧ rd1 h i (off + 1) = some b ∧ rd1 h i (off + 2) = some c ∧ rd1 h i (off + 3) = some d :=
  ⟨rd_rd1 e (j := 0) (by omega), rd_rd1 e (j := 1) (by omega), rd_rd1 e (j := 2) (by omega), rd_rd1 e (j := 3) (by omega)⟩

/-- All numbers below n. -/
def allN (n : Nat) (p : Nat → Bool) : Bool := (List.range n).all p
theorem allN_iff {n : Nat} {p : Nat → Bool} : allN n p = true ↔ ∀ i, i < n → p i = true := by simp [allN]
theorem allN_false {n : Nat} {p : Nat → Bool} {i : Nat} (hi : i < n) (e : p i = false) : allN n p = false := by
  cases h : allN n p with
  | false => rfl
  | true => have := allN_iff.1 h i hi; rw [e] at this; cases this
theorem allTo_succ {p : Nat → Bool} {i : Nat} (h : ∀ j, j < i → p j = true) (e : p i = true) : ∀ j, j < i + 1 → p j = true := fun j hj => by
  rcases Nat.lt_succ_iff_lt_or_eq.1 hj with h1 | h1
  · exact h j h1
  · subst h1; exact e
theorem allTo_zero {p : Nat → Bool} : ∀ j, j < 0 → p j = true := fun j hj => absurd hj (Nat.not_lt_zero j)
theorem wrapPred {n : Nat} (h0 : 0 < n) (h : n ≤ 9223372036854775807) : IntKind.i64.wrap ((n : Int) - 1) = ((n - 1 : Nat) : Int) := by rw [w64 (by omega) (by omega)]; omega
theorem nameB (n : ByteArray) {G : Prop} (k : ∀ N, N = n → G) : G := k n rfl
theorem nameN (n : Nat) {G : Prop} (k : ∀ N, N = n → G) : G := k n rfl
theorem Pre.keep {h' : AH} (p : Pre h h') : Keep h.n h h' := p.ob
theorem Keep.toPre {h' : AH} (k : Keep h.n h h') (e : h.n ≤ h'.n) : Pre h h' := ⟨e, k⟩

/-- A function of the model's own. -/
theorem CC.ext {f : FuncId} {args : List Value} {R : Value → AH → Prop} {V : Value} (hl : ∀ (v : Value) (hv : v ∈ args), isPlain v = true)
    (hr : ∀ w : World, (callFunc f args.toArray).run P w = .ok (.value V) w) (hV : isPlain V = true) (hR : R V h) : CC P f args h R := by
  intro FB w0 μ w cargs o a K Q s ha hk
  have key : ∀ v c, isPlain v = true → VR μ v c → v = c := by
    intro v c hp hv
    cases hv with
    | plain _ _ => rfl
    | agg a a' hs e => simp [isPlain] at hp
    | tuple a a' hs e =>
      simp [isPlain] at hp; subst hp
      have : a' = #[] := by apply Array.eq_empty_of_size_eq_zero; simpa using hs.symm
      subst this; rfl
    | _ => simp [isPlain] at hp
  have e : cargs = args.toArray := by
    apply Array.toList_inj.1
    apply List.ext_getElem ha.1.symm
    intro j x y
    exact (key _ _ (hl _ (List.getElem_mem y)) (ha.2 j y x)).symm
  subst e
  rw [hr w]
  exact hk V h μ V w hR s.post (.plain V hV)
end Go.Sim
/- Slices that grow: made by the call itself, appended to. Conditions: those that each theorem names. -/
set_option linter.unusedVariables false
set_option linter.unusedSimpArgs false
namespace Go.Sim
variable {P : Program} {h h0 : AH}

/-- A slice of the call's own (its objects are no elder than n0), or nil: its cells. -/
def Gr (n0 : Nat) (h : AH) (v : Value) (k : Nat) (cs : List Value) : Prop :=
  (∃ c, v = .slice none 0 c ∧ cs = []) ∨ ∃ id off n, v = .slice (some ⟨id, off, none⟩) n k ∧ n0 ≤ id ∧ Own h id off n k cs
theorem Gr.nil (n0 : Nat) (h : AH) (c k : Nat) : Gr n0 h (.slice none 0 c) k [] := .inl ⟨c, rfl, rfl⟩
theorem Gr.new {n0 : Nat} (hn : n0 ≤ h.n) (cs : List Value) (n k : Nat) (e : cs.length = n * k) : Gr n0 (h.alloc (.cells cs .solo h.n)) (.slice (some ⟨h.n, 0, none⟩) n k) k cs := .inr ⟨h.n, 0, n, rfl, hn, Own.new cs n k e⟩
theorem Gr.pre {n0 : Nat} {h' : AH} {v : Value} {k : Nat} {cs : List Value} (w : Gr n0 h v k cs) (p : Pre h h') : Gr n0 h' v k cs := by
  rcases w with w | ⟨id, off, n, a, b, c⟩
  · exact .inl w
  · exact .inr ⟨id, off, n, a, b, c.pre p⟩
theorem Gr.alloc {n0 : Nat} {v : Value} {k : Nat} {cs : List Value} (w : Gr n0 h v k cs) (o : AOb) : Gr n0 (h.alloc o) v k cs := w.pre ((Pre.refl h).alloc o)
/-- Its objects. -/
def atBlock (v : Value) (i : Nat) : Prop := match v with | .slice (some a) _ _ => a.block = i | _ => False
theorem Gr.keep {n0 : Nat} {h' : AH} {v : Value} {k : Nat} {cs : List Value} (w : Gr n0 h v k cs) (hn : h.n ≤ h'.n) (e : ∀ i, atBlock v i → h'.ob i = h.ob i) : Gr n0 h' v k cs := by
  rcases w with w | ⟨id, off, n, rfl, b, c⟩
  · exact .inl w
  · exact .inr ⟨id, off, n, rfl, b, c.same (e id rfl) hn⟩

theorem Gr.app {t u e : TypeId} {s b : Nat} {z : List Value} {ag : Bool} {v x : Value} {cs new : List Value} {m : Nat} {K : Value → AH → Prop} {n0 : Nat}
    (hs : si P t = some (e, ⟨s, b, z, ag⟩)) (hpos : 0 < s) (hby : b ≤ 256) (hu : notInt (P.underlying u)) (w : Gr h0.n h v s cs) (p : Pre h0 h) (hx : asrc h s x = some (m, new)) (hm : new.length = m * s) (hb : cs.length / s + m < 274877906944) (h1 : 0 < m)
    (hk : ∀ h', Gr h0.n h' (.slice (some ⟨h.n, 0, none⟩) (cs.length / s + m) s) s (cs ++ new) → Own h' h.n 0 (cs.length / s + m) s (cs ++ new) → Pre h0 h' → h'.n = h.n + 1 → (∀ i, i < h.n → ¬ atBlock v i → h'.ob i = h.ob i) → K (.slice (some ⟨h.n, 0, none⟩) (cs.length / s + m) s) h') :
    aappend P h t u v x K := by
  rcases w with ⟨c, rfl, rfl⟩ | ⟨id, off, n, rfl, b', w⟩
  · simp only [List.length_nil, Nat.zero_div, Nat.zero_add, List.nil_append] at hk hb
    refine app_nil hs hpos hby hu hx hm hb h1 (fun h' w' hn he => hk h' (.inr ⟨_, _, _, rfl, p.n, w'⟩) w' ⟨by have := p.n; omega, fun i hi => (he i (Nat.lt_of_lt_of_le hi p.n)).trans (p.ob i hi)⟩ hn (fun i hi _ => he i hi))
  · have hl : cs.length / s = n := by rw [w.len]; exact Nat.mul_div_cancel n hpos
    rw [hl] at hb hk
    refine app_own hs hpos hby hu w hx hm hb (fun h' w' hn he => hk h' (.inr ⟨_, _, _, rfl, p.n, w'⟩) w' ⟨by have := p.n; omega, fun i hi => (he i (Nat.lt_of_lt_of_le hi p.n) (by omega)).trans (p.ob i hi)⟩ hn (fun i hi hb => he i hi (fun e => hb e.symm)))

theorem Gr.not_new {n0 : Nat} {v : Value} {k : Nat} {cs : List Value} (w : Gr n0 h v k cs) : ¬ atBlock v h.n := by
  rcases w with ⟨c, rfl, rfl⟩ | ⟨id, off, n, rfl, b, o⟩
  · exact id
  · exact fun e => absurd (show id < h.n from o.lt) (by have e' : id = h.n := e; omega)

/-- An append of new elements, laid down just before. -/
theorem Gr.app1 {t u e : TypeId} {s b : Nat} {z : List Value} {ag : Bool} {v : Value} {cs new : List Value} {m c : Nat} {K : Value → AH → Prop}
    (hs : si P t = some (e, ⟨s, b, z, ag⟩)) (hpos : 0 < s) (hby : b ≤ 256) (hu : notInt (P.underlying u)) (w : Gr h0.n h v s cs) (p : Pre h0 h) (hm : new.length = m * s) (hb : cs.length / s + m < 274877906944) (h1 : 0 < m)
    (hk : ∀ h', Gr h0.n h' (.slice (some ⟨h.n + 1, 0, none⟩) (cs.length / s + m) s) s (cs ++ new) → Own h' (h.n + 1) 0 (cs.length / s + m) s (cs ++ new) → Pre h0 h' → h'.n = h.n + 2 → (∀ i, i < h.n → ¬ atBlock v i → h'.ob i = h.ob i) → K (.slice (some ⟨h.n + 1, 0, none⟩) (cs.length / s + m) s) h') :
    aappend P (h.alloc (.cells new .solo h.n)) t u v (.slice (some ⟨h.n, 0, none⟩) m c) K :=
  Gr.app (n0 := 0) hs hpos hby hu (w.alloc _) (p.alloc _) (asrc_new new s m c hm) hm hb h1 (fun h' g o p' hn he => hk h' g o p' hn (fun i hi hv => (he i (Nat.lt_succ_of_lt hi) hv).trans (alloc_lt _ hi)))
theorem notInt_sl {e : TypeId} {o : Option TypeDesc} (h : o = some (.slice e)) : notInt o := by rw [h, notInt_slice]; trivial
theorem notInt_str {o : Option TypeDesc} (h : o = some .string) : notInt o := by rw [h, notInt_string]; trivial

theorem toBytes_nat : ∀ l : List Nat, toBytes (l.map fun b => Value.int .u8 (b : Nat)) = some (l.map UInt8.ofNat)
  | [] => rfl
  | b :: r => by simp [toBytes, toBytes_nat r]
theorem set_set (h : AH) (p : Nat) (o o' : AOb) : (h.set p o).set p o' = h.set p o' := by
  unfold AH.set
  simp only
  congr 1
  funext j
  split <;> rfl
attribute [push_cast] set_set
theorem lt_set_of {h : AH} {i j : Nat} (o : AOb) (e : i < h.n) : i < (h.set j o).n := e
attribute [push_cast] lt_set_of
theorem castLit0 : ((0 : Nat) : Int) = 0 := rfl
theorem castLit1 : ((1 : Nat) : Int) = 1 := rfl
theorem castLit2 : ((2 : Nat) : Int) = 2 := rfl
theorem castLit3 : ((3 : Nat) : Int) = 3 := rfl
theorem castLit4 : ((4 : Nat) : Int) = 4 := rfl
theorem castLit5 : ((5 : Nat) : Int) = 5 := rfl
theorem castLit6 : ((6 : Nat) : Int) = 6 := rfl
theorem castLit7 : ((7 : Nat) : Int) = 7 := rfl
theorem castLit8 : ((8 : Nat) : Int) = 8 := rfl
theorem castLit9 : ((9 : Nat) : Int) = 9 := rfl
theorem castLit10 : ((10 : Nat) : Int) = 10 := rfl
theorem castLit11 : ((11 : Nat) : Int) = 11 := rfl
theorem castLit12 : ((12 : Nat) : Int) = 12 := rfl
theorem castLit13 : ((13 : Nat) : Int) = 13 := rfl
theorem castLit14 : ((14 : Nat) : Int) = 14 := rfl
theorem castLit15 : ((15 : Nat) : Int) = 15 := rfl
theorem castLit16 : ((16 : Nat) : Int) = 16 := rfl
theorem castLit17 : ((17 : Nat) : Int) = 17 := rfl
theorem castLit18 : ((18 : Nat) : Int) = 18 := rfl
theorem castLit19 : ((19 : Nat) : Int) = 19 := rfl
theorem castLit20 : ((20 : Nat) : Int) = 20 := rfl
attribute [push_cast high] castLit0 castLit1 castLit2 castLit3 castLit4 castLit5 castLit6 castLit7 castLit8 castLit9 castLit10 castLit11 castLit12 castLit13 castLit14 castLit15 castLit16 castLit17 castLit18 castLit19 castLit20
attribute [push_cast] List.replicate_succ List.replicate_zero ne_eq not_false_eq_true all1 Nat.zero_le Nat.le_refl
end Go.Sim
/- Numbers in bytes of seven bits: what is written comes back. Conditions: none. -/
set_option linter.unusedSimpArgs false
set_option linter.unusedVariables false
namespace Go.Sim
def var (n : Nat) : List Nat := if n ≤ 127 then [n] else (n % 128 + 128) :: var (n / 128)
termination_by n
decreasing_by omega
def sumv : List Nat → Nat
  | [] => 0
  | b :: r => b % 128 + 128 * sumv r
theorem sumv_snoc (x : Nat) : ∀ l : List Nat, sumv (l ++ [x]) = sumv l + x % 128 * 128 ^ l.length
  | [] => by simp [sumv]
  | b :: l => by
    simp only [List.cons_append, sumv, sumv_snoc x l, List.length_cons, Nat.pow_succ]
    rw [Nat.mul_add, Nat.add_assoc]
    congr 2
    rw [Nat.mul_comm 128, Nat.mul_assoc]
theorem sumv_pos (c : Nat) (hc : c % 128 ≠ 0) : ∀ l : List Nat, 0 < sumv (l ++ [c])
  | [] => by simp [sumv]; omega
  | b :: l => by
    have := sumv_pos c hc l
    simp only [List.cons_append, sumv]; omega
theorem var_sum (c : Nat) (hc : c < 128) : ∀ l : List Nat, (∀ b ∈ l, 127 < b ∧ b < 256) → (c ≠ 0 ∨ l = []) → var (sumv (l ++ [c])) = l ++ [c]
  | [], _, _ => by
    have : sumv ([] ++ [c]) = c := by simp [sumv]; omega
    rw [this, var, if_pos (by omega)]; rfl
  | b :: l, hall, hne => by
    have hc0 : c ≠ 0 := by simpa using hne
    have hb := hall b (by simp)
    have hp := sumv_pos c (by omega) l
    have ih := var_sum c hc l (fun x hx => hall x (by simp [hx])) (.inl hc0)
    have e : sumv (b :: l ++ [c]) = b % 128 + 128 * sumv (l ++ [c]) := rfl
    rw [e, var, if_neg (by omega)]
    have e1 : (b % 128 + 128 * sumv (l ++ [c])) % 128 + 128 = b := by omega
    have e2 : (b % 128 + 128 * sumv (l ++ [c])) / 128 = sumv (l ++ [c]) := by omega
    rw [e1, e2, ih]; rfl
theorem var_last (n : Nat) : n ≠ 0 → (var n).getLast? ≠ some 0 := by
  induction n using Nat.strongRecOn with
  | ind n ih =>
    intro hn
    rw [var]
    split
    · simpa using hn
    · have h1 : n / 128 ≠ 0 := by omega
      have := ih (n / 128) (by omega) h1
      have hne : var (n / 128) ≠ [] := by rw [var]; split <;> simp
      rw [List.getLast?_cons_of_ne_nil hne]; exact this
theorem var_no (l : List Nat) (hl : l ≠ []) : var (sumv (l ++ [0])) ≠ l ++ [0] := fun e => by
  by_cases h0 : sumv (l ++ [0]) = 0
  · rw [h0, var, if_pos (by omega)] at e
    cases l with
    | nil => exact hl rfl
    | cons a l => simp at e
  · have := var_last _ h0
    rw [e] at this
    simp at this
theorem var_lt (n : Nat) : ∀ b ∈ var n, b < 256 := by
  induction n using Nat.strongRecOn with
  | ind n ih =>
    intro b hb
    rw [var] at hb
    split at hb
    · simp at hb; omega
    · rcases List.mem_cons.1 hb with rfl | hb
      · omega
      · exact ih _ (by omega) b hb
theorem ofNat_inj : ∀ a b : List Nat, (∀ x ∈ a, x < 256) → (∀ x ∈ b, x < 256) → a.map UInt8.ofNat = b.map UInt8.ofNat → a = b
  | [], [], _, _, _ => rfl
  | [], _ :: _, _, _, e => by simp at e
  | _ :: _, [], _, _, e => by simp at e
  | x :: a, y :: b, ha, hb, e => by
    simp only [List.map_cons, List.cons.injEq] at e
    have hx := ha x (by simp)
    have hy := hb y (by simp)
    have h1 : x = y := by
      have := congrArg UInt8.toNat e.1
      simp [UInt8.toNat_ofNat'] at this
      omega
    rw [h1, ofNat_inj a b (fun z hz => ha z (by simp [hz])) (fun z hz => hb z (by simp [hz])) e.2]
/-- Bytes of a text from a place on. -/
def bN (s : ByteArray) (i : Nat) : Nat := (byteAt s i).toNat
theorem bN_lt (s : ByteArray) (i : Nat) : bN s i < 256 := (byteAt s i).toNat_lt
def bl (s : ByteArray) (a i : Nat) : List Nat := (List.range i).map fun j => bN s (a + j)
theorem bl_succ (s : ByteArray) (a i : Nat) : bl s a (i + 1) = bl s a i ++ [bN s (a + i)] := by simp [bl, List.range_succ]
theorem bl_len (s : ByteArray) (a i : Nat) : (bl s a i).length = i := by simp [bl]
theorem bl_lt (s : ByteArray) (a i : Nat) : ∀ b ∈ bl s a i, b < 256 := fun b hb => by
  simp only [bl, List.mem_map] at hb
  obtain ⟨j, _, rfl⟩ := hb
  exact bN_lt _ _
theorem extract_bl (s : ByteArray) (a i : Nat) (h : a + i ≤ s.size) : s.extract a (a + i) = ⟨((bl s a i).map UInt8.ofNat).toArray⟩ := by
  have hs : s.size = s.data.size := rfl
  apply ByteArray.ext
  apply Array.ext
  · rw [ByteArray.data_extract, Array.size_extract]
    simp only [List.size_toArray, List.length_map, bl_len]
    omega
  · intro j h1 h2
    simp only [List.size_toArray, List.length_map, bl_len] at h2
    have hj : a + j < s.data.size := by omega
    simp only [ByteArray.data_extract, Array.getElem_extract, List.getElem_toArray, List.getElem_map, bl, List.getElem_range, bN, byteAt]
    simp only [Array.getD, hj, dite_true]
    simp
theorem vt_eq (n : Nat) (s : ByteArray) (a i : Nat) (h : a + i ≤ s.size) : (⟨((var n).map UInt8.ofNat).toArray⟩ : ByteArray) = s.extract a (a + i) ↔ var n = bl s a i := by
  rw [extract_bl s a i h]
  constructor
  · intro e
    have e1 : (var n).map UInt8.ofNat = (bl s a i).map UInt8.ofNat := by simpa using e
    exact ofNat_inj _ _ (var_lt n) (bl_lt s a i) e1
  · intro e; rw [e]
/-- VarText of a number that has one. -/
def vt (n : Int) : ByteArray := ⟨((var n.toNat).map UInt8.ofNat).toArray⟩
def VN (out : List Nat) : List Value := out.map fun b => .int .u8 (b : Nat)
theorem vn_len (out : List Nat) : (VN out).length = out.length := by simp [VN]
theorem vn_snoc (out : List Nat) (x : Nat) : VN (out ++ [x]) = VN out ++ [.int .u8 (x : Nat)] := by simp [VN]
/-- What is read of a number: from its i-th byte on. -/
def rvGo (s : ByteArray) (a : Nat) : Nat → Nat → Nat → Option (Nat × Nat)
  | 0, _, _ => none
  | k + 1, i, n => if a + i < s.size then (if 127 < bN s (a + i) then rvGo s a k (i + 1) (n + bN s (a + i) % 128 * 128 ^ i)
      else if (0 < i ∧ bN s (a + i) = 0) ∨ 1000000000 < n + bN s (a + i) % 128 * 128 ^ i then none else some (n + bN s (a + i) % 128 * 128 ^ i, a + i + 1)) else none
def inB (n low high : Int) : Bool := decide (low ≤ n) && decide (n ≤ high)
def rv (s : ByteArray) (a : Int) : Option (Nat × Nat) := if inB a 0 s.size then rvGo s a.toNat 5 0 0 else none
def oN (r : Option (Nat × Nat)) : Int := match r with | some p => (p.1 : Nat) | none => 0
def oX (r : Option (Nat × Nat)) : Int := match r with | some p => (p.2 : Nat) | none => 0
theorem rvGo_succ (s : ByteArray) (a k i n : Nat) (h : a + i < s.size) : rvGo s a (k + 1) i n = if 127 < bN s (a + i) then rvGo s a k (i + 1) (n + bN s (a + i) % 128 * 128 ^ i)
      else if (0 < i ∧ bN s (a + i) = 0) ∨ 1000000000 < n + bN s (a + i) % 128 * 128 ^ i then none else some (n + bN s (a + i) % 128 * 128 ^ i, a + i + 1) := by rw [rvGo, if_pos h]
theorem rvGo_out (s : ByteArray) (a k i n : Nat) (h : ¬ a + i < s.size) : rvGo s a k i n = none := by cases k with
  | zero => rfl
  | succ k => rw [rvGo, if_neg h]
theorem pow128 {i : Nat} (h : i < 5) : 128 ^ i ≤ 268435456 := by
  have : i = 0 ∨ i = 1 ∨ i = 2 ∨ i = 3 ∨ i = 4 := by omega
  rcases this with rfl | rfl | rfl | rfl | rfl <;> decide
theorem dig_lt {c i : Nat} (h : i < 5) : c % 128 * 128 ^ i ≤ 127 * 128 ^ i := Nat.mul_le_mul_right _ (by omega)
/-- What is read of a number ends in the text, and is a number that may be told. -/
theorem rvGo_some (s : ByteArray) (a : Nat) : ∀ (k i n : Nat) (p : Nat × Nat), rvGo s a k i n = some p → p.1 ≤ 1000000000 ∧ a + i < p.2 ∧ p.2 ≤ s.size
  | 0, i, n, p, h => by cases h
  | k + 1, i, n, p, h => by
    rw [rvGo] at h
    split at h
    · split at h
      · have := rvGo_some s a k (i + 1) _ p h
        omega
      · split at h
        · cases h
        · cases h
          simp only; omega
    · cases h
theorem rv_some {s : ByteArray} {a : Int} {p : Nat × Nat} (h : rv s a = some p) : p.1 ≤ 1000000000 ∧ 0 ≤ a ∧ a < p.2 ∧ p.2 ≤ s.size := by
  unfold rv at h
  split at h
  · rename_i hb
    simp [inB] at hb
    have := rvGo_some _ _ _ _ _ _ h
    omega
  · cases h
/-- What is read of a short text. -/
def rs (s : ByteArray) (a : Int) : Option (Nat × Nat) := match rv s a with
  | some p => if 20000 < p.1 ∨ s.size < p.2 + p.1 then none else some p
  | none => none
theorem rs_some {s : ByteArray} {a : Int} {p : Nat × Nat} (h : rs s a = some p) : rv s a = some p ∧ p.1 ≤ 20000 ∧ p.2 + p.1 ≤ s.size := by
  unfold rs at h
  split at h
  · rename_i q hq
    split at h
    · cases h
    · rename_i hc
      cases h
      exact ⟨hq, by omega, by omega⟩
  · cases h
/-- The short text, and what is behind it. -/
def sT (s : ByteArray) (r : Option (Nat × Nat)) : ByteArray := match r with | some p => s.extract p.2 (p.2 + p.1) | none => ⟨#[]⟩
def sX (r : Option (Nat × Nat)) : Int := match r with | some p => (p.2 + p.1 : Nat) | none => 0
/-- A reader's state behind it: the place. -/
def nxN (r : Option (Nat × Nat)) (a : Nat) : Nat := match r with | some p => p.2 | none => a
def nxT (r : Option (Nat × Nat)) (a : Nat) : Nat := match r with | some p => p.2 + p.1 | none => a
def rdOb (p : Nat) (text : ByteArray) (a : Nat) (bad : Bool) : AOb := .cells [.string text, .int .i64 (a : Nat), .bool bad] .solo p
theorem rdOb_low (n p : Nat) (text : ByteArray) (a : Nat) (bad : Bool) : LowOb n (rdOb p text a bad) := by
  simp only [rdOb, LowOb]
  intro v hv
  simp only [List.mem_cons, List.not_mem_nil, or_false] at hv
  rcases hv with rfl | rfl | rfl
  · exact low_string _ _
  · exact low_int _ _ _
  · exact low_bool _ _
theorem Big.ltOb {h : AH} (b : Big h) {p : Nat} {o : AOb} (e : h.ob p = o) (ho : o ≠ .none) : p < h.n := Nat.lt_of_not_le (fun hi => ho (e.symm.trans (b p hi)))
theorem oN_some (n x : Nat) : oN (some (n, x)) = (n : Int) := rfl
theorem oN_none : oN none = 0 := rfl
theorem oX_some (n x : Nat) : oX (some (n, x)) = (x : Int) := rfl
theorem oX_none : oX none = 0 := rfl
theorem sX_none : sX none = 0 := rfl
theorem sT_none (s : ByteArray) : sT s none = ⟨#[]⟩ := rfl
theorem nxN_some (n x a : Nat) : nxN (some (n, x)) a = x := rfl
theorem nxN_none (a : Nat) : nxN none a = a := rfl
theorem nxT_some (n x a : Nat) : nxT (some (n, x)) a = x + n := rfl
theorem nxT_none (a : Nat) : nxT none a = a := rfl
attribute [push_cast] oN_some oN_none oX_some oX_none sX_none sT_none nxN_some nxN_none nxT_none Option.isSome_some Option.isSome_none Option.isNone_some Option.isNone_none Option.getD_none Option.getD_some
end Go.Sim
/- The sum of a text, and its four bytes. Conditions: those that each theorem names. -/
set_option linter.unusedSimpArgs false
set_option linter.unusedVariables false
namespace Go.Sim
def sx (a b : Int) : Int := IntKind.u32.wrap (BitVec.ofInt IntKind.u32.bits a ^^^ BitVec.ofInt IntKind.u32.bits b).toNat
def half (s : Int) : Int := IntKind.u32.wrap (s.tdiv 2)
def bit (s : Int) : Int := if s.tmod 2 = 1 then sx (half s) 3558460437 else half s
def cbits : Nat → Int → Int
  | 0, s => s
  | n + 1, s => cbits n (bit s)
def sum1 (s : Int) (b : Nat) : Int := cbits 8 (sx s (IntKind.u32.wrap b))
theorem cbits_step {j : Nat} {u : Int} (hj : j < 8) : cbits (8 - j) u = cbits (8 - (j + 1)) (bit u) := by
  rw [show 8 - j = (8 - (j + 1)) + 1 by omega]; rfl
theorem bit_pos {u : Int} (h : u.tmod 2 = 1) : bit u = sx (half u) 3558460437 := by rw [bit, if_pos h]
theorem bit_neg {u : Int} (h : ¬ u.tmod 2 = 1) : bit u = half u := by rw [bit, if_neg h]
def sumFrom (t : ByteArray) (i : Nat) (s : Int) : Int := if i < t.size then sumFrom t (i + 1) (sum1 s (byteAt t i).toNat) else s
termination_by t.size - i
theorem sumFrom_lt {t : ByteArray} {i : Nat} {s : Int} (h : i < t.size) : sumFrom t i s = sumFrom t (i + 1) (sum1 s (byteAt t i).toNat) := by rw [sumFrom, if_pos h]
theorem sumFrom_end {t : ByteArray} {i : Nat} {s : Int} (h : ¬ i < t.size) : sumFrom t i s = s := by rw [sumFrom, if_neg h]
def U32 (x : Int) : Prop := 0 ≤ x ∧ x < 4294967296
theorem wrap_u32 (n : Int) : U32 (IntKind.u32.wrap n) := by
  simp only [IntKind.wrap, IntKind.bits, IntKind.signed, Bool.false_and, U32]
  simp; omega
theorem cbits_u32 : ∀ (n : Nat) (s : Int), U32 s → U32 (cbits n s)
  | 0, s, h => h
  | n + 1, s, h => cbits_u32 n (bit s) (by unfold bit; split <;> exact wrap_u32 _)
theorem sumFrom_u32 (t : ByteArray) (i : Nat) (s : Int) (h : U32 s) : U32 (sumFrom t i s) := by
  by_cases hi : i < t.size
  · rw [sumFrom_lt hi]
    exact sumFrom_u32 t (i + 1) _ (cbits_u32 8 _ (wrap_u32 _))
  · rw [sumFrom_end hi]; exact h
termination_by t.size - i
def b8 (x : Int) (k : Nat) : UInt8 := UInt8.ofNat (x.toNat / 256 ^ k)
/-- A sum's four bytes, the highest first. -/
def four (x : Int) : ByteArray := ⟨#[b8 x 3, b8 x 2, b8 x 1, b8 x 0]⟩
theorem four_size (x : Int) : (four x).size = 4 := rfl
def crc (t : ByteArray) : Int := sumFrom t 0 4294967295
theorem crc_u32 (t : ByteArray) : U32 (crc t) := sumFrom_u32 t 0 _ ⟨by decide, by decide⟩
def sealT (t : ByteArray) : ByteArray := t ++ four (crc t)
theorem u8_ofNat (n : Nat) : UInt8.ofNat (IntKind.u8.wrap (n : Int)).toNat = UInt8.ofNat n := by
  simp only [IntKind.wrap, IntKind.bits, IntKind.signed, Bool.false_and]
  apply UInt8.toNat_inj.1
  simp; omega
theorem fdiv_nat (n k : Nat) : ((n : Int).fdiv (k : Int)) = ((n / k : Nat) : Int) := by
  rw [Int.fdiv_eq_ediv_of_nonneg _ (by omega)]; norm_cast
theorem sh_byte {x : Int} (hx : U32 x) (k : Nat) (hk : k < 4) (m : Nat) (hm : m = 8 * k) : UInt8.ofNat (IntKind.u8.wrap (x.fdiv (2 ^ min m IntKind.u32.bits))).toNat = b8 x k := by
  obtain ⟨n, rfl⟩ := Int.eq_ofNat_of_zero_le hx.1
  have e : min m IntKind.u32.bits = 8 * k := by rw [hm]; exact Nat.min_eq_left (by show 8 * k ≤ 32; omega)
  rw [e, show (2 : Int) ^ (8 * k) = ((256 ^ k : Nat) : Int) by rw [Int.pow_mul]; norm_cast, fdiv_nat, u8_ofNat]
  simp [b8]
theorem sh_byte0 {x : Int} (hx : U32 x) : UInt8.ofNat (IntKind.u8.wrap x).toNat = b8 x 0 := by
  obtain ⟨n, rfl⟩ := Int.eq_ofNat_of_zero_le hx.1
  rw [u8_ofNat]; simp [b8]
def sh8 : Nat → Int → Int
  | 0, x => x
  | j + 1, x => (sh8 j x).fdiv (2 ^ min (Int.toNat 8) IntKind.i64.bits)
def lo8 (x : Int) : Int := IntKind.u8.wrap (IntKind.i64.wrap (BitVec.ofInt IntKind.i64.bits x &&& BitVec.ofInt IntKind.i64.bits 255).toNat)
theorem sh8_nat (n : Nat) : ∀ j, sh8 j (n : Int) = ((n / 256 ^ j : Nat) : Int)
  | 0 => by simp [sh8]
  | j + 1 => by
    rw [sh8, sh8_nat n j, show ((2 : Int) ^ min (Int.toNat 8) IntKind.i64.bits) = ((256 : Nat) : Int) from rfl, fdiv_nat, Nat.div_div_eq_div_mul, Nat.pow_succ]
theorem lo8_nat (n : Nat) (h : n < 4294967296) : lo8 (n : Int) = ((n % 256 : Nat) : Int) := by
  unfold lo8
  have e : (BitVec.ofInt IntKind.i64.bits (n : Int) &&& BitVec.ofInt IntKind.i64.bits 255).toNat = n % 256 := by
    show (BitVec.ofInt 64 (n : Int) &&& BitVec.ofInt 64 255).toNat = n % 256
    have e1 : BitVec.ofInt 64 (n : Int) = BitVec.ofNat 64 n := by simp
    have e2 : BitVec.ofInt 64 (255 : Int) = BitVec.ofNat 64 255 := by rfl
    rw [e1, e2, BitVec.toNat_and, BitVec.toNat_ofNat, BitVec.toNat_ofNat]
    have e3 : n % 2 ^ 64 = n := Nat.mod_eq_of_lt (by omega)
    have e4 : 255 % 2 ^ 64 = 2 ^ 8 - 1 := by decide
    rw [e3, e4, Nat.and_two_pow_sub_one_eq_mod]
  rw [e, wrapNat (by omega), w8 (by omega) (by omega)]
theorem lo_byte {x : Int} (hx : U32 x) (k : Nat) : UInt8.ofNat (lo8 (sh8 k x)).toNat = b8 x k := by
  obtain ⟨n, rfl⟩ := Int.eq_ofNat_of_zero_le hx.1
  have h2 : n < 4294967296 := by have := hx.2; omega
  rw [sh8_nat, lo8_nat _ (Nat.lt_of_le_of_lt (Nat.div_le_self _ _) h2)]
  rw [Int.toNat_natCast, b8, Int.toNat_natCast]
  apply UInt8.toNat_inj.1
  simp
/-- Four bytes, of which the last j are written. -/
def hfL (x : Int) : Nat → List Value
  | 0 => [.int .u8 0, .int .u8 0, .int .u8 0, .int .u8 0]
  | 1 => [.int .u8 0, .int .u8 0, .int .u8 0, .int .u8 (lo8 (sh8 0 x))]
  | 2 => [.int .u8 0, .int .u8 0, .int .u8 (lo8 (sh8 1 x)), .int .u8 (lo8 (sh8 0 x))]
  | 3 => [.int .u8 0, .int .u8 (lo8 (sh8 2 x)), .int .u8 (lo8 (sh8 1 x)), .int .u8 (lo8 (sh8 0 x))]
  | _ => [.int .u8 (lo8 (sh8 3 x)), .int .u8 (lo8 (sh8 2 x)), .int .u8 (lo8 (sh8 1 x)), .int .u8 (lo8 (sh8 0 x))]
theorem hfL_len (x : Int) (j : Nat) : (hfL x j).length = 4 := by unfold hfL; split <;> rfl
theorem hfL_set (x : Int) (j : Nat) (h : j < 4) : (hfL x j).set (3 - j) (.int .u8 (lo8 (sh8 j x))) = hfL x (j + 1) := by
  have : j = 0 ∨ j = 1 ∨ j = 2 ∨ j = 3 := by omega
  rcases this with rfl | rfl | rfl | rfl <;> rfl
theorem hfL_bytes {x : Int} (hx : U32 x) : toBytes (hfL x 4) = some [b8 x 3, b8 x 2, b8 x 1, b8 x 0] := by
  simp only [hfL, toBytes_cons, toBytes_nil, Option.map_some, lo_byte hx]
end Go.Sim
/- Messages: what is told of one, and what is read. Conditions: those that each theorem names. -/
set_option linter.unusedSimpArgs false
set_option linter.unusedVariables false
namespace Go.Sim
/-- What was read of a number is told by the bytes that were read. -/
theorem rvGo_vt (s : ByteArray) (a : Nat) : ∀ (k i n : Nat) (p : Nat × Nat), n = sumv (bl s a i) → (∀ b ∈ bl s a i, 127 < b ∧ b < 256) → rvGo s a k i n = some p → vt (p.1 : Int) = s.extract a p.2
  | 0, i, n, p, _, _, h => by cases h
  | k + 1, i, n, p, hn, hall, h => by
    rw [rvGo] at h
    split at h
    · rename_i hlt
      have hv : n + bN s (a + i) % 128 * 128 ^ i = sumv (bl s a (i + 1)) := by rw [bl_succ, sumv_snoc, bl_len, hn]
      split at h
      · rename_i hc
        refine rvGo_vt s a k (i + 1) _ p hv (fun b hb => ?_) h
        rw [bl_succ, List.mem_append, List.mem_singleton] at hb
        rcases hb with hb | hb
        · exact hall b hb
        · rw [hb]; exact ⟨hc, bN_lt _ _⟩
      · rename_i hc
        split at h
        · cases h
        · rename_i hne
          cases h
          show (⟨((var ((n + bN s (a + i) % 128 * 128 ^ i : Nat) : Int).toNat).map UInt8.ofNat).toArray⟩ : ByteArray) = s.extract a (a + i + 1)
          rw [Int.toNat_natCast]
          refine (vt_eq _ s a (i + 1) (by omega)).2 ?_
          rw [hv, bl_succ]
          refine var_sum _ (by omega) _ hall ?_
          by_cases h0 : bN s (a + i) = 0
          · right
            have : i = 0 := by omega
            rw [this]; rfl
          · exact .inl h0
    · cases h
theorem rv_vt {s : ByteArray} {a : Nat} {p : Nat × Nat} (h : rv s (a : Int) = some p) : vt (p.1 : Int) = s.extract a p.2 := by
  unfold rv at h
  split at h
  · rw [Int.toNat_natCast] at h
    exact rvGo_vt s a 5 0 0 p rfl (by simp [bl]) h
  · cases h
theorem var_len : ∀ (k m : Nat), m < 128 ^ (k + 1) → (var m).length ≤ k + 1
  | 0, m, h => by rw [var, if_pos (by omega)]; simp
  | k + 1, m, h => by
    rw [var]
    split
    · simp
    · have : (var (m / 128)).length ≤ k + 1 := var_len k (m / 128) (by
        rw [Nat.div_lt_iff_lt_mul (by omega)]
        rw [Nat.pow_succ] at h; exact h)
      simp only [List.length_cons]; omega
theorem vt_size {n : Int} (h : n ≤ 1000000000) : (vt n).size ≤ 5 := by
  have h5 : n.toNat < 128 ^ (4 + 1) := by omega
  have := var_len 4 n.toNat h5
  simpa [vt, ByteArray.size] using this
theorem extract_app (s : ByteArray) (a b c : Nat) (h1 : a ≤ b) (h2 : b ≤ c) : s.extract a b ++ s.extract b c = s.extract a c := by
  rw [ByteArray.extract_append_extract, Nat.min_eq_left h1, Nat.max_eq_right h2]
theorem extract_all (s : ByteArray) : s.extract 0 s.size = s := by simp
structure Msg where
  kind : Int
  worker : Int
  task : Int
  try_ : Int
  body : ByteArray
  deriving DecidableEq
def Msg.v (m : Msg) : Value := .agg #[.int .i64 m.kind, .int .i64 m.worker, .int .i64 m.task, .int .i64 m.try_, .string m.body]
def msgOk (m : Msg) : Bool := inB m.kind 1 4 && inB m.worker 1 3 && inB m.task 0 20 && inB m.try_ 0 1000000000 && decide ((m.body.size : Int) ≤ 15000) && (decide (m.body = ⟨#[]⟩) || decide (m.kind = 2) || decide (m.kind = 3))
def msgBytes (m : Msg) : ByteArray := (⟨#[UInt8.ofNat (IntKind.u8.wrap m.kind).toNat, UInt8.ofNat (IntKind.u8.wrap m.worker).toNat]⟩ : ByteArray) ++ vt m.task ++ vt m.try_ ++ m.body
def msgText (m : Msg) : ByteArray := if msgOk m = true then sealT (msgBytes m) else ⟨#[]⟩
theorem msgOk_ (m : Msg) (h : msgOk m = true) : (1 ≤ m.kind ∧ m.kind ≤ 4) ∧ (1 ≤ m.worker ∧ m.worker ≤ 3) ∧ (0 ≤ m.task ∧ m.task ≤ 20) ∧ (0 ≤ m.try_ ∧ m.try_ ≤ 1000000000) ∧ (m.body.size : Int) ≤ 15000 := by
  simp only [msgOk, inB, Bool.and_eq_true, decide_eq_true_eq] at h
  omega
theorem msgBytes_size (m : Msg) (h : msgOk m = true) : (msgBytes m).size ≤ 15012 := by
  obtain ⟨_, _, h1, h2, h3⟩ := msgOk_ m h
  have z1 := vt_size (n := m.task) (by omega)
  have z2 := vt_size (n := m.try_) (by omega)
  have z0 : (⟨#[UInt8.ofNat (IntKind.u8.wrap m.kind).toNat, UInt8.ofNat (IntKind.u8.wrap m.worker).toNat]⟩ : ByteArray).size = 2 := rfl
  simp only [msgBytes, ByteArray.size_append, z0]
  omega
def unsealT (t : ByteArray) : Option ByteArray := if t.size < 4 then none else if t.size - 4 ≤ 20000 ∧ sealT (t.extract 0 (t.size - 4)) = t then some (t.extract 0 (t.size - 4)) else none
theorem unsealT_some {t s : ByteArray} (h : unsealT t = some s) : sealT s = t ∧ s.size ≤ 20000 := by
  unfold unsealT at h
  split at h
  · cases h
  · split at h
    · rename_i hc
      cases h
      refine ⟨hc.2, ?_⟩
      simp only [ByteArray.size_extract]; omega
    · cases h
theorem app_eq_iff {a b t : ByteArray} (ha : a = t.extract 0 a.size) (h : t.size = a.size + b.size) : a ++ b = t ↔ t.extract a.size t.size = b := by
  constructor
  · intro e
    have : t.extract a.size t.size = (a ++ b).extract a.size (a ++ b).size := by rw [e]
    rw [this, ByteArray.size_append]; first | exact ByteArray.extract_append_eq_right rfl rfl | simp
  · intro e
    rw [← e]
    conv => lhs; lhs; rw [ha]
    rw [extract_app t 0 a.size t.size (by omega) (by omega), extract_all]
theorem seal_iff {t : ByteArray} (h4 : ¬ t.size < 4) : sealT (t.extract 0 (t.size - 4)) = t ↔ t.extract (t.size - 4) t.size = four (crc (t.extract 0 (t.size - 4))) := by
  have hs : (t.extract 0 (t.size - 4)).size = t.size - 4 := by simp only [ByteArray.size_extract]; omega
  have := app_eq_iff (a := t.extract 0 (t.size - 4)) (b := four (crc (t.extract 0 (t.size - 4)))) (t := t) (by rw [hs]) (by rw [hs, four_size]; omega)
  rw [hs] at this
  exact this
def readMsg (t : ByteArray) : Option Msg := match unsealT t with
  | none => none
  | some s => if s.size < 2 then none else match rv s 2 with
    | none => none
    | some p => match rv s (p.2 : Nat) with
      | none => none
      | some q => if msgOk ⟨bN s 0, bN s 1, p.1, q.1, s.extract q.2 s.size⟩ then some ⟨bN s 0, bN s 1, p.1, q.1, s.extract q.2 s.size⟩ else none
def msg0 : Msg := ⟨0, 0, 0, 0, ⟨#[]⟩⟩
theorem head2 (s : ByteArray) (h : 2 ≤ s.size) : (⟨#[UInt8.ofNat (bN s 0), UInt8.ofNat (bN s 1)]⟩ : ByteArray) = s.extract 0 2 := by
  rw [show (2 : Nat) = 0 + 2 from rfl, extract_bl s 0 2 (by omega)]
  simp [bl, List.range_succ]
/-- What was read is told by the text that was read. -/
theorem msg_back {s : ByteArray} (h2 : 2 ≤ s.size) {p q : Nat × Nat} (hp : rv s ((2 : Nat) : Int) = some p) (hq : rv s (p.2 : Nat) = some q) : msgBytes ⟨bN s 0, bN s 1, p.1, q.1, s.extract q.2 s.size⟩ = s := by
  have e1 := rv_some hp
  have e2 := rv_some hq
  simp only [msgBytes]
  rw [u8_ofNat, u8_ofNat, head2 s h2, rv_vt hp, rv_vt hq, extract_app s 0 2 p.2 (by omega) (by omega), extract_app s 0 p.2 q.2 (by omega) (by omega), extract_app s 0 q.2 s.size (by omega) (by omega), extract_all]
end Go.Sim
/- Stores: what is told of one. Conditions: those that each theorem names. -/
set_option linter.unusedSimpArgs false
set_option linter.unusedVariables false
namespace Go.Sim
structure Var where
  name : ByteArray
  val : ByteArray
  deriving DecidableEq
structure Cell where
  name : ByteArray
  key : ByteArray
  val : ByteArray
  deriving DecidableEq
structure Store where
  vars : List Var
  cells : List Cell
  out : ByteArray
  deriving DecidableEq
def Var.enc (x : Var) : List Value := [.string x.name, .string x.val]
def Cell.enc (x : Cell) : List Value := [.string x.name, .string x.key, .string x.val]
/-- A short text. -/
def short (s : ByteArray) : ByteArray := vt (s.size : Nat) ++ s
theorem short_size (s : ByteArray) (h : s.size ≤ 1000000000) : (short s).size ≤ s.size + 5 := by
  have := vt_size (n := (s.size : Int)) (by omega)
  simp only [short, ByteArray.size_append]; omega
def cat (l : List ByteArray) : ByteArray := l.foldl (· ++ ·) ⟨#[]⟩
theorem cat_snoc (l : List ByteArray) (x : ByteArray) : cat (l ++ [x]) = cat l ++ x := by simp [cat]
def Var.txt (x : Var) : ByteArray := short x.name ++ short x.val
def Cell.txt (x : Cell) : ByteArray := short x.name ++ short x.key ++ short x.val
def varsT (l : List Var) (i : Nat) : ByteArray := cat ((l.take i).map Var.txt)
def cellsT (l : List Cell) (i : Nat) : ByteArray := cat ((l.take i).map Cell.txt)
theorem varsT_succ {l : List Var} {i : Nat} (h : i < l.length) : varsT l (i + 1) = varsT l i ++ l[i].txt := by
  simp only [varsT, List.take_add_one, List.getElem?_eq_getElem h, Option.toList_some, List.map_append, List.map_cons, List.map_nil, cat_snoc]
theorem cellsT_succ {l : List Cell} {i : Nat} (h : i < l.length) : cellsT l (i + 1) = cellsT l i ++ l[i].txt := by
  simp only [cellsT, List.take_add_one, List.getElem?_eq_getElem h, Option.toList_some, List.map_append, List.map_cons, List.map_nil, cat_snoc]
theorem varsT_all (l : List Var) : varsT l l.length = cat (l.map Var.txt) := by simp [varsT]
theorem cellsT_all (l : List Cell) : cellsT l l.length = cat (l.map Cell.txt) := by simp [cellsT]
/-- The text of a store that is right. -/
def storeT (s : Store) : ByteArray := vt (s.vars.length : Nat) ++ varsT s.vars s.vars.length ++ vt (s.cells.length : Nat) ++ cellsT s.cells s.cells.length ++ short s.out
theorem app_assoc (a b c : ByteArray) : a ++ (b ++ c) = a ++ b ++ c := (ByteArray.append_assoc).symm
def letter (c : Int) : Bool := inB c 97 122 || inB c 65 90
def letters (s : ByteArray) : Bool := allAt s letter && inB s.size 1 8
def ltB (a b : ByteArray) : Bool := Op.bytesLess a.toList b.toList
def cmpB (a b : ByteArray) : Int := Lib.compareBytes a.data.toList b.data.toList
def cellCmp (a b : Cell) : Int := if a.name = b.name then cmpB a.key b.key else cmpB a.name b.name
def varOkAt (l : List Var) (j : Nat) : Bool := match l[j]? with
  | some x => letters x.name && decide ((x.val.size : Int) ≤ 40) && (j == 0 || match l[j - 1]? with | some y => ltB y.name x.name | none => false)
  | none => false
def cellOkAt (l : List Cell) (j : Nat) : Bool := match l[j]? with
  | some x => letters x.name && decide ((x.key.size : Int) ≤ 40) && decide ((x.val.size : Int) ≤ 40) && (j == 0 || match l[j - 1]? with | some y => decide (cellCmp y x < 0) | none => false)
  | none => false
def storeOk (s : Store) : Bool := allN s.vars.length (varOkAt s.vars) && allN s.cells.length (cellOkAt s.cells) && decide ((s.vars.length : Int) ≤ 60) && decide ((s.cells.length : Int) ≤ 2000) && decide ((s.out.size : Int) ≤ 3000)
structure RdS (h : AH) (A B : Option Addr) (s : Store) : Prop where
  vars : RdE h A 2 Var.enc s.vars
  cells : RdE h B 3 Cell.enc s.cells
structure Sz (s : Store) : Prop where
  vars : ∀ x ∈ s.vars, x.name.size ≤ maxLen ∧ x.val.size ≤ maxLen
  cells : ∀ x ∈ s.cells, x.name.size ≤ maxLen ∧ x.key.size ≤ maxLen ∧ x.val.size ≤ maxLen
  out : s.out.size ≤ maxLen
  nv : s.vars.length < 274877906944
  nc : s.cells.length < 274877906944
theorem storeOk_v {s : Store} {i : Nat} (hi : i < s.vars.length) (e : varOkAt s.vars i = false) : false = storeOk s := by simp [storeOk, allN_false hi e]
theorem storeOk_c {s : Store} {i : Nat} (hi : i < s.cells.length) (e : cellOkAt s.cells i = false) : false = storeOk s := by simp [storeOk, allN_false hi e]
theorem varOkAt_eq {l : List Var} {i : Nat} (hi : i < l.length) : varOkAt l i = (letters l[i].name && decide ((l[i].val.size : Int) ≤ 40) && (i == 0 || ltB (l[i - 1]'(by omega)).name l[i].name)) := by
  simp [varOkAt, hi, show i - 1 < l.length by omega]
theorem cellOkAt_eq {l : List Cell} {i : Nat} (hi : i < l.length) : cellOkAt l i = (letters l[i].name && decide ((l[i].key.size : Int) ≤ 40) && decide ((l[i].val.size : Int) ≤ 40) && (i == 0 || decide (cellCmp (l[i - 1]'(by omega)) l[i] < 0))) := by
  simp [cellOkAt, hi, show i - 1 < l.length by omega]

theorem varOk_size {s : Store} (h : storeOk s = true) {i : Nat} (hi : i < s.vars.length) : s.vars[i].name.size ≤ 8 ∧ s.vars[i].val.size ≤ 40 := by
  simp only [storeOk, Bool.and_eq_true] at h
  have h1 := allN_iff.1 h.1.1.1.1 i hi
  rw [varOkAt_eq hi] at h1
  simp only [letters, inB, Bool.and_eq_true, decide_eq_true_eq] at h1
  omega
theorem cellOk_size {s : Store} (h : storeOk s = true) {i : Nat} (hi : i < s.cells.length) : s.cells[i].name.size ≤ 8 ∧ s.cells[i].key.size ≤ 40 ∧ s.cells[i].val.size ≤ 40 := by
  simp only [storeOk, Bool.and_eq_true] at h
  have h1 := allN_iff.1 h.1.1.1.2 i hi
  rw [cellOkAt_eq hi] at h1
  simp only [letters, inB, Bool.and_eq_true, decide_eq_true_eq] at h1
  omega
theorem storeOk_len {s : Store} (h : storeOk s = true) : s.vars.length ≤ 60 ∧ s.cells.length ≤ 2000 ∧ s.out.size ≤ 3000 := by
  simp only [storeOk, Bool.and_eq_true, decide_eq_true_eq] at h
  omega
theorem varsT_size {s : Store} (h : storeOk s = true) : ∀ i, i ≤ s.vars.length → (varsT s.vars i).size ≤ 58 * i
  | 0, _ => by simp [varsT, cat, ByteArray.size]
  | i + 1, hi => by
    have ih := varsT_size h i (by omega)
    have hs := varOk_size h (i := i) (by omega)
    have h1 := short_size s.vars[i].name (by omega)
    have h2 := short_size s.vars[i].val (by omega)
    rw [varsT_succ (by omega), ByteArray.size_append, Var.txt, ByteArray.size_append]
    omega
theorem cellsT_size {s : Store} (h : storeOk s = true) : ∀ i, i ≤ s.cells.length → (cellsT s.cells i).size ≤ 103 * i
  | 0, _ => by simp [cellsT, cat, ByteArray.size]
  | i + 1, hi => by
    have ih := cellsT_size h i (by omega)
    have hs := cellOk_size h (i := i) (by omega)
    have h1 := short_size s.cells[i].name (by omega)
    have h2 := short_size s.cells[i].key (by omega)
    have h3 := short_size s.cells[i].val (by omega)
    rw [cellsT_succ (by omega), ByteArray.size_append, Cell.txt, ByteArray.size_append, ByteArray.size_append]
    omega
theorem bytesV_append (a b : ByteArray) : bytesV (a ++ b) = bytesV a ++ bytesV b := by simp [bytesV]
theorem bytesV_len (a : ByteArray) : (bytesV a).length = a.size := by simp [bytesV]
theorem toBytes_bytesV (a : ByteArray) : (toBytes (bytesV a)).map (fun l => (⟨l.toArray⟩ : ByteArray)) = some a := by
  simp [bytesV, toBytes_map]
theorem toBytes_bytesV' (a : ByteArray) : toBytes (bytesV a) = some a.data.toList := by
  simp [bytesV, toBytes_map]
theorem vt_pos (n : Int) : 0 < (vt n).size := by
  have : 0 < (var n.toNat).length := by rw [var]; split <;> simp
  simpa [vt, ByteArray.size] using this
theorem short_pos (s : ByteArray) : 0 < (short s).size := by
  have := vt_pos (s.size : Nat)
  simp only [short, ByteArray.size_append]; omega
theorem cmpL_lt : ∀ a b : List UInt8, (Lib.compareBytes a b < 0) ↔ Op.bytesLess a b = true
  | [], [] => by simp [Lib.compareBytes, Op.bytesLess]
  | [], _ :: _ => by simp [Lib.compareBytes, Op.bytesLess]
  | _ :: _, [] => by simp [Lib.compareBytes, Op.bytesLess]
  | x :: a, y :: b => by
    simp only [Lib.compareBytes, Op.bytesLess]
    have ih := cmpL_lt a b
    by_cases h1 : x < y
    · simp [h1]
    · by_cases h2 : y < x
      · have hne : ¬ x = y := fun e => by subst e; exact h1 h2
        simp [h1, h2, hne]
      · have e : x = y := UInt8.le_antisymm (UInt8.not_lt.1 h2) (UInt8.not_lt.1 h1)
        simp [h1, h2, e, ih]
theorem cmpL_eq : ∀ a b : List UInt8, (Lib.compareBytes a b = 0) ↔ a = b
  | [], [] => by simp [Lib.compareBytes]
  | [], _ :: _ => by simp [Lib.compareBytes]
  | _ :: _, [] => by simp [Lib.compareBytes]
  | x :: a, y :: b => by
    simp only [Lib.compareBytes]
    have ih := cmpL_eq a b
    by_cases h1 : x < y
    · have hne : ¬ x = y := fun e => by subst e; exact UInt8.lt_irrefl _ h1
      simp [h1, hne]
    · by_cases h2 : y < x
      · have hne : ¬ x = y := fun e => by subst e; exact h1 h2
        simp [h1, h2, hne]
      · have e : x = y := UInt8.le_antisymm (UInt8.not_lt.1 h2) (UInt8.not_lt.1 h1)
        simp [h1, h2, e, ih]
theorem cmp_lt (a b : ByteArray) : (cmpB a b < 0) ↔ ltB a b = true := by
  unfold cmpB ltB
  rw [ByteArray.toList_eq, ByteArray.toList_eq]; exact cmpL_lt _ _
theorem cellCmp_lt (a b : Cell) : decide (cellCmp a b < 0) = (ltB a.name b.name || (decide (a.name = b.name) && ltB a.key b.key)) := by
  have irr : ∀ l : List UInt8, Op.bytesLess l l = false := by
    intro l
    induction l with
    | nil => rfl
    | cons x l ih => simp [Op.bytesLess, ih]
  unfold cellCmp
  by_cases e : a.name = b.name
  · have h1 : ltB b.name b.name = false := irr _
    rw [if_pos e, e, h1]
    simp [cmp_lt]
  · rw [if_neg e]
    simp [cmp_lt, e]
theorem app_empty (a : ByteArray) : a ++ (⟨#[]⟩ : ByteArray) = a := by
  have : (⟨#[]⟩ : ByteArray) = ByteArray.empty := rfl
  rw [this]; simp
theorem varsT_zero (l : List Var) : varsT l 0 = ⟨#[]⟩ := rfl
theorem cellsT_zero (l : List Cell) : cellsT l 0 = ⟨#[]⟩ := rfl
end Go.Sim
namespace Go.Proofs.YtcggnolnakgkeaaDoor
open Go Go.Sim Go.Proofs
set_option linter.unusedSimpArgs false
set_option linter.unusedVariables false
set_option maxRecDepth 100000
set_option maxHeartbeats 4000000
theorem within_c (n lo hi : Int) (h : AH) : CD Tryd.prog 66 [.int .i64 n, .int .i64 lo, .int .i64 hi] h (.bool (inB n lo hi)) h := by
  refine CD.quiet ?_ (low_bool _ _)
  refine CC.ofN Tryd.func66 Tryd.ntmps66 Tryd.results66 rfl (by decide) (by kernel_rfl) ?_
  simp (maxSteps := 1000000) -implicitDefEqProofs only [push_cast, seval]
  repeat' (first | with_reducible (first | exact Keep.refl _ _ | assumption | exact byte_lt _ _ | apply Keep.alloc | (refine Keep.set ?_ ?_; rotate_left; · omega) | apply Pre.alloc | apply Pre.set | exact Pre.refl _ | exact le_alloc _ | (refine Pre.keep ?_; assumption) | (refine Pre.n ?_; assumption)) | ((with_reducible (first | refine bcase_d (fun hb => ?_) (fun hb => ?_) | refine bcase_mk (fun hb => ?_) (fun hb => ?_))) <;> try simp (maxSteps := 1000000) -implicitDefEqProofs only [push_cast, seval]) | with_reducible refine And.intro ?_ ?_ | omega | (simp only [alloc_n, set_n, kill_n]; omega) | (exfalso; omega))
  all_goals simp [hb, inB]
theorem l01In_c (n lo hi : Int) (h : AH) : CD Tryd.prog 56 [.int .i64 n, .int .i64 lo, .int .i64 hi] h (.bool (inB n lo hi)) h := by
  refine CD.quiet ?_ (low_bool _ _)
  refine CC.ofN Tryd.func56 Tryd.ntmps56 Tryd.results56 rfl (by decide) (by kernel_rfl) ?_
  simp (maxSteps := 1000000) -implicitDefEqProofs only [push_cast, seval]
  repeat' (first | with_reducible (first | exact Keep.refl _ _ | assumption | exact byte_lt _ _ | apply Keep.alloc | (refine Keep.set ?_ ?_; rotate_left; · omega) | apply Pre.alloc | apply Pre.set | exact Pre.refl _ | exact le_alloc _ | (refine Pre.keep ?_; assumption) | (refine Pre.n ?_; assumption)) | ((with_reducible (first | refine bcase_d (fun hb => ?_) (fun hb => ?_) | refine bcase_mk (fun hb => ?_) (fun hb => ?_))) <;> try simp (maxSteps := 1000000) -implicitDefEqProofs only [push_cast, seval]) | with_reducible refine And.intro ?_ ?_ | omega | (simp only [alloc_n, set_n, kill_n]; omega) | (exfalso; omega))
  all_goals simp [hb, inB]
theorem isLetter_c (c : Int) (h0 : 0 ≤ c) (h1 : c < 256) (h : AH) : CD Tryd.prog 65 [.int .u8 c] h (.bool (letter c)) h := by
  refine CD.quiet ?_ (low_bool _ _)
  refine CC.ofN Tryd.func65 Tryd.ntmps65 Tryd.results65 rfl (by decide) (by kernel_rfl) ?_
  simp (maxSteps := 1000000) -implicitDefEqProofs only [push_cast, seval]
  rw [w64 (by omega) (by omega)]
  repeat' (first | with_reducible (first | exact Keep.refl _ _ | assumption | exact byte_lt _ _ | apply Keep.alloc | (refine Keep.set ?_ ?_; rotate_left; · omega) | apply Pre.alloc | apply Pre.set | exact Pre.refl _ | exact le_alloc _ | (refine Pre.keep ?_; assumption) | (refine Pre.n ?_; assumption)) | ((with_reducible (first | refine CD.to (within_c _ _ _ _) ?_ | refine CQ.pure (fun _ => within_c _ _ _ _) ?_ | refine bcase_d (fun hb => ?_) (fun hb => ?_) | refine bcase_mk (fun hb => ?_) (fun hb => ?_))) <;> try simp (maxSteps := 1000000) -implicitDefEqProofs only [push_cast, seval]) | with_reducible refine And.intro ?_ ?_ | omega | (simp only [alloc_n, set_n, kill_n]; omega) | (exfalso; omega))
  · simp [letter, hb]
  · rw [w64 (by omega) (by omega)]; simp [letter, hb]
theorem l05Letter_c (c : Int) (h : AH) : CD Tryd.prog 55 [.int .u8 c] h (.bool (letter c)) h := by
  refine CD.quiet ?_ (low_bool _ _)
  refine CC.ofN Tryd.func55 Tryd.ntmps55 Tryd.results55 rfl (by decide) (by kernel_rfl) ?_
  simp (maxSteps := 1000000) -implicitDefEqProofs only [push_cast, seval]
  repeat' (first | with_reducible (first | exact Keep.refl _ _ | assumption | exact byte_lt _ _ | apply Keep.alloc | (refine Keep.set ?_ ?_; rotate_left; · omega) | apply Pre.alloc | apply Pre.set | exact Pre.refl _ | exact le_alloc _ | (refine Pre.keep ?_; assumption) | (refine Pre.n ?_; assumption)) | ((with_reducible (first | refine bcase_d (fun hb => ?_) (fun hb => ?_) | refine bcase_mk (fun hb => ?_) (fun hb => ?_))) <;> try simp (maxSteps := 1000000) -implicitDefEqProofs only [push_cast, seval]) | with_reducible refine And.intro ?_ ?_ | omega | (simp only [alloc_n, set_n, kill_n]; omega) | (exfalso; omega))
  all_goals simp [letter, inB, *]
theorem isLetters_c (s : ByteArray) (hs : s.size ≤ maxLen) (h : AH) : CD Tryd.prog 37 [.string s] h (.bool (letters s)) h := by
  refine CD.quiet ?_ (low_bool _ _)
  refine CC.ofN Tryd.func37 Tryd.ntmps37 Tryd.results37 rfl (by decide) (by kernel_rfl) ?_
  simp (maxSteps := 1000000) -implicitDefEqProofs only [push_cast, seval]
  rw [maxLen_eq] at hs
  refine WC.loopA (by kernel_rfl) [6] [2, 3, 7, 8, 9, 10, 11, 12, 13, 14] (fun i : Nat => [.int .i64 i]) (fun i h' => (i ≤ s.size ∧ ∀ j, j < i → letter (byteAt s j).toNat = true) ∧ h' = h) (fun i => s.size - i) 0 (by kernel_rfl) ⟨⟨Nat.zero_le _, by omega⟩, rfl⟩ ?_
  intro i g h' hJ
  have hi := hJ.1.1
  have hj := hJ.1.2
  have e := hJ.2
  clear hJ
  subst e
  simp (maxSteps := 1000000) -implicitDefEqProofs only [push_cast, seval]
  repeat' (first | with_reducible (first | exact Keep.refl _ _ | assumption | exact byte_lt _ _ | apply Keep.alloc | (refine Keep.set ?_ ?_; rotate_left; · omega) | apply Pre.alloc | apply Pre.set | exact Pre.refl _ | exact le_alloc _ | (refine Pre.keep ?_; assumption) | (refine Pre.n ?_; assumption)) | ((with_reducible (first | refine CD.to (isLetter_c _ ?_ ?_ _) ?_ | refine CQ.pure (fun _ => isLetter_c _ ?_ ?_ _) ?_ | refine CD.to (within_c _ _ _ _) ?_ | refine CQ.pure (fun _ => within_c _ _ _ _) ?_ | refine bcase_d (fun hb => ?_) (fun hb => ?_) | refine bcase_mk (fun hb => ?_) (fun hb => ?_))) <;> try simp (maxSteps := 1000000) -implicitDefEqProofs only [push_cast, seval]) | with_reducible refine And.intro ?_ ?_ | omega | (simp only [alloc_n, set_n, kill_n]; omega) | (exfalso; omega))
  · rw [wrapSucc (by omega)]
    exact ⟨i + 1, by kernel_rfl, ⟨by omega, fun j hj' => (Nat.lt_succ_iff_lt_or_eq.1 hj').elim (hj j) (fun e => by subst e; exact hb)⟩, by omega⟩
  · simp only [letters, allAt_false (s := s) (i := i) (by omega) hb]; rfl
  · have : allAt s letter = true := allAt_iff.2 (fun j hj' => hj j (by omega))
    simp [letters, this]
end Go.Proofs.YtcggnolnakgkeaaDoor
namespace Go.Proofs.YtcggnolnakgkeaaDoor
open Go Go.Sim Go.Proofs
set_option linter.unusedSimpArgs false
set_option linter.unusedVariables false
set_option maxRecDepth 100000
set_option maxHeartbeats 4000000
theorem cmpstring_c (a b : ByteArray) (h : AH) : CD Tryd.prog 86 [.string a, .string b] h (.int .i64 (cmpB a b)) h := by
  have key : ∀ w : World, (callFunc 86 #[.string a, .string b]).run Tryd.prog w = .ok (.value (.int .i64 (cmpB a b))) w := fun w => ?_
  · exact CC.ext (P := Tryd.prog) (f := 86) (args := [.string a, .string b]) (V := .int .i64 (cmpB a b)) (R := fun v h' => v = .int .i64 (cmpB a b) ∧ h' = h) (fun v hv => by
      simp only [List.mem_cons, List.not_mem_nil, or_false] at hv
      rcases hv with rfl | rfl <;> rfl) key rfl (And.intro rfl rfl)
  have e1 : Extern.findNext Tryd.f86 = none := by kernel_rfl
  have e2 : Extern.find Tryd.f86 = some Extern.BytealgCompare.compare := by kernel_rfl
  have e3 : ¬ Tryd.f86.name = "runtime.NumGoroutine" := by
    have : (Tryd.f86.name == "runtime.NumGoroutine") = false := by kernel_rfl
    simpa using this
  have e4 : Tryd.f86.body = none := by kernel_rfl
  simp [callFunc, Tryd.func86, e1, e2, e3, e4, Lib.run_compareString, cmpB, mark, Sem.run]
theorem CompareString_c (a b : ByteArray) (h : AH) : CD Tryd.prog 80 [.string a, .string b] h (.int .i64 (cmpB a b)) h := by
  refine CD.quiet ?_ (low_int _ _ _)
  refine CC.ofN Tryd.func80 Tryd.ntmps80 Tryd.results80 rfl (by decide) (by kernel_rfl) ?_
  simp (maxSteps := 1000000) -implicitDefEqProofs only [push_cast, seval]
  repeat' (first | with_reducible (first | exact Keep.refl _ _ | assumption | exact byte_lt _ _ | apply Keep.alloc | (refine Keep.set ?_ ?_; rotate_left; · omega) | apply Pre.alloc | apply Pre.set | exact Pre.refl _ | exact le_alloc _ | (refine Pre.keep ?_; assumption) | (refine Pre.n ?_; assumption)) | ((with_reducible (first | refine CD.to (cmpstring_c _ _ _) ?_ | refine CQ.pure (fun _ => cmpstring_c _ _ _) ?_ | refine bcase_d (fun hb => ?_) (fun hb => ?_) | refine bcase_mk (fun hb => ?_) (fun hb => ?_))) <;> try simp (maxSteps := 1000000) -implicitDefEqProofs only [push_cast, seval]) | with_reducible refine And.intro ?_ ?_ | omega | (simp only [alloc_n, set_n, kill_n]; omega) | (exfalso; omega))
theorem Compare_c (a b : ByteArray) (h : AH) : CD Tryd.prog 67 [.string a, .string b] h (.int .i64 (cmpB a b)) h := by
  refine CD.quiet ?_ (low_int _ _ _)
  refine CC.ofN Tryd.func67 Tryd.ntmps67 Tryd.results67 rfl (by decide) (by kernel_rfl) ?_
  simp (maxSteps := 1000000) -implicitDefEqProofs only [push_cast, seval]
  repeat' (first | with_reducible (first | exact Keep.refl _ _ | assumption | exact byte_lt _ _ | apply Keep.alloc | (refine Keep.set ?_ ?_; rotate_left; · omega) | apply Pre.alloc | apply Pre.set | exact Pre.refl _ | exact le_alloc _ | (refine Pre.keep ?_; assumption) | (refine Pre.n ?_; assumption)) | ((with_reducible (first | refine CD.to (CompareString_c _ _ _) ?_ | refine CQ.pure (fun _ => CompareString_c _ _ _) ?_ | refine bcase_d (fun hb => ?_) (fun hb => ?_) | refine bcase_mk (fun hb => ?_) (fun hb => ?_))) <;> try simp (maxSteps := 1000000) -implicitDefEqProofs only [push_cast, seval]) | with_reducible refine And.intro ?_ ?_ | omega | (simp only [alloc_n, set_n, kill_n]; omega) | (exfalso; omega))
theorem byKey_c (a b : Cell) (h : AH) : CD Tryd.prog 38 [.agg #[.string a.name, .string a.key, .string a.val], .agg #[.string b.name, .string b.key, .string b.val]] h (.int .i64 (cellCmp a b)) h := by
  refine CD.quiet ?_ (low_int _ _ _)
  refine CC.ofN Tryd.func38 Tryd.ntmps38 Tryd.results38 rfl (by decide) (by kernel_rfl) ?_
  simp (maxSteps := 1000000) -implicitDefEqProofs only [push_cast, seval]
  repeat' (first | with_reducible (first | exact Keep.refl _ _ | assumption | exact byte_lt _ _ | apply Keep.alloc | (refine Keep.set ?_ ?_; rotate_left; · omega) | apply Pre.alloc | apply Pre.set | exact Pre.refl _ | exact le_alloc _ | (refine Pre.keep ?_; assumption) | (refine Pre.n ?_; assumption)) | ((with_reducible (first | refine CD.to (Compare_c _ _ _) ?_ | refine CQ.pure (fun _ => Compare_c _ _ _) ?_ | refine bcase_d (fun hb => ?_) (fun hb => ?_) | refine bcase_mk (fun hb => ?_) (fun hb => ?_))) <;> try simp (maxSteps := 1000000) -implicitDefEqProofs only [push_cast, seval]) | with_reducible refine And.intro ?_ ?_ | omega | (simp only [alloc_n, set_n, kill_n]; omega) | (exfalso; omega))
  all_goals simp [cellCmp, hb]
theorem StoreOk_i (s : Store) (A B : Option Addr) (ca cb : Nat) (h : AH) (hR : RdS h A B s) (hz : Sz s) :
    CD Tryd.prog 12 [.agg #[.slice A s.vars.length ca, .slice B s.cells.length cb, .string s.out]] h (.bool (storeOk s)) h := by
  refine CD.withBig (fun big => ?_)
  refine CD.quiet ?_ (low_bool _ _)
  have hA := hR.vars
  have hB := hR.cells
  have hz1 := hz.vars
  have hz2 := hz.cells
  have nv := hz.nv
  have nc := hz.nc
  refine CC.ofN Tryd.func12 Tryd.ntmps12 Tryd.results12 rfl (by decide) (by kernel_rfl) ?_
  simp (maxSteps := 1000000) -implicitDefEqProofs only [push_cast, seval]
  refine WC.loopA (by kernel_rfl) [10] [2, 3, 4, 11, 12, 13, 14, 15, 16, 17, 18, 19, 20, 21, 22, 23, 24, 25, 26, 27, 28, 29, 30, 31, 32, 33, 34, 35, 36, 37, 38, 39, 40, 41] (fun i : Nat => [.int .i64 i]) (fun i h' => (i ≤ s.vars.length ∧ ∀ j, j < i → varOkAt s.vars j = true) ∧ Pre (h.alloc (AOb.cells [Value.slice A s.vars.length ca, Value.slice B s.cells.length cb, Value.string s.out] Stat.solo h.n)) h') (fun i => s.vars.length - i) 0 (by kernel_rfl) ⟨⟨Nat.zero_le _, allTo_zero⟩, Pre.refl _⟩ ?_
  intro i g h1 hJ
  have hi := hJ.1.1
  have hj := hJ.1.2
  have hp := hJ.2
  clear hJ
  have p0 : Pre h h1 := ((Pre.refl _).alloc _).trans hp
  have l1 : h.n < h1.n := Nat.lt_of_lt_of_le (lt_alloc _) hp.n
  have e1 : h1.ob h.n = _ := (hp.ob _ (lt_alloc _)).trans (alloc_same _)
  simp (maxSteps := 1000000) -implicitDefEqProofs only [push_cast, seval]
  with_reducible refine bcase_d (fun hb => ?_) (fun hb => ?_)
  · have hi' : i < s.vars.length := by omega
    with_reducible refine hA.use big p0 hi' (fun id off eA hlt hr => ?_)
    subst eA
    simp only [Var.enc] at hr
    have r0 := (rd_2 hr).1
    have r1 := (rd_2 hr).2
    have hz' := (hz1 _ (List.getElem_mem hi')).1
    simp (maxSteps := 1000000) -implicitDefEqProofs only [push_cast, seval, hr, r0, r1, hlt, rd_of e1, rd1_of e1, l1]
    refine And.intro (by omega) (And.intro (by omega) ?_)
    refine WC.draw' (by kernel_rfl) (by kernel_rfl) (.q 0 (.q 1 (.c 2 (.q 3 (.q 4 (.q 5 (.q 6 (.q 7 (.q 8 (.q 9 (.q 10 (.q 11 (.q 12 (.q 13 (.q 14 (.q 15 (.q 16 (.q 17 (.q 18 (.q 19 (.q 20 (.q 21 (.q 22 (.q 23 (.q 24 (.q 25 (.done))))))))))))))))))))))))))) (by kernel_rfl) ?_
    simp (maxSteps := 1000000) -implicitDefEqProofs only [push_cast, seval, e1, hr, r0, r1, hlt, rd_of e1, rd1_of e1, l1]
    have hv := varOkAt_eq hi'
    rcases Nat.eq_zero_or_pos i with h0 | h0
    · repeat' (first | with_reducible (first | exact Keep.refl _ _ | assumption | exact byte_lt _ _ | apply Keep.alloc | (refine Keep.set ?_ ?_; rotate_left; · omega) | apply Pre.alloc | apply Pre.set | exact Pre.refl _ | exact le_alloc _ | (refine Pre.keep ?_; assumption) | (refine Pre.n ?_; assumption)) | ((with_reducible (first | refine CD.to (isLetters_c _ ?_ _) ?_ | refine CQ.pure (fun _ => isLetters_c _ ?_ _) ?_ | refine bcase_d (fun hb => ?_) (fun hb => ?_) | refine bcase_mk (fun hb => ?_) (fun hb => ?_))) <;> try simp (maxSteps := 1000000) -implicitDefEqProofs only [push_cast, seval, e1, hr, r0, r1, hlt, rd_of e1, rd1_of e1, l1]) | with_reducible refine And.intro ?_ ?_ | omega | (simp only [alloc_n, set_n, kill_n]; omega) | (exfalso; omega))
      all_goals first
        | exact congrArg Value.bool (storeOk_v hi' (by rw [hv]; grind [ltB]))
        | (rw [wrapSucc (by omega)]
           refine ⟨i + 1, by kernel_rfl, ⟨⟨by omega, allTo_succ hj (by rw [hv]; grind [ltB])⟩, ?_⟩, by omega⟩
           repeat' (first | with_reducible (first | exact Keep.refl _ _ | assumption | exact byte_lt _ _ | apply Keep.alloc | (refine Keep.set ?_ ?_; rotate_left; · omega) | apply Pre.alloc | apply Pre.set | exact Pre.refl _ | exact le_alloc _ | (refine Pre.keep ?_; assumption) | (refine Pre.n ?_; assumption)) | ((with_reducible (first | refine bcase_d (fun hb => ?_) (fun hb => ?_) | refine bcase_mk (fun hb => ?_) (fun hb => ?_))) <;> try simp (maxSteps := 1000000) -implicitDefEqProofs only [push_cast, seval]) | with_reducible refine And.intro ?_ ?_ | omega | (simp only [alloc_n, set_n, kill_n]; omega) | (exfalso; omega)))
    · have w1 := wrapPred h0 (by omega)
      have q0 := (rd_2 (hA.rdAt big p0 (i := i - 1) (by omega))).1
      have hn0 : ¬ i = 0 := by omega
      repeat' (first | with_reducible (first | exact Keep.refl _ _ | assumption | exact byte_lt _ _ | apply Keep.alloc | (refine Keep.set ?_ ?_; rotate_left; · omega) | apply Pre.alloc | apply Pre.set | exact Pre.refl _ | exact le_alloc _ | (refine Pre.keep ?_; assumption) | (refine Pre.n ?_; assumption)) | ((with_reducible (first | refine CD.to (isLetters_c _ ?_ _) ?_ | refine CQ.pure (fun _ => isLetters_c _ ?_ _) ?_ | refine bcase_d (fun hb => ?_) (fun hb => ?_) | refine bcase_mk (fun hb => ?_) (fun hb => ?_))) <;> try simp (maxSteps := 1000000) -implicitDefEqProofs only [push_cast, seval, e1, hr, r0, r1, hlt, rd_of e1, rd1_of e1, l1, w1, q0]) | with_reducible refine And.intro ?_ ?_ | omega | (simp only [alloc_n, set_n, kill_n]; omega) | (exfalso; omega))
      all_goals first
        | exact congrArg Value.bool (storeOk_v hi' (by rw [hv]; grind [ltB]))
        | (rw [wrapSucc (by omega)]
           refine ⟨i + 1, by kernel_rfl, ⟨⟨by omega, allTo_succ hj (by rw [hv]; grind [ltB])⟩, ?_⟩, by omega⟩
           repeat' (first | with_reducible (first | exact Keep.refl _ _ | assumption | exact byte_lt _ _ | apply Keep.alloc | (refine Keep.set ?_ ?_; rotate_left; · omega) | apply Pre.alloc | apply Pre.set | exact Pre.refl _ | exact le_alloc _ | (refine Pre.keep ?_; assumption) | (refine Pre.n ?_; assumption)) | ((with_reducible (first | refine bcase_d (fun hb => ?_) (fun hb => ?_) | refine bcase_mk (fun hb => ?_) (fun hb => ?_))) <;> try simp (maxSteps := 1000000) -implicitDefEqProofs only [push_cast, seval]) | with_reducible refine And.intro ?_ ?_ | omega | (simp only [alloc_n, set_n, kill_n]; omega) | (exfalso; omega)))
       
  · simp (maxSteps := 1000000) -implicitDefEqProofs only [push_cast, seval, rd_of e1, rd1_of e1, l1]
    have hV : allN s.vars.length (varOkAt s.vars) = true := allN_iff.2 (fun j hj' => hj j (by omega))
    clear hb hj hi
    refine WC.loopA (by kernel_rfl) [45] [2, 5, 6, 46, 47, 48, 49, 50, 51, 52, 53, 54, 55, 56, 57, 58, 59, 60, 61, 62, 63, 64, 65, 66, 67, 68, 69, 70, 71, 72, 73, 74, 75, 76, 77, 78, 79, 80, 81] (fun i : Nat => [.int .i64 i]) (fun i h' => (i ≤ s.cells.length ∧ ∀ j, j < i → cellOkAt s.cells j = true) ∧ Pre h1 h') (fun i => s.cells.length - i) 0 (by kernel_rfl) ⟨⟨Nat.zero_le _, allTo_zero⟩, Pre.refl _⟩ ?_
    intro i g2 h2 hJ
    have hi := hJ.1.1
    have hj := hJ.1.2
    have hp2 := hJ.2
    clear hJ
    have p2 : Pre h h2 := p0.trans hp2
    have l2 : h.n < h2.n := Nat.lt_of_lt_of_le l1 hp2.n
    have e2 : h2.ob h.n = _ := (hp2.ob _ l1).trans e1
    simp (maxSteps := 1000000) -implicitDefEqProofs only [push_cast, seval]
    with_reducible refine bcase_d (fun hb => ?_) (fun hb => ?_)
    · have hi' : i < s.cells.length := by omega
      with_reducible refine hB.use big p2 hi' (fun id off eA hlt hr => ?_)
      subst eA
      simp only [Cell.enc] at hr
      have r0 := (rd_3 hr).1
      have r1 := (rd_3 hr).2.1
      have r2 := (rd_3 hr).2.2
      have hz' := (hz2 _ (List.getElem_mem hi')).1
      simp (maxSteps := 1000000) -implicitDefEqProofs only [push_cast, seval, hr, r0, r1, r2, hlt, rd_of e2, rd1_of e2, l2]
      refine And.intro (by omega) (And.intro (by omega) ?_)
      refine WC.draw' (by kernel_rfl) (by kernel_rfl) (.q 0 (.q 1 (.c 2 (.q 3 (.q 4 (.q 5 (.q 6 (.q 7 (.q 8 (.q 9 (.q 10 (.q 11 (.q 12 (.q 13 (.q 14 (.q 15 (.q 16 (.q 17 (.q 18 (.q 19 (.q 20 (.q 21 (.q 22 (.q 23 (.q 24 (.q 25 (.q 26 (.c 27 (.q 28 (.q 29 (.q 30 (.done)))))))))))))))))))))))))))))))) (by kernel_rfl) ?_
      simp (maxSteps := 1000000) -implicitDefEqProofs only [push_cast, seval, e2, hr, r0, r1, r2, hlt, rd_of e2, rd1_of e2, l2]
      have hv := cellOkAt_eq hi'
      rcases Nat.eq_zero_or_pos i with h0 | h0
      · repeat' (first | with_reducible (first | exact Keep.refl _ _ | assumption | exact byte_lt _ _ | apply Keep.alloc | (refine Keep.set ?_ ?_; rotate_left; · omega) | apply Pre.alloc | apply Pre.set | exact Pre.refl _ | exact le_alloc _ | (refine Pre.keep ?_; assumption) | (refine Pre.n ?_; assumption)) | ((with_reducible (first | refine CD.to (isLetters_c _ ?_ _) ?_ | refine CQ.pure (fun _ => isLetters_c _ ?_ _) ?_ | refine bcase_d (fun hb => ?_) (fun hb => ?_) | refine bcase_mk (fun hb => ?_) (fun hb => ?_))) <;> try simp (maxSteps := 1000000) -implicitDefEqProofs only [push_cast, seval, e2, hr, r0, r1, r2, hlt, rd_of e2, rd1_of e2, l2]) | with_reducible refine And.intro ?_ ?_ | omega | (simp only [alloc_n, set_n, kill_n]; omega) | (exfalso; omega))
        all_goals first
          | exact congrArg Value.bool (storeOk_c hi' (by rw [hv]; grind))
          | (rw [wrapSucc (by omega)]
             refine ⟨i + 1, by kernel_rfl, ⟨⟨by omega, allTo_succ hj (by rw [hv]; grind)⟩, ?_⟩, by omega⟩
             repeat' (first | with_reducible (first | exact Keep.refl _ _ | assumption | exact byte_lt _ _ | apply Keep.alloc | (refine Keep.set ?_ ?_; rotate_left; · omega) | apply Pre.alloc | apply Pre.set | exact Pre.refl _ | exact le_alloc _ | (refine Pre.keep ?_; assumption) | (refine Pre.n ?_; assumption)) | ((with_reducible (first | refine bcase_d (fun hb => ?_) (fun hb => ?_) | refine bcase_mk (fun hb => ?_) (fun hb => ?_))) <;> try simp (maxSteps := 1000000) -implicitDefEqProofs only [push_cast, seval]) | with_reducible refine And.intro ?_ ?_ | omega | (simp only [alloc_n, set_n, kill_n]; omega) | (exfalso; omega)))
      · have w1 := wrapPred h0 (by omega)
        have q0 := hB.rdAt big p2 (i := i - 1) (by omega)
        simp only [Cell.enc] at q0
        have hn0 : ¬ i = 0 := by omega
        repeat' (first | with_reducible (first | exact Keep.refl _ _ | assumption | exact byte_lt _ _ | apply Keep.alloc | (refine Keep.set ?_ ?_; rotate_left; · omega) | apply Pre.alloc | apply Pre.set | exact Pre.refl _ | exact le_alloc _ | (refine Pre.keep ?_; assumption) | (refine Pre.n ?_; assumption)) | ((with_reducible (first | refine CD.to (isLetters_c _ ?_ _) ?_ | refine CQ.pure (fun _ => isLetters_c _ ?_ _) ?_ | refine CD.to (byKey_c _ _ _) ?_ | refine CQ.pure (fun _ => byKey_c _ _ _) ?_ | refine bcase_d (fun hb => ?_) (fun hb => ?_) | refine bcase_mk (fun hb => ?_) (fun hb => ?_))) <;> try simp (maxSteps := 1000000) -implicitDefEqProofs only [push_cast, seval, e2, hr, r0, r1, r2, hlt, rd_of e2, rd1_of e2, l2, w1, q0]) | with_reducible refine And.intro ?_ ?_ | omega | (simp only [alloc_n, set_n, kill_n]; omega) | (exfalso; omega))
        all_goals first
          | exact congrArg Value.bool (storeOk_c hi' (by rw [hv]; grind))
          | (rw [wrapSucc (by omega)]
             refine ⟨i + 1, by kernel_rfl, ⟨⟨by omega, allTo_succ hj (by rw [hv]; grind)⟩, ?_⟩, by omega⟩
             repeat' (first | with_reducible (first | exact Keep.refl _ _ | assumption | exact byte_lt _ _ | apply Keep.alloc | (refine Keep.set ?_ ?_; rotate_left; · omega) | apply Pre.alloc | apply Pre.set | exact Pre.refl _ | exact le_alloc _ | (refine Pre.keep ?_; assumption) | (refine Pre.n ?_; assumption)) | ((with_reducible (first | refine bcase_d (fun hb => ?_) (fun hb => ?_) | refine bcase_mk (fun hb => ?_) (fun hb => ?_))) <;> try simp (maxSteps := 1000000) -implicitDefEqProofs only [push_cast, seval]) | with_reducible refine And.intro ?_ ?_ | omega | (simp only [alloc_n, set_n, kill_n]; omega) | (exfalso; omega)))
         
    · simp (maxSteps := 1000000) -implicitDefEqProofs only [push_cast, seval, rd_of e2, rd1_of e2, l2]
      have hC : allN s.cells.length (cellOkAt s.cells) = true := allN_iff.2 (fun j hj' => hj j (by omega))
      repeat' (first | with_reducible (first | exact Keep.refl _ _ | assumption | exact byte_lt _ _ | apply Keep.alloc | (refine Keep.set ?_ ?_; rotate_left; · omega) | apply Pre.alloc | apply Pre.set | exact Pre.refl _ | exact le_alloc _ | (refine Pre.keep ?_; assumption) | (refine Pre.n ?_; assumption)) | ((with_reducible (first | refine bcase_d (fun hb => ?_) (fun hb => ?_) | refine bcase_mk (fun hb => ?_) (fun hb => ?_))) <;> try simp (maxSteps := 1000000) -implicitDefEqProofs only [push_cast, seval, rd_of e2, rd1_of e2, l2]) | with_reducible refine And.intro ?_ ?_ | omega | (simp only [alloc_n, set_n, kill_n]; omega) | (exfalso; omega))
      all_goals first | (simp only [storeOk, hV, hC]; grind)
end Go.Proofs.YtcggnolnakgkeaaDoor
namespace Go.Proofs.YtcggnolnakgkeaaDoor
open Go Go.Sim Go.Proofs
set_option linter.unusedSimpArgs false
set_option linter.unusedVariables false
set_option maxRecDepth 100000
set_option maxHeartbeats 4000000
end Go.Proofs.YtcggnolnakgkeaaDoor
namespace Go.Proofs.YtcggnolnakgkeaaDoor
open Go Go.Sim Go.Proofs
set_option linter.unusedSimpArgs false
set_option linter.unusedVariables false
set_option maxRecDepth 100000
set_option maxHeartbeats 1000000
end Go.Proofs.YtcggnolnakgkeaaDoor
namespace Go.Proofs.YtcggnolnakgkeaaDoor
open Go Go.Sim Go.Proofs
set_option linter.unusedSimpArgs false
set_option linter.unusedVariables false
set_option maxRecDepth 100000
set_option maxHeartbeats 1000000
end Go.Proofs.YtcggnolnakgkeaaDoor
namespace Go.Proofs.YtcggnolnakgkeaaDoor
open Go Go.Sim Go.Proofs
set_option linter.unusedSimpArgs false
set_option linter.unusedVariables false
set_option maxRecDepth 100000
set_option maxHeartbeats 1000000
end Go.Proofs.YtcggnolnakgkeaaDoor
namespace Go.Proofs.YtcggnolnakgkeaaDoor
open Go Go.Sim Go.Proofs
set_option linter.unusedSimpArgs false
set_option linter.unusedVariables false
set_option maxRecDepth 100000
set_option maxHeartbeats 1000000
end Go.Proofs.YtcggnolnakgkeaaDoor
namespace Go.Proofs.YtcggnolnakgkeaaDoor
open Go Go.Sim Go.Proofs
set_option linter.unusedSimpArgs false
set_option linter.unusedVariables false
set_option maxRecDepth 100000
set_option maxHeartbeats 1000000
end Go.Proofs.YtcggnolnakgkeaaDoor
namespace Go.Proofs.YtcggnolnakgkeaaDoor
open Go Go.Sim Go.Proofs
set_option linter.unusedSimpArgs false
set_option linter.unusedVariables false
set_option maxRecDepth 100000
set_option maxHeartbeats 1000000
end Go.Proofs.YtcggnolnakgkeaaDoor
namespace Go.Proofs.YtcggnolnakgkeaaDoor
open Go Go.Sim Go.Proofs
set_option linter.unusedSimpArgs false
set_option linter.unusedVariables false
set_option maxRecDepth 100000
set_option maxHeartbeats 1000000
def msgR (r : Option Msg) : Value := .tuple #[(r.getD msg0).v, .bool r.isSome]
end Go.Proofs.YtcggnolnakgkeaaDoor
namespace Go.Proofs.YtcggnolnakgkeaaDoor
open Go Go.Sim Go.Proofs
set_option linter.unusedSimpArgs false
set_option linter.unusedVariables false
set_option maxRecDepth 100000
set_option maxHeartbeats 1000000
end Go.Proofs.YtcggnolnakgkeaaDoor
namespace Go.Proofs.YtcggnolnakgkeaaDoor
open Go Go.Sim Go.Proofs
set_option linter.unusedSimpArgs false
set_option linter.unusedVariables false
set_option maxRecDepth 100000
set_option maxHeartbeats 1000000
theorem l07Name_c (s : ByteArray) (hs : s.size ≤ maxLen) (h : AH) : CD Tryd.prog 21 [.string s] h (.bool (letters s)) h := by
  refine CD.quiet ?_ (low_bool _ _)
  rw [maxLen_eq] at hs
  refine CC.ofN Tryd.func21 Tryd.ntmps21 Tryd.results21 rfl (by decide) (by kernel_rfl) ?_
  simp (maxSteps := 1000000) -implicitDefEqProofs only [push_cast, seval]
  refine WC.loopA (by kernel_rfl) [3] [2, 4, 5, 6, 7, 8, 9, 10, 11, 12, 13, 14] (fun i : Nat => [.int .i64 i]) (fun i h' => (i ≤ s.size ∧ ∀ j, j < i → letter (byteAt s j).toNat = true) ∧ h' = h) (fun i => s.size - i) 0 (by kernel_rfl) ⟨⟨Nat.zero_le _, by omega⟩, rfl⟩ ?_
  intro i g h' hJ
  have hi := hJ.1.1
  have hj := hJ.1.2
  have e := hJ.2
  clear hJ
  subst e
  simp (maxSteps := 1000000) -implicitDefEqProofs only [push_cast, seval]
  repeat' (first | with_reducible (first | exact Keep.refl _ _ | assumption | exact byte_lt _ _ | apply Keep.alloc | (refine Keep.set ?_ ?_; rotate_left; · omega) | apply Pre.alloc | apply Pre.set | exact Pre.refl _ | exact le_alloc _ | (refine Pre.keep ?_; assumption) | (refine Pre.n ?_; assumption)) | ((with_reducible (first | refine CD.to (l05Letter_c _ _) ?_ | refine CQ.pure (fun _ => l05Letter_c _ _) ?_ | refine CD.to (l01In_c _ _ _ _) ?_ | refine CQ.pure (fun _ => l01In_c _ _ _ _) ?_ | refine bcase_d (fun hb => ?_) (fun hb => ?_) | refine bcase_mk (fun hb => ?_) (fun hb => ?_))) <;> try simp (maxSteps := 1000000) -implicitDefEqProofs only [push_cast, seval]) | with_reducible refine And.intro ?_ ?_ | omega | (simp only [alloc_n, set_n, kill_n]; omega) | (exfalso; omega))
  · rw [wrapSucc (by omega)]
    exact ⟨i + 1, by kernel_rfl, ⟨by omega, fun j hj' => (Nat.lt_succ_iff_lt_or_eq.1 hj').elim (hj j) (fun e => by subst e; exact hb)⟩, by omega⟩
  · simp only [letters, allAt_false (s := s) (i := i) (by omega) hb]; rfl
  · have : allAt s letter = true := allAt_iff.2 (fun j hj' => hj j (by omega))
    simp [letters, this]
end Go.Proofs.YtcggnolnakgkeaaDoor
namespace Go.Proofs.YtcggnolnakgkeaaDoor
open Go Go.Sim Go.Proofs
set_option linter.unusedSimpArgs false
set_option linter.unusedVariables false
set_option maxRecDepth 100000
set_option maxHeartbeats 1000000
theorem l08Ahead_c (a b : Cell) (h : AH) : CD Tryd.prog 22 [.agg #[.string a.name, .string a.key, .string a.val], .agg #[.string b.name, .string b.key, .string b.val]] h (.bool (decide (cellCmp a b < 0))) h := by
  refine CD.quiet ?_ (low_bool _ _)
  rw [cellCmp_lt]
  refine CC.ofN Tryd.func22 Tryd.ntmps22 Tryd.results22 rfl (by decide) (by kernel_rfl) ?_
  simp (maxSteps := 1000000) -implicitDefEqProofs only [push_cast, seval]
  repeat' (first | with_reducible (first | exact Keep.refl _ _ | assumption | exact byte_lt _ _ | apply Keep.alloc | (refine Keep.set ?_ ?_; rotate_left; · omega) | apply Pre.alloc | apply Pre.set | exact Pre.refl _ | exact le_alloc _ | (refine Pre.keep ?_; assumption) | (refine Pre.n ?_; assumption)) | ((with_reducible (first | refine bcase_d (fun hb => ?_) (fun hb => ?_) | refine bcase_mk (fun hb => ?_) (fun hb => ?_))) <;> try simp (maxSteps := 1000000) -implicitDefEqProofs only [push_cast, seval]) | with_reducible refine And.intro ?_ ?_ | omega | (simp only [alloc_n, set_n, kill_n]; omega) | (exfalso; omega))
  all_goals (refine congrArg Value.bool ?_; simp only [ltB]; grind)
theorem StoreOk_s (s : Store) (A B : Option Addr) (ca cb : Nat) (h : AH) (hR : RdS h A B s) (hz : Sz s) :
    CD Tryd.prog 8 [.agg #[.slice A s.vars.length ca, .slice B s.cells.length cb, .string s.out]] h (.bool (storeOk s)) h := by
  refine CD.withBig (fun big => ?_)
  refine CD.quiet ?_ (low_bool _ _)
  have hA := hR.vars
  have hB := hR.cells
  have hz1 := hz.vars
  have hz2 := hz.cells
  have nv := hz.nv
  have nc := hz.nc
  refine CC.ofN Tryd.func8 Tryd.ntmps8 Tryd.results8 rfl (by decide) (by kernel_rfl) ?_
  simp (maxSteps := 1000000) -implicitDefEqProofs only [push_cast, seval]
  refine WC.loopA (by kernel_rfl) [3] [2, 4, 7, 8, 9, 10, 11, 12, 13, 14, 15, 16, 17, 18, 19, 20, 21, 22, 23, 24, 25, 26, 27, 28, 29, 30, 31, 32, 33, 34, 35, 36, 37, 38, 39, 40, 41, 42, 43, 44] (fun i : Nat => [.int .i64 i]) (fun i h' => (i ≤ s.vars.length ∧ ∀ j, j < i → varOkAt s.vars j = true) ∧ Pre (h.alloc (AOb.cells [Value.slice A s.vars.length ca, Value.slice B s.cells.length cb, Value.string s.out] Stat.solo h.n)) h') (fun i => s.vars.length - i) 0 (by kernel_rfl) ⟨⟨Nat.zero_le _, allTo_zero⟩, Pre.refl _⟩ ?_
  intro i g h1 hJ
  have hi := hJ.1.1
  have hj := hJ.1.2
  have hp := hJ.2
  clear hJ
  have p0 : Pre h h1 := ((Pre.refl _).alloc _).trans hp
  have l1 : h.n < h1.n := Nat.lt_of_lt_of_le (lt_alloc _) hp.n
  have e1 : h1.ob h.n = _ := (hp.ob _ (lt_alloc _)).trans (alloc_same _)
  simp (maxSteps := 1000000) -implicitDefEqProofs only [push_cast, seval, rd_of e1, rd1_of e1, l1]
  with_reducible refine bcase_d (fun hb => ?_) (fun hb => ?_)
  · have hi' : i < s.vars.length := by omega
    with_reducible refine hA.use big p0 hi' (fun id off eA hlt hr => ?_)
    subst eA
    simp only [Var.enc] at hr
    have r0 := (rd_2 hr).1
    have r1 := (rd_2 hr).2
    have hz' := (hz1 _ (List.getElem_mem hi')).1
    simp (maxSteps := 1000000) -implicitDefEqProofs only [push_cast, seval, hr, r0, r1, hlt, rd_of e1, rd1_of e1, l1]
    refine And.intro (by omega) (And.intro (by omega) ?_)
    refine WC.draw' (by kernel_rfl) (by kernel_rfl) (.q 0 (.q 1 (.c 2 (.q 3 (.q 4 (.q 5 (.q 6 (.q 7 (.q 8 (.q 9 (.q 10 (.q 11 (.q 12 (.q 13 (.q 14 (.q 15 (.q 16 (.q 17 (.q 18 (.q 19 (.q 20 (.q 21 (.q 22 (.q 23 (.q 24 (.q 25 (.done))))))))))))))))))))))))))) (by kernel_rfl) ?_
    simp (maxSteps := 1000000) -implicitDefEqProofs only [push_cast, seval, e1, hr, r0, r1, hlt, rd_of e1, rd1_of e1, l1]
    have hv := varOkAt_eq hi'
    rcases Nat.eq_zero_or_pos i with h0 | h0
    · repeat' (first | with_reducible (first | exact Keep.refl _ _ | assumption | exact byte_lt _ _ | apply Keep.alloc | (refine Keep.set ?_ ?_; rotate_left; · omega) | apply Pre.alloc | apply Pre.set | exact Pre.refl _ | exact le_alloc _ | (refine Pre.keep ?_; assumption) | (refine Pre.n ?_; assumption)) | ((with_reducible (first | refine CD.to (l07Name_c _ ?_ _) ?_ | refine CQ.pure (fun _ => l07Name_c _ ?_ _) ?_ | refine bcase_d (fun hb => ?_) (fun hb => ?_) | refine bcase_mk (fun hb => ?_) (fun hb => ?_))) <;> try simp (maxSteps := 1000000) -implicitDefEqProofs only [push_cast, seval, e1, hr, r0, r1, hlt, rd_of e1, rd1_of e1, l1]) | with_reducible refine And.intro ?_ ?_ | omega | (simp only [alloc_n, set_n, kill_n]; omega) | (exfalso; omega))
      all_goals first
        | exact congrArg Value.bool (storeOk_v hi' (by rw [hv]; grind [ltB]))
        | (rw [wrapSucc (by omega)]
           refine ⟨i + 1, by kernel_rfl, ⟨⟨by omega, allTo_succ hj (by rw [hv]; grind [ltB])⟩, ?_⟩, by omega⟩
           repeat' (first | with_reducible (first | exact Keep.refl _ _ | assumption | exact byte_lt _ _ | apply Keep.alloc | (refine Keep.set ?_ ?_; rotate_left; · omega) | apply Pre.alloc | apply Pre.set | exact Pre.refl _ | exact le_alloc _ | (refine Pre.keep ?_; assumption) | (refine Pre.n ?_; assumption)) | ((with_reducible (first | refine bcase_d (fun hb => ?_) (fun hb => ?_) | refine bcase_mk (fun hb => ?_) (fun hb => ?_))) <;> try simp (maxSteps := 1000000) -implicitDefEqProofs only [push_cast, seval]) | with_reducible refine And.intro ?_ ?_ | omega | (simp only [alloc_n, set_n, kill_n]; omega) | (exfalso; omega)))
    · have w1 := wrapPred h0 (by omega)
      have q0 := (rd_2 (hA.rdAt big p0 (i := i - 1) (by omega))).1
      have hn0 : ¬ i = 0 := by omega
      repeat' (first | with_reducible (first | exact Keep.refl _ _ | assumption | exact byte_lt _ _ | apply Keep.alloc | (refine Keep.set ?_ ?_; rotate_left; · omega) | apply Pre.alloc | apply Pre.set | exact Pre.refl _ | exact le_alloc _ | (refine Pre.keep ?_; assumption) | (refine Pre.n ?_; assumption)) | ((with_reducible (first | refine CD.to (l07Name_c _ ?_ _) ?_ | refine CQ.pure (fun _ => l07Name_c _ ?_ _) ?_ | refine bcase_d (fun hb => ?_) (fun hb => ?_) | refine bcase_mk (fun hb => ?_) (fun hb => ?_))) <;> try simp (maxSteps := 1000000) -implicitDefEqProofs only [push_cast, seval, e1, hr, r0, r1, hlt, rd_of e1, rd1_of e1, l1, w1, q0]) | with_reducible refine And.intro ?_ ?_ | omega | (simp only [alloc_n, set_n, kill_n]; omega) | (exfalso; omega))
      all_goals first
        | exact congrArg Value.bool (storeOk_v hi' (by rw [hv]; grind [ltB]))
        | (rw [wrapSucc (by omega)]
           refine ⟨i + 1, by kernel_rfl, ⟨⟨by omega, allTo_succ hj (by rw [hv]; grind [ltB])⟩, ?_⟩, by omega⟩
           repeat' (first | with_reducible (first | exact Keep.refl _ _ | assumption | exact byte_lt _ _ | apply Keep.alloc | (refine Keep.set ?_ ?_; rotate_left; · omega) | apply Pre.alloc | apply Pre.set | exact Pre.refl _ | exact le_alloc _ | (refine Pre.keep ?_; assumption) | (refine Pre.n ?_; assumption)) | ((with_reducible (first | refine bcase_d (fun hb => ?_) (fun hb => ?_) | refine bcase_mk (fun hb => ?_) (fun hb => ?_))) <;> try simp (maxSteps := 1000000) -implicitDefEqProofs only [push_cast, seval]) | with_reducible refine And.intro ?_ ?_ | omega | (simp only [alloc_n, set_n, kill_n]; omega) | (exfalso; omega)))
       
  · simp (maxSteps := 1000000) -implicitDefEqProofs only [push_cast, seval, rd_of e1, rd1_of e1, l1]
    have hV : allN s.vars.length (varOkAt s.vars) = true := allN_iff.2 (fun j hj' => hj j (by omega))
    clear hb hj hi
    refine WC.loopA (by kernel_rfl) [5] [2, 6, 45, 46, 47, 48, 49, 50, 51, 52, 53, 54, 55, 56, 57, 58, 59, 60, 61, 62, 63, 64, 65, 66, 67, 68, 69, 70, 71, 72, 73, 74, 75, 76, 77, 78, 79, 80, 81, 82, 83, 84, 85, 86, 87] (fun i : Nat => [.int .i64 i]) (fun i h' => (i ≤ s.cells.length ∧ ∀ j, j < i → cellOkAt s.cells j = true) ∧ Pre h1 h') (fun i => s.cells.length - i) 0 (by kernel_rfl) ⟨⟨Nat.zero_le _, allTo_zero⟩, Pre.refl _⟩ ?_
    intro i g2 h2 hJ
    have hi := hJ.1.1
    have hj := hJ.1.2
    have hp2 := hJ.2
    clear hJ
    have p2 : Pre h h2 := p0.trans hp2
    have l2 : h.n < h2.n := Nat.lt_of_lt_of_le l1 hp2.n
    have e2 : h2.ob h.n = _ := (hp2.ob _ l1).trans e1
    simp (maxSteps := 1000000) -implicitDefEqProofs only [push_cast, seval, rd_of e2, rd1_of e2, l2]
    with_reducible refine bcase_d (fun hb => ?_) (fun hb => ?_)
    · have hi' : i < s.cells.length := by omega
      with_reducible refine hB.use big p2 hi' (fun id off eA hlt hr => ?_)
      subst eA
      simp only [Cell.enc] at hr
      have r0 := (rd_3 hr).1
      have r1 := (rd_3 hr).2.1
      have r2 := (rd_3 hr).2.2
      have hz' := (hz2 _ (List.getElem_mem hi')).1
      simp (maxSteps := 1000000) -implicitDefEqProofs only [push_cast, seval, hr, r0, r1, r2, hlt, rd_of e2, rd1_of e2, l2]
      refine And.intro (by omega) (And.intro (by omega) ?_)
      refine WC.draw' (by kernel_rfl) (by kernel_rfl) (.q 0 (.q 1 (.c 2 (.q 3 (.q 4 (.q 5 (.q 6 (.q 7 (.q 8 (.q 9 (.q 10 (.q 11 (.q 12 (.q 13 (.q 14 (.q 15 (.q 16 (.q 17 (.q 18 (.q 19 (.q 20 (.q 21 (.q 22 (.q 23 (.q 24 (.q 25 (.q 26 (.c 27 (.q 28 (.q 29 (.q 30 (.done)))))))))))))))))))))))))))))))) (by kernel_rfl) ?_
      simp (maxSteps := 1000000) -implicitDefEqProofs only [push_cast, seval, e2, hr, r0, r1, r2, hlt, rd_of e2, rd1_of e2, l2]
      have hv := cellOkAt_eq hi'
      rcases Nat.eq_zero_or_pos i with h0 | h0
      · repeat' (first | with_reducible (first | exact Keep.refl _ _ | assumption | exact byte_lt _ _ | apply Keep.alloc | (refine Keep.set ?_ ?_; rotate_left; · omega) | apply Pre.alloc | apply Pre.set | exact Pre.refl _ | exact le_alloc _ | (refine Pre.keep ?_; assumption) | (refine Pre.n ?_; assumption)) | ((with_reducible (first | refine CD.to (l07Name_c _ ?_ _) ?_ | refine CQ.pure (fun _ => l07Name_c _ ?_ _) ?_ | refine bcase_d (fun hb => ?_) (fun hb => ?_) | refine bcase_mk (fun hb => ?_) (fun hb => ?_))) <;> try simp (maxSteps := 1000000) -implicitDefEqProofs only [push_cast, seval, e2, hr, r0, r1, r2, hlt, rd_of e2, rd1_of e2, l2]) | with_reducible refine And.intro ?_ ?_ | omega | (simp only [alloc_n, set_n, kill_n]; omega) | (exfalso; omega))
        all_goals first
          | exact congrArg Value.bool (storeOk_c hi' (by rw [hv]; grind))
          | (rw [wrapSucc (by omega)]
             refine ⟨i + 1, by kernel_rfl, ⟨⟨by omega, allTo_succ hj (by rw [hv]; grind)⟩, ?_⟩, by omega⟩
             repeat' (first | with_reducible (first | exact Keep.refl _ _ | assumption | exact byte_lt _ _ | apply Keep.alloc | (refine Keep.set ?_ ?_; rotate_left; · omega) | apply Pre.alloc | apply Pre.set | exact Pre.refl _ | exact le_alloc _ | (refine Pre.keep ?_; assumption) | (refine Pre.n ?_; assumption)) | ((with_reducible (first | refine bcase_d (fun hb => ?_) (fun hb => ?_) | refine bcase_mk (fun hb => ?_) (fun hb => ?_))) <;> try simp (maxSteps := 1000000) -implicitDefEqProofs only [push_cast, seval]) | with_reducible refine And.intro ?_ ?_ | omega | (simp only [alloc_n, set_n, kill_n]; omega) | (exfalso; omega)))
      · have w1 := wrapPred h0 (by omega)
        have q0 := hB.rdAt big p2 (i := i - 1) (by omega)
        simp only [Cell.enc] at q0
        have hn0 : ¬ i = 0 := by omega
        repeat' (first | with_reducible (first | exact Keep.refl _ _ | assumption | exact byte_lt _ _ | apply Keep.alloc | (refine Keep.set ?_ ?_; rotate_left; · omega) | apply Pre.alloc | apply Pre.set | exact Pre.refl _ | exact le_alloc _ | (refine Pre.keep ?_; assumption) | (refine Pre.n ?_; assumption)) | ((with_reducible (first | refine CD.to (l07Name_c _ ?_ _) ?_ | refine CQ.pure (fun _ => l07Name_c _ ?_ _) ?_ | refine CD.to (l08Ahead_c _ _ _) ?_ | refine CQ.pure (fun _ => l08Ahead_c _ _ _) ?_ | refine bcase_d (fun hb => ?_) (fun hb => ?_) | refine bcase_mk (fun hb => ?_) (fun hb => ?_))) <;> try simp (maxSteps := 1000000) -implicitDefEqProofs only [push_cast, seval, e2, hr, r0, r1, r2, hlt, rd_of e2, rd1_of e2, l2, w1, q0]) | with_reducible refine And.intro ?_ ?_ | omega | (simp only [alloc_n, set_n, kill_n]; omega) | (exfalso; omega))
        all_goals first
          | exact congrArg Value.bool (storeOk_c hi' (by rw [hv]; grind))
          | (rw [wrapSucc (by omega)]
             refine ⟨i + 1, by kernel_rfl, ⟨⟨by omega, allTo_succ hj (by rw [hv]; grind)⟩, ?_⟩, by omega⟩
             repeat' (first | with_reducible (first | exact Keep.refl _ _ | assumption | exact byte_lt _ _ | apply Keep.alloc | (refine Keep.set ?_ ?_; rotate_left; · omega) | apply Pre.alloc | apply Pre.set | exact Pre.refl _ | exact le_alloc _ | (refine Pre.keep ?_; assumption) | (refine Pre.n ?_; assumption)) | ((with_reducible (first | refine bcase_d (fun hb => ?_) (fun hb => ?_) | refine bcase_mk (fun hb => ?_) (fun hb => ?_))) <;> try simp (maxSteps := 1000000) -implicitDefEqProofs only [push_cast, seval]) | with_reducible refine And.intro ?_ ?_ | omega | (simp only [alloc_n, set_n, kill_n]; omega) | (exfalso; omega)))
         
    · simp (maxSteps := 1000000) -implicitDefEqProofs only [push_cast, seval, rd_of e2, rd1_of e2, l2]
      have hC : allN s.cells.length (cellOkAt s.cells) = true := allN_iff.2 (fun j hj' => hj j (by omega))
      repeat' (first | with_reducible (first | exact Keep.refl _ _ | assumption | exact byte_lt _ _ | apply Keep.alloc | (refine Keep.set ?_ ?_; rotate_left; · omega) | apply Pre.alloc | apply Pre.set | exact Pre.refl _ | exact le_alloc _ | (refine Pre.keep ?_; assumption) | (refine Pre.n ?_; assumption)) | ((with_reducible (first | refine bcase_d (fun hb => ?_) (fun hb => ?_) | refine bcase_mk (fun hb => ?_) (fun hb => ?_))) <;> try simp (maxSteps := 1000000) -implicitDefEqProofs only [push_cast, seval, rd_of e2, rd1_of e2, l2]) | with_reducible refine And.intro ?_ ?_ | omega | (simp only [alloc_n, set_n, kill_n]; omega) | (exfalso; omega))
      all_goals first | (simp only [storeOk, hV, hC]; grind)
end Go.Proofs.YtcggnolnakgkeaaDoor
namespace Go.Proofs.YtcggnolnakgkeaaDoor
open Go Go.Sim Go.Proofs
set_option linter.unusedSimpArgs false
set_option linter.unusedVariables false
set_option maxRecDepth 100000
set_option maxHeartbeats 1000000
end Go.Proofs.YtcggnolnakgkeaaDoor
namespace Go.Proofs.YtcggnolnakgkeaaDoor
open Go Go.Sim Go.Proofs
set_option linter.unusedSimpArgs false
set_option linter.unusedVariables false
set_option maxRecDepth 100000
set_option maxHeartbeats 1000000
end Go.Proofs.YtcggnolnakgkeaaDoor
namespace Go.Proofs.YtcggnolnakgkeaaDoor
open Go Go.Sim Go.Proofs
set_option linter.unusedSimpArgs false
set_option linter.unusedVariables false
set_option maxRecDepth 100000
set_option maxHeartbeats 1000000
theorem szVar_c (x : Var) (l : Int) (hx : x.name.size ≤ maxLen ∧ x.val.size ≤ maxLen) (hl : 0 ≤ l ∧ l ≤ 1048576) (h : AH) : CD Tryd.prog 68 [.agg #[.string x.name, .string x.val], .int .i64 l] h (.int .i64 (if l - x.name.size - x.val.size < 0 then -1 else l - x.name.size - x.val.size)) h := by
  refine CD.quiet ?_ (low_int _ _ _)
  have hm := maxLen_eq
  have w1 : IntKind.i64.wrap (l - (x.name.size : Int)) = l - (x.name.size : Int) := by rw [w64 (by omega) (by omega)]
  refine CC.ofN Tryd.func68 Tryd.ntmps68 Tryd.results68 rfl (by decide) (by kernel_rfl) ?_
  simp (maxSteps := 1000000) -implicitDefEqProofs only [push_cast, seval, w1]
  with_reducible refine bcase_d (fun hb => ?_) (fun hb => ?_)
  · simp (maxSteps := 1000000) -implicitDefEqProofs only [push_cast, seval]
    repeat' (first | with_reducible (first | exact Keep.refl _ _ | assumption | exact byte_lt _ _ | apply Keep.alloc | (refine Keep.set ?_ ?_; rotate_left; · omega) | apply Pre.alloc | apply Pre.set | exact Pre.refl _ | exact le_alloc _ | (refine Pre.keep ?_; assumption) | (refine Pre.n ?_; assumption)) | ((with_reducible (first | refine bcase_d (fun hb => ?_) (fun hb => ?_) | refine bcase_mk (fun hb => ?_) (fun hb => ?_))) <;> try simp (maxSteps := 1000000) -implicitDefEqProofs only [push_cast, seval]) | with_reducible refine And.intro ?_ ?_ | omega | (simp only [alloc_n, set_n, kill_n]; omega) | (exfalso; omega))
    all_goals grind
  have w2 : IntKind.i64.wrap (l - (x.name.size : Int) - (x.val.size : Int)) = l - (x.name.size : Int) - (x.val.size : Int) := by rw [w64 (by omega) (by omega)]
  simp (maxSteps := 1000000) -implicitDefEqProofs only [push_cast, seval, w2]
  repeat' (first | with_reducible (first | exact Keep.refl _ _ | assumption | exact byte_lt _ _ | apply Keep.alloc | (refine Keep.set ?_ ?_; rotate_left; · omega) | apply Pre.alloc | apply Pre.set | exact Pre.refl _ | exact le_alloc _ | (refine Pre.keep ?_; assumption) | (refine Pre.n ?_; assumption)) | ((with_reducible (first | refine bcase_d (fun hb => ?_) (fun hb => ?_) | refine bcase_mk (fun hb => ?_) (fun hb => ?_))) <;> try simp (maxSteps := 1000000) -implicitDefEqProofs only [push_cast, seval, w2]) | with_reducible refine And.intro ?_ ?_ | omega | (simp only [alloc_n, set_n, kill_n]; omega) | (exfalso; omega))
  all_goals grind
theorem szCell_c (x : Cell) (l : Int) (hx : x.name.size ≤ maxLen ∧ x.key.size ≤ maxLen ∧ x.val.size ≤ maxLen) (hl : 0 ≤ l ∧ l ≤ 1048576) (h : AH) : CD Tryd.prog 69 [.agg #[.string x.name, .string x.key, .string x.val], .int .i64 l] h (.int .i64 (if l - x.name.size - x.key.size - x.val.size < 0 then -1 else l - x.name.size - x.key.size - x.val.size)) h := by
  refine CD.quiet ?_ (low_int _ _ _)
  have hm := maxLen_eq
  have w1 : IntKind.i64.wrap (l - (x.name.size : Int)) = l - (x.name.size : Int) := by rw [w64 (by omega) (by omega)]
  refine CC.ofN Tryd.func69 Tryd.ntmps69 Tryd.results69 rfl (by decide) (by kernel_rfl) ?_
  simp (maxSteps := 1000000) -implicitDefEqProofs only [push_cast, seval, w1]
  with_reducible refine bcase_d (fun hb => ?_) (fun hb => ?_)
  · simp (maxSteps := 1000000) -implicitDefEqProofs only [push_cast, seval]
    repeat' (first | with_reducible (first | exact Keep.refl _ _ | assumption | exact byte_lt _ _ | apply Keep.alloc | (refine Keep.set ?_ ?_; rotate_left; · omega) | apply Pre.alloc | apply Pre.set | exact Pre.refl _ | exact le_alloc _ | (refine Pre.keep ?_; assumption) | (refine Pre.n ?_; assumption)) | ((with_reducible (first | refine bcase_d (fun hb => ?_) (fun hb => ?_) | refine bcase_mk (fun hb => ?_) (fun hb => ?_))) <;> try simp (maxSteps := 1000000) -implicitDefEqProofs only [push_cast, seval]) | with_reducible refine And.intro ?_ ?_ | omega | (simp only [alloc_n, set_n, kill_n]; omega) | (exfalso; omega))
    all_goals grind
  have w2 : IntKind.i64.wrap (l - (x.name.size : Int) - (x.key.size : Int)) = l - (x.name.size : Int) - (x.key.size : Int) := by rw [w64 (by omega) (by omega)]
  simp (maxSteps := 1000000) -implicitDefEqProofs only [push_cast, seval, w2]
  with_reducible refine bcase_d (fun hb => ?_) (fun hb => ?_)
  · simp (maxSteps := 1000000) -implicitDefEqProofs only [push_cast, seval]
    repeat' (first | with_reducible (first | exact Keep.refl _ _ | assumption | exact byte_lt _ _ | apply Keep.alloc | (refine Keep.set ?_ ?_; rotate_left; · omega) | apply Pre.alloc | apply Pre.set | exact Pre.refl _ | exact le_alloc _ | (refine Pre.keep ?_; assumption) | (refine Pre.n ?_; assumption)) | ((with_reducible (first | refine bcase_d (fun hb => ?_) (fun hb => ?_) | refine bcase_mk (fun hb => ?_) (fun hb => ?_))) <;> try simp (maxSteps := 1000000) -implicitDefEqProofs only [push_cast, seval]) | with_reducible refine And.intro ?_ ?_ | omega | (simp only [alloc_n, set_n, kill_n]; omega) | (exfalso; omega))
    all_goals grind
  have w3 : IntKind.i64.wrap (l - (x.name.size : Int) - (x.key.size : Int) - (x.val.size : Int)) = l - (x.name.size : Int) - (x.key.size : Int) - (x.val.size : Int) := by rw [w64 (by omega) (by omega)]
  simp (maxSteps := 1000000) -implicitDefEqProofs only [push_cast, seval, w3]
  repeat' (first | with_reducible (first | exact Keep.refl _ _ | assumption | exact byte_lt _ _ | apply Keep.alloc | (refine Keep.set ?_ ?_; rotate_left; · omega) | apply Pre.alloc | apply Pre.set | exact Pre.refl _ | exact le_alloc _ | (refine Pre.keep ?_; assumption) | (refine Pre.n ?_; assumption)) | ((with_reducible (first | refine bcase_d (fun hb => ?_) (fun hb => ?_) | refine bcase_mk (fun hb => ?_) (fun hb => ?_))) <;> try simp (maxSteps := 1000000) -implicitDefEqProofs only [push_cast, seval, w3]) | with_reducible refine And.intro ?_ ?_ | omega | (simp only [alloc_n, set_n, kill_n]; omega) | (exfalso; omega))
  all_goals grind
def varW (l : List Var) (i : Nat) : Nat := ((l.take i).map fun x => x.name.size + x.val.size).sum
theorem varW_zero (l : List Var) : varW l 0 = 0 := by simp [varW]
theorem varW_succ {l : List Var} {i : Nat} (h : i < l.length) : varW l (i + 1) = varW l i + (l[i].name.size + l[i].val.size) := by
  simp only [varW, List.take_add_one, List.getElem?_eq_getElem h, Option.toList_some, List.map_append, List.map_cons, List.map_nil, List.sum_append, List.sum_cons, List.sum_nil]; omega
theorem varW_mono {l : List Var} : ∀ {i j : Nat}, i ≤ j → j ≤ l.length → varW l i ≤ varW l j
  | i, 0, h, _ => by have : i = 0 := by omega
                     subst this; exact Nat.le_refl _
  | i, j + 1, h, hj => by
    by_cases e : i = j + 1
    · subst e; exact Nat.le_refl _
    · have := varW_mono (l := l) (i := i) (j := j) (by omega) (by omega)
      rw [varW_succ (by omega)]; omega
def cellW (l : List Cell) (i : Nat) : Nat := ((l.take i).map fun x => x.name.size + x.key.size + x.val.size).sum
theorem cellW_zero (l : List Cell) : cellW l 0 = 0 := by simp [cellW]
theorem cellW_succ {l : List Cell} {i : Nat} (h : i < l.length) : cellW l (i + 1) = cellW l i + (l[i].name.size + l[i].key.size + l[i].val.size) := by
  simp only [cellW, List.take_add_one, List.getElem?_eq_getElem h, Option.toList_some, List.map_append, List.map_cons, List.map_nil, List.sum_append, List.sum_cons, List.sum_nil]; omega
theorem cellW_mono {l : List Cell} : ∀ {i j : Nat}, i ≤ j → j ≤ l.length → cellW l i ≤ cellW l j
  | i, 0, h, _ => by have : i = 0 := by omega
                     subst this; exact Nat.le_refl _
  | i, j + 1, h, hj => by
    by_cases e : i = j + 1
    · subst e; exact Nat.le_refl _
    · have := cellW_mono (l := l) (i := i) (j := j) (by omega) (by omega)
      rw [cellW_succ (by omega)]; omega
theorem szVarS_c (vs : List Var) (A : Option Addr) (ca : Nat) (l : Int) (h : AH) (hR : RdE h A 2 Var.enc vs) (hz : ∀ x ∈ vs, x.name.size ≤ maxLen ∧ x.val.size ≤ maxLen) (hn : vs.length ≤ maxLen) (hl : 0 ≤ l ∧ l ≤ 1048576) :
    CD Tryd.prog 39 [.slice A vs.length ca, .int .i64 l] h (.int .i64 (if l - vs.length - varW vs vs.length < 0 then -1 else l - vs.length - varW vs vs.length)) h := by
  refine CD.withBig (fun big => ?_)
  refine CD.quiet ?_ (low_int _ _ _)
  have hm := maxLen_eq
  have w1 : IntKind.i64.wrap (l - (vs.length : Int)) = l - (vs.length : Int) := by rw [w64 (by omega) (by omega)]
  refine CC.ofN Tryd.func39 Tryd.ntmps39 Tryd.results39 rfl (by decide) (by kernel_rfl) ?_
  simp (maxSteps := 1000000) -implicitDefEqProofs only [push_cast, seval, w1]
  with_reducible refine bcase_d (fun hb => ?_) (fun hb => ?_)
  · simp (maxSteps := 1000000) -implicitDefEqProofs only [push_cast, seval]
    repeat' (first | with_reducible (first | exact Keep.refl _ _ | assumption | exact byte_lt _ _ | apply Keep.alloc | (refine Keep.set ?_ ?_; rotate_left; · omega) | apply Pre.alloc | apply Pre.set | exact Pre.refl _ | exact le_alloc _ | (refine Pre.keep ?_; assumption) | (refine Pre.n ?_; assumption)) | ((with_reducible (first | refine bcase_d (fun hb => ?_) (fun hb => ?_) | refine bcase_mk (fun hb => ?_) (fun hb => ?_))) <;> try simp (maxSteps := 1000000) -implicitDefEqProofs only [push_cast, seval]) | with_reducible refine And.intro ?_ ?_ | omega | (simp only [alloc_n, set_n, kill_n]; omega) | (exfalso; omega))
    all_goals grind
  simp (maxSteps := 1000000) -implicitDefEqProofs only [push_cast, seval]
  refine WC.loopA (by kernel_rfl) [1, 5] [4, 12, 13, 14, 15, 16, 17, 18, 19, 20, 21, 22, 23, 24, 25] (fun a : Int × Nat => [.int .i64 a.1, .int .i64 (a.2 : Nat)]) (fun a h' => (a.1 = l - vs.length - varW vs a.2 ∧ 0 ≤ a.1 ∧ a.2 ≤ vs.length) ∧ Pre h h') (fun a => vs.length - a.2) (l - vs.length, 0) (by kernel_rfl) ⟨⟨by rw [varW_zero]; simp, by omega, Nat.zero_le _⟩, Pre.refl _⟩ ?_
  intro a g h1 hJ
  have ha := hJ.1.1
  have h0 := hJ.1.2.1
  have hi := hJ.1.2.2
  have hp := hJ.2
  clear hJ
  simp (maxSteps := 1000000) -implicitDefEqProofs only [push_cast, seval]
  with_reducible refine bcase_d (fun hb => ?_) (fun hb => ?_)
  · have hi' : a.2 < vs.length := by omega
    with_reducible refine hR.use big hp hi' (fun id off eA hlt hr => ?_)
    subst eA
    simp only [Var.enc] at hr
    have hzi := hz _ (List.getElem_mem hi')
    have hs := varW_succ hi'
    have hmo := varW_mono (l := vs) (i := a.2 + 1) (j := vs.length) (by omega) (Nat.le_refl _)
    simp (maxSteps := 1000000) -implicitDefEqProofs only [push_cast, seval, hr, hlt]
    repeat' (first | with_reducible (first | exact Keep.refl _ _ | assumption | exact byte_lt _ _ | apply Keep.alloc | (refine Keep.set ?_ ?_; rotate_left; · omega) | apply Pre.alloc | apply Pre.set | exact Pre.refl _ | exact le_alloc _ | (refine Pre.keep ?_; assumption) | (refine Pre.n ?_; assumption)) | ((with_reducible (first | refine CD.to (szVar_c _ _ ?_ ?_ _) ?_ | refine CQ.pure (fun _ => szVar_c _ _ ?_ ?_ _) ?_ | refine bcase_d (fun hb => ?_) (fun hb => ?_) | refine bcase_mk (fun hb => ?_) (fun hb => ?_))) <;> try simp (maxSteps := 1000000) -implicitDefEqProofs only [push_cast, seval, hr, hlt]) | with_reducible refine And.intro ?_ ?_ | omega | (simp only [alloc_n, set_n, kill_n]; omega) | (exfalso; omega))
    · grind
    · have hq : ¬ (a.1 - vs[a.2].name.size - vs[a.2].val.size < 0) := by intro e; rw [if_pos e] at hb; omega
      rw [if_neg hq, wrapSucc (by omega)]
      refine ⟨(a.1 - vs[a.2].name.size - vs[a.2].val.size, a.2 + 1), by kernel_rfl, ⟨⟨?_, ?_, ?_⟩, hp⟩, ?_⟩
      · show a.1 - vs[a.2].name.size - vs[a.2].val.size = l - vs.length - varW vs (a.2 + 1)
        omega
      · show 0 ≤ a.1 - vs[a.2].name.size - vs[a.2].val.size
        omega
      · show a.2 + 1 ≤ vs.length
        omega
      · show vs.length - (a.2 + 1) < vs.length - a.2
        omega
  · have hn : a.2 = vs.length := by omega
    simp (maxSteps := 1000000) -implicitDefEqProofs only [push_cast, seval]
    repeat' (first | with_reducible (first | exact Keep.refl _ _ | assumption | exact byte_lt _ _ | apply Keep.alloc | (refine Keep.set ?_ ?_; rotate_left; · omega) | apply Pre.alloc | apply Pre.set | exact Pre.refl _ | exact le_alloc _ | (refine Pre.keep ?_; assumption) | (refine Pre.n ?_; assumption)) | ((with_reducible (first | refine bcase_d (fun hb => ?_) (fun hb => ?_) | refine bcase_mk (fun hb => ?_) (fun hb => ?_))) <;> try simp (maxSteps := 1000000) -implicitDefEqProofs only [push_cast, seval]) | with_reducible refine And.intro ?_ ?_ | omega | (simp only [alloc_n, set_n, kill_n]; omega) | (exfalso; omega))
    grind
theorem szCellS_c (vs : List Cell) (A : Option Addr) (ca : Nat) (l : Int) (h : AH) (hR : RdE h A 3 Cell.enc vs) (hz : ∀ x ∈ vs, x.name.size ≤ maxLen ∧ x.key.size ≤ maxLen ∧ x.val.size ≤ maxLen) (hn : vs.length ≤ maxLen) (hl : 0 ≤ l ∧ l ≤ 1048576) :
    CD Tryd.prog 40 [.slice A vs.length ca, .int .i64 l] h (.int .i64 (if l - vs.length - cellW vs vs.length < 0 then -1 else l - vs.length - cellW vs vs.length)) h := by
  refine CD.withBig (fun big => ?_)
  refine CD.quiet ?_ (low_int _ _ _)
  have hm := maxLen_eq
  have w1 : IntKind.i64.wrap (l - (vs.length : Int)) = l - (vs.length : Int) := by rw [w64 (by omega) (by omega)]
  refine CC.ofN Tryd.func40 Tryd.ntmps40 Tryd.results40 rfl (by decide) (by kernel_rfl) ?_
  simp (maxSteps := 1000000) -implicitDefEqProofs only [push_cast, seval, w1]
  with_reducible refine bcase_d (fun hb => ?_) (fun hb => ?_)
  · simp (maxSteps := 1000000) -implicitDefEqProofs only [push_cast, seval]
    repeat' (first | with_reducible (first | exact Keep.refl _ _ | assumption | exact byte_lt _ _ | apply Keep.alloc | (refine Keep.set ?_ ?_; rotate_left; · omega) | apply Pre.alloc | apply Pre.set | exact Pre.refl _ | exact le_alloc _ | (refine Pre.keep ?_; assumption) | (refine Pre.n ?_; assumption)) | ((with_reducible (first | refine bcase_d (fun hb => ?_) (fun hb => ?_) | refine bcase_mk (fun hb => ?_) (fun hb => ?_))) <;> try simp (maxSteps := 1000000) -implicitDefEqProofs only [push_cast, seval]) | with_reducible refine And.intro ?_ ?_ | omega | (simp only [alloc_n, set_n, kill_n]; omega) | (exfalso; omega))
    all_goals grind
  simp (maxSteps := 1000000) -implicitDefEqProofs only [push_cast, seval]
  refine WC.loopA (by kernel_rfl) [1, 5] [4, 12, 13, 14, 15, 16, 17, 18, 19, 20, 21, 22, 23, 24, 25] (fun a : Int × Nat => [.int .i64 a.1, .int .i64 (a.2 : Nat)]) (fun a h' => (a.1 = l - vs.length - cellW vs a.2 ∧ 0 ≤ a.1 ∧ a.2 ≤ vs.length) ∧ Pre h h') (fun a => vs.length - a.2) (l - vs.length, 0) (by kernel_rfl) ⟨⟨by rw [cellW_zero]; simp, by omega, Nat.zero_le _⟩, Pre.refl _⟩ ?_
  intro a g h1 hJ
  have ha := hJ.1.1
  have h0 := hJ.1.2.1
  have hi := hJ.1.2.2
  have hp := hJ.2
  clear hJ
  simp (maxSteps := 1000000) -implicitDefEqProofs only [push_cast, seval]
  with_reducible refine bcase_d (fun hb => ?_) (fun hb => ?_)
  · have hi' : a.2 < vs.length := by omega
    with_reducible refine hR.use big hp hi' (fun id off eA hlt hr => ?_)
    subst eA
    simp only [Cell.enc] at hr
    have hzi := hz _ (List.getElem_mem hi')
    have hs := cellW_succ hi'
    have hmo := cellW_mono (l := vs) (i := a.2 + 1) (j := vs.length) (by omega) (Nat.le_refl _)
    simp (maxSteps := 1000000) -implicitDefEqProofs only [push_cast, seval, hr, hlt]
    repeat' (first | with_reducible (first | exact Keep.refl _ _ | assumption | exact byte_lt _ _ | apply Keep.alloc | (refine Keep.set ?_ ?_; rotate_left; · omega) | apply Pre.alloc | apply Pre.set | exact Pre.refl _ | exact le_alloc _ | (refine Pre.keep ?_; assumption) | (refine Pre.n ?_; assumption)) | ((with_reducible (first | refine CD.to (szCell_c _ _ ?_ ?_ _) ?_ | refine CQ.pure (fun _ => szCell_c _ _ ?_ ?_ _) ?_ | refine bcase_d (fun hb => ?_) (fun hb => ?_) | refine bcase_mk (fun hb => ?_) (fun hb => ?_))) <;> try simp (maxSteps := 1000000) -implicitDefEqProofs only [push_cast, seval, hr, hlt]) | with_reducible refine And.intro ?_ ?_ | omega | (simp only [alloc_n, set_n, kill_n]; omega) | (exfalso; omega))
    · grind
    · have hq : ¬ (a.1 - vs[a.2].name.size - vs[a.2].key.size - vs[a.2].val.size < 0) := by intro e; rw [if_pos e] at hb; omega
      rw [if_neg hq, wrapSucc (by omega)]
      refine ⟨(a.1 - vs[a.2].name.size - vs[a.2].key.size - vs[a.2].val.size, a.2 + 1), by kernel_rfl, ⟨⟨?_, ?_, ?_⟩, hp⟩, ?_⟩
      · show a.1 - vs[a.2].name.size - vs[a.2].key.size - vs[a.2].val.size = l - vs.length - cellW vs (a.2 + 1)
        omega
      · show 0 ≤ a.1 - vs[a.2].name.size - vs[a.2].key.size - vs[a.2].val.size
        omega
      · show a.2 + 1 ≤ vs.length
        omega
      · show vs.length - (a.2 + 1) < vs.length - a.2
        omega
  · have hn : a.2 = vs.length := by omega
    simp (maxSteps := 1000000) -implicitDefEqProofs only [push_cast, seval]
    repeat' (first | with_reducible (first | exact Keep.refl _ _ | assumption | exact byte_lt _ _ | apply Keep.alloc | (refine Keep.set ?_ ?_; rotate_left; · omega) | apply Pre.alloc | apply Pre.set | exact Pre.refl _ | exact le_alloc _ | (refine Pre.keep ?_; assumption) | (refine Pre.n ?_; assumption)) | ((with_reducible (first | refine bcase_d (fun hb => ?_) (fun hb => ?_) | refine bcase_mk (fun hb => ?_) (fun hb => ?_))) <;> try simp (maxSteps := 1000000) -implicitDefEqProofs only [push_cast, seval]) | with_reducible refine And.intro ?_ ?_ | omega | (simp only [alloc_n, set_n, kill_n]; omega) | (exfalso; omega))
    grind
def storeW (s : Store) : Nat := s.vars.length + varW s.vars s.vars.length + (s.cells.length + cellW s.cells s.cells.length) + s.out.size
structure SzA (s : Store) : Prop where
  vars : ∀ x ∈ s.vars, x.name.size ≤ maxLen ∧ x.val.size ≤ maxLen
  cells : ∀ x ∈ s.cells, x.name.size ≤ maxLen ∧ x.key.size ≤ maxLen ∧ x.val.size ≤ maxLen
  out : s.out.size ≤ maxLen
  nv : s.vars.length ≤ maxLen
  nc : s.cells.length ≤ maxLen
theorem SzA.sz {s : Store} (a : SzA s) (h : storeW s ≤ 1048576) : Sz s := ⟨a.vars, a.cells, a.out, by simp only [storeW] at h; omega, by simp only [storeW] at h; omega⟩
theorem szStore_c (s : Store) (A B : Option Addr) (ca cb : Nat) (l : Int) (h : AH) (hR : RdS h A B s) (hz : SzA s) (hl : 0 ≤ l ∧ l ≤ 1048576) :
    CD Tryd.prog 13 [.agg #[.slice A s.vars.length ca, .slice B s.cells.length cb, .string s.out], .int .i64 l] h (.int .i64 (if l - storeW s < 0 then -1 else l - storeW s)) h := by
  refine CD.withBig (fun big => ?_)
  refine CD.quiet ?_ (low_int _ _ _)
  have hm := maxLen_eq
  have ho := hz.out
  have pb : Pre h (h.alloc (AOb.cells [Value.slice A s.vars.length ca, Value.slice B s.cells.length cb, Value.string s.out] Stat.solo h.n)) := (Pre.refl _).alloc _
  have hV := szVarS_c s.vars A ca l _ (hR.vars.pre big pb) hz.vars hz.nv hl
  have hw : storeW s = s.vars.length + varW s.vars s.vars.length + (s.cells.length + cellW s.cells s.cells.length) + s.out.size := rfl
  have c1 : ∀ {a : Int}, (a < 0) = True → (if a < 0 then (-1 : Int) else a) = -1 := fun e => if_pos (of_eq_true e)
  refine CC.ofN Tryd.func13 Tryd.ntmps13 Tryd.results13 rfl (by decide) (by kernel_rfl) ?_
  simp (maxSteps := 1000000) -implicitDefEqProofs only [push_cast, seval]
  repeat' (first | with_reducible (first | exact Keep.refl _ _ | assumption | exact byte_lt _ _ | apply Keep.alloc | (refine Keep.set ?_ ?_; rotate_left; · omega) | apply Pre.alloc | apply Pre.set | exact Pre.refl _ | exact le_alloc _ | (refine Pre.keep ?_; assumption) | (refine Pre.n ?_; assumption)) | ((with_reducible (first | refine CD.to (hV) ?_ | refine CQ.pure (fun _ => hV) ?_ | refine bcase_d (fun hb => ?_) (fun hb => ?_) | refine bcase_mk (fun hb => ?_) (fun hb => ?_))) <;> try simp (maxSteps := 1000000) -implicitDefEqProofs only [push_cast, seval]) | with_reducible refine And.intro ?_ ?_ | omega | (simp only [alloc_n, set_n, kill_n]; omega) | (exfalso; omega))
  · grind
  have hq : ¬ (l - s.vars.length - varW s.vars s.vars.length < 0) := by intro e; rw [if_pos e] at hb; omega
  have hC := szCellS_c s.cells B cb (l - s.vars.length - varW s.vars s.vars.length) _ (hR.cells.pre big pb) hz.cells hz.nc (by omega)
  rw [if_neg hq]
  repeat' (first | with_reducible (first | exact Keep.refl _ _ | assumption | exact byte_lt _ _ | apply Keep.alloc | (refine Keep.set ?_ ?_; rotate_left; · omega) | apply Pre.alloc | apply Pre.set | exact Pre.refl _ | exact le_alloc _ | (refine Pre.keep ?_; assumption) | (refine Pre.n ?_; assumption)) | ((with_reducible (first | refine CD.to (hC) ?_ | refine CQ.pure (fun _ => hC) ?_ | refine bcase_d (fun hb => ?_) (fun hb => ?_) | refine bcase_mk (fun hb => ?_) (fun hb => ?_))) <;> try simp (maxSteps := 1000000) -implicitDefEqProofs only [push_cast, seval]) | with_reducible refine And.intro ?_ ?_ | omega | (simp only [alloc_n, set_n, kill_n]; omega) | (exfalso; omega))
  · grind
  all_goals
    by_cases e : l - s.vars.length - varW s.vars s.vars.length - s.cells.length - cellW s.cells s.cells.length < 0
    · rename_i hb1 hb2
      exact absurd (by rw [if_pos e]; decide) hb2
    · have w := w64 (n := l - s.vars.length - varW s.vars s.vars.length - s.cells.length - cellW s.cells s.cells.length - s.out.size) (by omega) (by omega)
      rename_i hb1 hb2
      rw [if_neg e, w] at hb
      try rw [if_neg e, w]
      grind
end Go.Proofs.YtcggnolnakgkeaaDoor
namespace Go.Proofs.YtcggnolnakgkeaaDoor
open Go Go.Sim Go.Proofs
set_option linter.unusedSimpArgs false
set_option linter.unusedVariables false
set_option maxRecDepth 100000
set_option maxHeartbeats 1000000
theorem toVar_c (x : Var) (h : AH) : CD Tryd.prog 70 [.agg #[.string x.name, .string x.val]] h (.agg #[.string x.name, .string x.val]) h := by
  refine CD.quiet ?_ (low_agg (by simp [low_string]))
  refine CC.ofN Tryd.func70 Tryd.ntmps70 Tryd.results70 rfl (by decide) (by kernel_rfl) ?_
  simp (maxSteps := 1000000) -implicitDefEqProofs only [push_cast, seval]
  repeat' (first | with_reducible (first | exact Keep.refl _ _ | assumption | exact byte_lt _ _ | apply Keep.alloc | (refine Keep.set ?_ ?_; rotate_left; · omega) | apply Pre.alloc | apply Pre.set | exact Pre.refl _ | exact le_alloc _ | (refine Pre.keep ?_; assumption) | (refine Pre.n ?_; assumption)) | ((with_reducible (first | refine bcase_d (fun hb => ?_) (fun hb => ?_) | refine bcase_mk (fun hb => ?_) (fun hb => ?_))) <;> try simp (maxSteps := 1000000) -implicitDefEqProofs only [push_cast, seval]) | with_reducible refine And.intro ?_ ?_ | omega | (simp only [alloc_n, set_n, kill_n]; omega) | (exfalso; omega))
theorem toCell_c (x : Cell) (h : AH) : CD Tryd.prog 71 [.agg #[.string x.name, .string x.key, .string x.val]] h (.agg #[.string x.name, .string x.key, .string x.val]) h := by
  refine CD.quiet ?_ (low_agg (by simp [low_string]))
  refine CC.ofN Tryd.func71 Tryd.ntmps71 Tryd.results71 rfl (by decide) (by kernel_rfl) ?_
  simp (maxSteps := 1000000) -implicitDefEqProofs only [push_cast, seval]
  repeat' (first | with_reducible (first | exact Keep.refl _ _ | assumption | exact byte_lt _ _ | apply Keep.alloc | (refine Keep.set ?_ ?_; rotate_left; · omega) | apply Pre.alloc | apply Pre.set | exact Pre.refl _ | exact le_alloc _ | (refine Pre.keep ?_; assumption) | (refine Pre.n ?_; assumption)) | ((with_reducible (first | refine bcase_d (fun hb => ?_) (fun hb => ?_) | refine bcase_mk (fun hb => ?_) (fun hb => ?_))) <;> try simp (maxSteps := 1000000) -implicitDefEqProofs only [push_cast, seval]) | with_reducible refine And.intro ?_ ?_ | omega | (simp only [alloc_n, set_n, kill_n]; omega) | (exfalso; omega))
/-- A new slice's cells, of which the first are filled. -/
def Filled {α : Type} (k : Nat) (enc : α → List Value) (l : List α) (cs : List Value) (i : Nat) : Prop := cs.length = l.length * k ∧ ∀ j (hj : j < l.length), j < i → (cs.drop (j * k)).take k = enc l[j]
theorem Filled.put {α : Type} {k : Nat} {enc : α → List Value} {l : List α} {cs : List Value} {i : Nat} (w : Filled k enc l cs i) (hi : i < l.length) (hk : (enc l[i]).length = k) : Filled k enc l (putL cs (i * k) (enc l[i])) (i + 1) := by
  refine ⟨by rw [putL_length, w.1], fun j hj hji => ?_⟩
  have hb : i * k + k ≤ cs.length := by rw [w.1, ← Nat.succ_mul]; exact Nat.mul_le_mul_right k hi
  by_cases e : j = i
  · subst e
    apply List.ext_getElem?
    intro m
    rw [List.getElem?_take]
    by_cases hm : m < k
    · rw [if_pos hm, List.getElem?_drop, putL_in _ _ _ m (by omega) (by omega), List.getElem?_eq_getElem]
    · rw [if_neg hm, List.getElem?_eq_none (by omega)]
  · have hji' : j < i := by omega
    rw [← w.2 j hj hji']
    have hq : j * k + k ≤ i * k := by rw [← Nat.succ_mul]; exact Nat.mul_le_mul_right k hji'
    apply List.ext_getElem?
    intro m
    rw [List.getElem?_take, List.getElem?_take]
    by_cases hm : m < k
    · rw [if_pos hm, if_pos hm, List.getElem?_drop, List.getElem?_drop, putL_out _ _ _ _ (.inl (by omega))]
    · rw [if_neg hm, if_neg hm]
theorem Filled.zero {α : Type} {k : Nat} {enc : α → List Value} {l : List α} (z : List Value) : Filled k enc l (zerosL (l.length * k) z) 0 := ⟨zerosL_length _ _, fun j _ h => absurd h (Nat.not_lt_zero j)⟩
theorem Filled.readAt {α : Type} {k : Nat} {enc : α → List Value} {l : List α} {cs : List Value} (w : Filled k enc l cs l.length) {h : AH} {i : Nat} {st : Sim.Stat} {ln : Nat} (e : h.ob i = .cells cs st ln) : RdE h (some ⟨i, 0, none⟩) k enc l := fun j hj => by
  refine ⟨i, 0, rfl, ?_⟩
  rw [rd_of e, rdO_cells, Nat.zero_add, w.2 j hj hj]
  have : j * k + k ≤ cs.length := by rw [w.1, ← Nat.succ_mul]; exact Nat.mul_le_mul_right k hj
  simp [this]
theorem Filled.read {α : Type} {k : Nat} {enc : α → List Value} {l : List α} {cs : List Value} (w : Filled k enc l cs l.length) (h : AH) : RdE (h.alloc (.cells cs .solo h.n)) (some ⟨h.n, 0, none⟩) k enc l := fun i hi => by
  refine ⟨h.n, 0, rfl, ?_⟩
  rw [rd_alloc_same, rdO_cells, Nat.zero_add, w.2 i hi hi]
  have : i * k + k ≤ cs.length := by rw [w.1, ← Nat.succ_mul]; exact Nat.mul_le_mul_right k hi
  simp [this]
theorem alloc_set {h : AH} (o o' : AOb) : (h.alloc o).set h.n o' = h.alloc o' := by
  unfold AH.set AH.alloc
  simp only
  congr 1
  funext j
  split <;> rfl
theorem toVarS_c (vs : List Var) (A : Option Addr) (ca : Nat) (h : AH) (hR : RdE h A 2 Var.enc vs) (hn : vs.length < 274877906944) :
    CC Tryd.prog 41 [.slice A vs.length ca] h (fun v h' => ∃ cs, v = .slice (some ⟨h.n, 0, none⟩) vs.length 2 ∧ h' = h.alloc (.cells cs .solo h.n) ∧ Filled 2 Var.enc vs cs vs.length) := by
  refine CC.withBig (fun big => ?_)
  refine CC.ofN Tryd.func41 Tryd.ntmps41 Tryd.results41 rfl (by decide) (by kernel_rfl) ?_
  simp (maxSteps := 1000000) -implicitDefEqProofs only [push_cast, seval]
  repeat (with_reducible refine And.intro ?_ ?_; · (first | omega | decide))
  refine WC.loopA (by kernel_rfl) [4] [8, 9, 10, 11, 12, 13, 14, 15, 16, 17, 18, 19, 20, 21] (fun a : Nat × List Value => [.int .i64 (a.1 : Nat)]) (fun a h' => h' = h.alloc (.cells a.2 .solo h.n) ∧ a.1 ≤ vs.length ∧ Filled 2 Var.enc vs a.2 a.1) (fun a => vs.length - a.1) (0, zerosL (vs.length * 2) [.string ⟨#[]⟩, .string ⟨#[]⟩]) (by kernel_rfl) ⟨rfl, Nat.zero_le _, Filled.zero _⟩ ?_
  intro a g h1 hJ
  have hh := hJ.1
  have hi := hJ.2.1
  have hf := hJ.2.2
  clear hJ
  subst hh
  have pb : Pre h (h.alloc (.cells a.2 .solo h.n)) := (Pre.refl _).alloc _
  simp (maxSteps := 1000000) -implicitDefEqProofs only [push_cast, seval]
  with_reducible refine bcase_d (fun hb => ?_) (fun hb => ?_)
  · have hi' : a.1 < vs.length := by omega
    with_reducible refine hR.use big pb hi' (fun id off eA hlt hr => ?_)
    subst eA
    simp only [Var.enc] at hr
    have hc := hf.1
    have hf' := hf.put hi' rfl
    simp only [Var.enc] at hf'
    simp (maxSteps := 1000000) -implicitDefEqProofs only [push_cast, seval, hr, hlt]
    repeat' (first | with_reducible (first | exact Keep.refl _ _ | assumption | exact byte_lt _ _ | apply Keep.alloc | (refine Keep.set ?_ ?_; rotate_left; · omega) | apply Pre.alloc | apply Pre.set | exact Pre.refl _ | exact le_alloc _ | (refine Pre.keep ?_; assumption) | (refine Pre.n ?_; assumption)) | ((with_reducible (first | refine CD.to (toVar_c _ _) ?_ | refine CQ.pure (fun _ => toVar_c _ _) ?_ | refine bcase_d (fun hb => ?_) (fun hb => ?_) | refine bcase_mk (fun hb => ?_) (fun hb => ?_))) <;> try simp (maxSteps := 1000000) -implicitDefEqProofs only [push_cast, seval, hr, hlt]) | with_reducible refine And.intro ?_ ?_ | omega | (simp only [alloc_n, set_n, kill_n]; omega) | (exfalso; omega))
    rw [wrapSucc (by omega)]
    refine ⟨(a.1 + 1, putL a.2 (a.1 * 2) [.string vs[a.1].name, .string vs[a.1].val]), by kernel_rfl, ⟨?_, ?_, hf'⟩, ?_⟩
    · simp only [putL, alloc_set]
    · show a.1 + 1 ≤ vs.length
      omega
    · show vs.length - (a.1 + 1) < vs.length - a.1
      omega
  · have hn : a.1 = vs.length := by omega
    rw [hn] at hf
    simp (maxSteps := 1000000) -implicitDefEqProofs only [push_cast, seval]
    repeat' (first | with_reducible (first | exact Keep.refl _ _ | assumption | exact byte_lt _ _ | apply Keep.alloc | (refine Keep.set ?_ ?_; rotate_left; · omega) | apply Pre.alloc | apply Pre.set | exact Pre.refl _ | exact le_alloc _ | (refine Pre.keep ?_; assumption) | (refine Pre.n ?_; assumption)) | ((with_reducible (first | refine bcase_d (fun hb => ?_) (fun hb => ?_) | refine bcase_mk (fun hb => ?_) (fun hb => ?_))) <;> try simp (maxSteps := 1000000) -implicitDefEqProofs only [push_cast, seval]) | with_reducible refine And.intro ?_ ?_ | omega | (simp only [alloc_n, set_n, kill_n]; omega) | (exfalso; omega))
    exact ⟨_, rfl, hf⟩
theorem toCellS_c (vs : List Cell) (A : Option Addr) (ca : Nat) (h : AH) (hR : RdE h A 3 Cell.enc vs) (hn : vs.length < 274877906944) :
    CC Tryd.prog 42 [.slice A vs.length ca] h (fun v h' => ∃ cs, v = .slice (some ⟨h.n, 0, none⟩) vs.length 3 ∧ h' = h.alloc (.cells cs .solo h.n) ∧ Filled 3 Cell.enc vs cs vs.length) := by
  refine CC.withBig (fun big => ?_)
  refine CC.ofN Tryd.func42 Tryd.ntmps42 Tryd.results42 rfl (by decide) (by kernel_rfl) ?_
  simp (maxSteps := 1000000) -implicitDefEqProofs only [push_cast, seval]
  repeat (with_reducible refine And.intro ?_ ?_; · (first | omega | decide))
  refine WC.loopA (by kernel_rfl) [4] [8, 9, 10, 11, 12, 13, 14, 15, 16, 17, 18, 19, 20, 21] (fun a : Nat × List Value => [.int .i64 (a.1 : Nat)]) (fun a h' => h' = h.alloc (.cells a.2 .solo h.n) ∧ a.1 ≤ vs.length ∧ Filled 3 Cell.enc vs a.2 a.1) (fun a => vs.length - a.1) (0, zerosL (vs.length * 3) [.string ⟨#[]⟩, .string ⟨#[]⟩, .string ⟨#[]⟩]) (by kernel_rfl) ⟨rfl, Nat.zero_le _, Filled.zero _⟩ ?_
  intro a g h1 hJ
  have hh := hJ.1
  have hi := hJ.2.1
  have hf := hJ.2.2
  clear hJ
  subst hh
  have pb : Pre h (h.alloc (.cells a.2 .solo h.n)) := (Pre.refl _).alloc _
  simp (maxSteps := 1000000) -implicitDefEqProofs only [push_cast, seval]
  with_reducible refine bcase_d (fun hb => ?_) (fun hb => ?_)
  · have hi' : a.1 < vs.length := by omega
    with_reducible refine hR.use big pb hi' (fun id off eA hlt hr => ?_)
    subst eA
    simp only [Cell.enc] at hr
    have hc := hf.1
    have hf' := hf.put hi' rfl
    simp only [Cell.enc] at hf'
    simp (maxSteps := 1000000) -implicitDefEqProofs only [push_cast, seval, hr, hlt]
    repeat' (first | with_reducible (first | exact Keep.refl _ _ | assumption | exact byte_lt _ _ | apply Keep.alloc | (refine Keep.set ?_ ?_; rotate_left; · omega) | apply Pre.alloc | apply Pre.set | exact Pre.refl _ | exact le_alloc _ | (refine Pre.keep ?_; assumption) | (refine Pre.n ?_; assumption)) | ((with_reducible (first | refine CD.to (toCell_c _ _) ?_ | refine CQ.pure (fun _ => toCell_c _ _) ?_ | refine bcase_d (fun hb => ?_) (fun hb => ?_) | refine bcase_mk (fun hb => ?_) (fun hb => ?_))) <;> try simp (maxSteps := 1000000) -implicitDefEqProofs only [push_cast, seval, hr, hlt]) | with_reducible refine And.intro ?_ ?_ | omega | (simp only [alloc_n, set_n, kill_n]; omega) | (exfalso; omega))
    rw [wrapSucc (by omega)]
    refine ⟨(a.1 + 1, putL a.2 (a.1 * 3) [.string vs[a.1].name, .string vs[a.1].key, .string vs[a.1].val]), by kernel_rfl, ⟨?_, ?_, hf'⟩, ?_⟩
    · simp only [putL, alloc_set]
    · show a.1 + 1 ≤ vs.length
      omega
    · show vs.length - (a.1 + 1) < vs.length - a.1
      omega
  · have hn : a.1 = vs.length := by omega
    rw [hn] at hf
    simp (maxSteps := 1000000) -implicitDefEqProofs only [push_cast, seval]
    repeat' (first | with_reducible (first | exact Keep.refl _ _ | assumption | exact byte_lt _ _ | apply Keep.alloc | (refine Keep.set ?_ ?_; rotate_left; · omega) | apply Pre.alloc | apply Pre.set | exact Pre.refl _ | exact le_alloc _ | (refine Pre.keep ?_; assumption) | (refine Pre.n ?_; assumption)) | ((with_reducible (first | refine bcase_d (fun hb => ?_) (fun hb => ?_) | refine bcase_mk (fun hb => ?_) (fun hb => ?_))) <;> try simp (maxSteps := 1000000) -implicitDefEqProofs only [push_cast, seval]) | with_reducible refine And.intro ?_ ?_ | omega | (simp only [alloc_n, set_n, kill_n]; omega) | (exfalso; omega))
    exact ⟨_, rfl, hf⟩
theorem toStore_c (s : Store) (A B : Option Addr) (ca cb : Nat) (h : AH) (hR : RdS h A B s) (hz : Sz s) :
    CC Tryd.prog 14 [.agg #[.slice A s.vars.length ca, .slice B s.cells.length cb, .string s.out]] h (fun v h' => ∃ A' B', v = .agg #[.slice A' s.vars.length 2, .slice B' s.cells.length 3, .string s.out] ∧ (∀ h2, Pre h' h2 → RdS h2 A' B' s) ∧ Pre h h') := by
  refine CC.withBig (fun big => ?_)
  have hA := hR.vars
  have hB := hR.cells
  have hnv := hz.nv
  have hnc := hz.nc
  refine CC.ofN Tryd.func14 Tryd.ntmps14 Tryd.results14 rfl (by decide) (by kernel_rfl) ?_
  simp (maxSteps := 1000000) -implicitDefEqProofs only [push_cast, seval]
  have p1 : Pre h (((h.alloc (AOb.cells [Value.slice A s.vars.length ca, Value.slice B s.cells.length cb, Value.string s.out] Stat.solo h.n)).alloc (AOb.cells [Value.slice none 0 0, Value.slice none 0 0, Value.string ⟨#[]⟩] Stat.solo (h.n + 1))).alloc (AOb.cells [Value.slice none 0 0, Value.slice none 0 0, Value.string ⟨#[]⟩] Stat.solo (h.n + 2))) := (((Pre.refl _).alloc _).alloc _).alloc _
  with_reducible refine CC.mono (toVarS_c s.vars A ca _ (hA.pre big p1) hnv) (fun v h1 hv => ?_)
  with_reducible refine Exists.elim hv (fun cs hv => ?_)
  have e1 := hv.1
  have e2 := hv.2.1
  have f1 := hv.2.2
  clear hv
  subst e1 e2
  simp (maxSteps := 1000000) -implicitDefEqProofs only [push_cast, seval]
  have p2 : Pre h (((((h.alloc (AOb.cells [Value.slice A s.vars.length ca, Value.slice B s.cells.length cb, Value.string s.out] Stat.solo h.n)).alloc (AOb.cells [Value.slice none 0 0, Value.slice none 0 0, Value.string ⟨#[]⟩] Stat.solo (h.n + 1))).alloc (AOb.cells [Value.slice none 0 0, Value.slice none 0 0, Value.string ⟨#[]⟩] Stat.solo (h.n + 2))).alloc (AOb.cells cs Stat.solo (h.n + 3))).set (h.n + 2) (AOb.cells [Value.slice (some ⟨h.n + 3, 0, none⟩) s.vars.length 2, Value.slice none 0 0, Value.string ⟨#[]⟩] Stat.solo (h.n + 2))) := (p1.alloc _).set (by omega) _
  with_reducible refine CC.mono (toCellS_c s.cells B cb _ (hB.pre big p2) hnc) (fun v h1 hv => ?_)
  with_reducible refine Exists.elim hv (fun cs2 hv => ?_)
  have e1 := hv.1
  have e2 := hv.2.1
  have f2 := hv.2.2
  clear hv
  subst e1 e2
  simp (maxSteps := 1000000) -implicitDefEqProofs only [push_cast, seval]
  refine ⟨_, _, rfl, fun h2 q2 => ⟨f1.readAt (st := Sim.Stat.solo) (ln := h.n + 3) ((q2.ob _ ?_).trans ?_), f2.readAt (st := Sim.Stat.solo) (ln := h.n + 4) ((q2.ob _ ?_).trans ?_)⟩, ?_⟩
  · show h.n + 3 < h.n + 5
    omega
  · simp [AH.set, AH.alloc]
  · show h.n + 4 < h.n + 5
    omega
  · simp [AH.set, AH.alloc]
  · refine Pre.set (Pre.set (p2.alloc _) ?_ _) ?_ _ <;> omega
end Go.Proofs.YtcggnolnakgkeaaDoor
