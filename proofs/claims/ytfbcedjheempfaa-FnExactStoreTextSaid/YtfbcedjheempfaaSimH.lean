/- From what a row hands in to an abstract heap: objects that are read alone. Conditions: those that each theorem names. -/
import Derived.Test.YtfbcedjheempfaaSimG
import Derived.Deep.Slices
import Derived.ProofKit
import Derived.HandedShaped
set_option linter.unusedVariables false
set_option linter.unusedSimpArgs false
namespace Go.Sim
open Go.ChangeShapes Go.WideShapes Go.RowKit Go.Deep
variable {P : Program} {FB : Nat → Prop} {w0 : World} {μ : Nat → Option Loc} {h : AH} {w : World}

/-- A new object that is read alone: it lies below. -/
theorem Sim.addRo (s : Sim P FB w0 μ h w) (cs : List Value) (l : Loc) (hF : FB l.b) (hc : ∀ j (_ : j < cs.length), ∃ cv, w.cell? ⟨l.b, l.o + j, none⟩ = some cv ∧ VR μ cs[j] cv) (h1 : ∀ v ∈ cs, one v = true) :
    Post P FB w0 μ h (upd μ h.n l) (h.alloc (.cells cs .ro h.n)) w := by
  have hob : ∀ i, i ≠ h.n → (h.alloc (.cells cs .ro h.n)).ob i = h.ob i := fun i hi => by simp [AH.alloc, hi]
  have hnew : (h.alloc (.cells cs .ro h.n)).ob h.n = .cells cs .ro h.n := by simp [AH.alloc]
  have hx : Ext μ (upd μ h.n l) := fun i l' hm => by
    rw [upd_ne _ (by have := s.dom i l' hm; omega)]; exact hm
  have hown : ∀ i n, ((h.alloc (.cells cs .ro h.n)).ob i).own = some n → i ≠ h.n := fun i n ho e => by subst e; rw [hnew] at ho; simp [AOb.own] at ho
  have hnro : ∀ i c st n, (h.alloc (.cells cs .ro h.n)).ob i = .cells c st n → st ≠ .ro → i ≠ h.n := fun i c st n ho hs e => by
    subst e; rw [hnew] at ho; simp only [AOb.cells.injEq] at ho; exact hs ho.2.1.symm
  have hmp : ∀ i es, (h.alloc (.cells cs .ro h.n)).ob i = .map es → i ≠ h.n := fun i es ho e => by subst e; rw [hnew] at ho; cases ho
  have hup : ∀ i l', i ≠ h.n → upd μ h.n l i = some l' → μ i = some l' := fun i l' hne hm => by rwa [upd_ne _ hne] at hm
  refine ⟨?_, hx, ⟨by simp [AH.alloc], fun i hi hm => ⟨by rw [upd_ne _ (by omega)]; exact hm, hob i (by omega)⟩⟩⟩
  constructor
  case os => exact s.os
  case tape => exact s.tape
  case out => exact s.out
  case frame => exact s.frame
  case dom =>
    intro i l' hm
    by_cases e : i = h.n
    · subst e; simp [AH.alloc]
    · have := s.dom i l' (hup i l' e hm); simp [AH.alloc]; omega
  case big => intro i hi; simp [AH.alloc] at hi; rw [hob i (by omega)]; exact s.big i (by omega)
  case glob => intro g hg; obtain ⟨l', h1, h2⟩ := s.glob g hg; exact ⟨l', hx g l' h1, h2⟩
  case cell =>
    intro i l' c st ln hm ho j hj
    by_cases e : i = h.n
    · subst e; rw [hnew] at ho
      simp only [AOb.cells.injEq] at ho
      obtain ⟨rfl, _, _⟩ := ho
      rw [upd_same] at hm
      obtain rfl := Option.some.inj hm
      obtain ⟨cv, q1, q2⟩ := hc j hj
      exact ⟨cv, q1, q2.ext hx⟩
    · rw [hob i e] at ho
      obtain ⟨cv, q1, q2⟩ := s.cell i l' c st ln (hup i l' e hm) ho j hj
      exact ⟨cv, q1, q2.ext hx⟩
  case blk =>
    intro i l' c st ln hm ho hs
    have e := hnro i c st ln ho hs
    rw [hob i e] at ho; exact s.blk i l' c st ln (hup i l' e hm) ho hs
  case rob =>
    intro i l' c n hm ho
    by_cases e : i = h.n
    · subst e; rw [upd_same] at hm; obtain rfl := Option.some.inj hm; exact hF
    · rw [hob i e] at ho; exact s.rob i l' c n (hup i l' e hm) ho
  case onec =>
    intro i c st' n ho
    by_cases e1 : i = h.n
    · subst e1; rw [hnew] at ho
      simp only [AOb.cells.injEq] at ho
      obtain ⟨rfl, _, _⟩ := ho
      exact h1
    · rw [hob i e1] at ho; exact s.onec i c st' n ho
  case sep =>
    intro i j li lj ni nj hi hj oi oj hb
    have e1 := hown i _ oi
    have e2 := hown j _ oj
    rw [hob i e1] at oi; rw [hob j e2] at oj
    exact s.sep i j li lj ni nj (hup _ _ e1 hi) (hup _ _ e2 hj) oi oj hb
  case tip =>
    intro i j li lj ci cj sj ni nj hi hj oi oj hs hb
    have e1 := hnro i _ _ _ oi (by simp)
    have e2 := hnro j _ _ _ oj hs
    rw [hob i e1] at oi; rw [hob j e2] at oj
    exact s.tip i j li lj ci cj sj ni nj (hup _ _ e1 hi) (hup _ _ e2 hj) oi oj hs hb
  case tipu =>
    intro i j ci cj n oi oj
    have e1 := hnro i _ _ _ oi (by simp)
    have e2 := hnro j _ _ _ oj (by simp)
    rw [hob i e1] at oi; rw [hob j e2] at oj
    exact s.tipu i j ci cj n oi oj
  case solo =>
    intro i c n oi
    have e1 := hnro i _ _ _ oi (by simp)
    rw [hob i e1] at oi
    obtain ⟨rfl, hu⟩ := s.solo i c n oi
    refine ⟨rfl, fun j hj => ?_⟩
    have e2 := hown j _ hj
    rw [hob j e2] at hj; exact hu j hj
  case lin =>
    intro i n oi
    have e1 := hown i _ oi
    rw [hob i e1] at oi; exact s.lin i n oi
  case linc =>
    intro i j n oi oj hm
    have e1 := hown i _ oi
    have e2 := hown j _ oj
    rw [hob i e1] at oi; rw [hob j e2] at oj
    rw [upd_ne _ e1] at hm
    rw [upd_ne _ e2]
    exact s.linc i j n oi oj hm
  case mp =>
    intro i l' es hm ho
    have e1 := hmp i _ ho
    rw [hob i e1] at ho
    obtain ⟨a, ents, clock, b, c⟩ := s.mp i l' es (hup _ _ e1 hm) ho
    exact ⟨a, ents, clock, b, c.ext hx⟩
  case mpu =>
    intro i j li lj es es' hi hj oi oj hb
    have e1 := hmp i _ oi
    have e2 := hmp j _ oj
    rw [hob i e1] at oi; rw [hob j e2] at oj
    exact s.mpu i j li lj es es' (hup _ _ e1 hi) (hup _ _ e2 hj) oi oj hb

/-- The heap that a function is called in: each block where it lies, nothing told of it. -/
def mu0 (w : World) (i : Nat) : Option Loc := if i < w.heap.size then some ⟨i, 0, 0⟩ else none
theorem Sim.base (w : World) (hg : P.globals.size ≤ w.heap.size) : Sim P (fun b => b < w.heap.size) w (mu0 w) ⟨w.heap.size, fun _ => .none⟩ w := by
  constructor <;> first | rfl | skip
  case frame => exact fun b hb => ⟨hb, rfl⟩
  case dom => intro i l hm; unfold mu0 at hm; split at hm <;> simp_all
  case big => intro i _; rfl
  case glob => intro g hg'; exact ⟨⟨g, 0, 0⟩, by unfold mu0; rw [if_pos (by omega)], rfl, rfl⟩
  all_goals (intros; simp_all [AOb.own])

/-- Fields one behind the other, up to so many cells. -/
def contig (P : Program) : List Field → Nat → Nat → Bool
  | [], o, tot => o == tot
  | f :: r, o, tot => f.offset == o && contig P r (o + P.cellsOf f.type) tot
/-- A type of bools, whole numbers, strings, slices and structs alone. -/
def flat (P : Program) : Nat → TypeId → Bool
  | 0, _ => false
  | n + 1, t =>
    match P.underlying t with
    | some .bool | some (.int _) | some .string => true
    | some (.slice e) => decide (0 < P.cellsOf e) && flat P n e
    | some (.struct fs) => contig P fs.toList 0 (P.cellsOf t) && fs.toList.all fun f => flat P n f.type
    | _ => false

/-- What such a value is, in an abstract heap. -/
inductive Rep (P : Program) (h : AH) : TypeId → List Value → Prop
  | bool (t : TypeId) (b : Bool) (ht : P.underlying t = some .bool) : Rep P h t [.bool b]
  | int (t : TypeId) (k : IntKind) (n : Int) (ht : P.underlying t = some (.int k)) (hw : (Lit.int k n).wf = true) : Rep P h t [.int k n]
  | str (t : TypeId) (s : ByteArray) (ht : P.underlying t = some .string) (hs : s.size ≤ maxLen) : Rep P h t [.string s]
  | nil (t e : TypeId) (c : Nat) (ht : P.underlying t = some (.slice e)) : Rep P h t [.slice none 0 c]
  | slice (t e : TypeId) (id n ln : Nat) (chs : List (List Value)) (ht : P.underlying t = some (.slice e)) (hid : id < h.n) (ho : h.ob id = .cells chs.flatten .ro ln) (hn : chs.length = n) (hm : n ≤ maxLen)
      (hl : ∀ i (a : i < chs.length), (chs[i]).length = P.cellsOf e) (hr : ∀ i (a : i < chs.length), Rep P h e chs[i]) : Rep P h t [.slice (some ⟨id, 0, none⟩) n (P.cellsOf e)]
  | struct (t : TypeId) (fs : Array Field) (cks : List (List Value)) (ht : P.underlying t = some (.struct fs)) (hn : cks.length = fs.toList.length)
      (hr : ∀ i (a : i < fs.toList.length) (b : i < cks.length), Rep P h (fs.toList[i]).type cks[i]) : Rep P h t cks.flatten

theorem Rep.pre {h' : AH} (p : Pre h h') {t : TypeId} {cs : List Value} (r : Rep P h t cs) : Rep P h' t cs := by
  induction r with
  | bool t b ht => exact .bool t b ht
  | int t k n ht hw => exact .int t k n ht hw
  | str t s ht hs => exact .str t s ht hs
  | nil t e c ht => exact .nil t e c ht
  | slice t e id n ln chs ht hid ho hn hm hl hr ih => exact .slice t e id n ln chs ht (Nat.lt_of_lt_of_le hid p.n) (by rw [p.ob id hid]; exact ho) hn hm hl ih
  | struct t fs cks ht hn hr ih => exact .struct t fs cks ht hn ih
theorem Rep.one {t : TypeId} {cs : List Value} (r : Rep P h t cs) : ∀ v ∈ cs, Sim.one v = true := by
  induction r with
  | bool | int | str | nil | slice => intro v hv; simp at hv; subst hv; rfl
  | struct t fs cks ht hn hr ih =>
    intro v hv
    obtain ⟨l, hl, hv⟩ := List.mem_flatten.1 hv
    obtain ⟨i, hi, rfl⟩ := List.mem_iff_getElem.1 hl
    exact ih i (by omega) hi v hv

/-- Cells that lie from a place on. -/
def At (μ : Nat → Option Loc) (w : World) (b o : Nat) (cs : List Value) : Prop := ∀ j (_ : j < cs.length), ∃ cv, w.cell? ⟨b, o + j, none⟩ = some cv ∧ VR μ cs[j] cv
theorem At.append {b o : Nat} {xs ys : List Value} (hx : At μ w b o xs) (hy : At μ w b (o + xs.length) ys) : At μ w b o (xs ++ ys) := by
  intro j hj
  by_cases e : j < xs.length
  · rw [List.getElem_append_left e]; exact hx j e
  · rw [List.getElem_append_right (by omega)]
    obtain ⟨cv, q1, q2⟩ := hy (j - xs.length) (by simp at hj; omega)
    exact ⟨cv, by rw [← q1]; congr 2; omega, q2⟩
theorem At.flatten {b k : Nat} : ∀ {chs : List (List Value)} {o : Nat}, (∀ c ∈ chs, c.length = k) → (∀ i (a : i < chs.length), At μ w b (o + i * k) chs[i]) → At μ w b o chs.flatten
  | [], o, _, _ => fun j hj => by simp at hj
  | c :: r, o, hk, ha => by
    rw [List.flatten_cons]
    have h0 := ha 0 (by simp)
    rw [Nat.zero_mul, Nat.add_zero] at h0
    refine At.append h0 (At.flatten (fun c hc => hk c (by simp [hc])) (fun i a => ?_))
    have := ha (i + 1) (by simpa using a)
    rw [hk c (by simp), show o + k + i * k = o + (i + 1) * k by rw [Nat.add_mul]; omega]
    simpa using this

section
variable {H : Type} {enc : TypeId × Value → H} {held : Bool}

theorem contig_flatten {tot : Nat} {cs : List Value} (hl : cs.length = tot) : ∀ {fs : List Field} {o : Nat}, contig P fs o tot = true → (fs.map fun f => (cs.drop f.offset).take (P.cellsOf f.type)).flatten = cs.drop o
  | [], o, hc => by
    simp only [contig, beq_iff_eq] at hc
    rw [List.map_nil, List.flatten_nil, List.drop_of_length_le (by omega)]
  | f :: r, o, hc => by
    simp only [contig, Bool.and_eq_true, beq_iff_eq] at hc
    rw [List.map_cons, List.flatten_cons, contig_flatten hl hc.2, hc.1]
    rw [← List.drop_drop, List.take_append_drop]
theorem LR.flatten : ∀ {a b : List (List Value)}, a.length = b.length → (∀ i (x : i < a.length) (y : i < b.length), LR μ a[i] b[i]) → LR μ a.flatten b.flatten
  | [], [], _, _ => LR.nil μ
  | x :: a, y :: b, hl, hr => by
    rw [List.flatten_cons, List.flatten_cons]
    exact (hr 0 (by simp) (by simp)).append (LR.flatten (by simpa using hl) (fun i p q => hr (i + 1) (by simpa using p) (by simpa using q)))

/-- What one value is, where it was read. -/
def OneRep (P : Program) (enc : TypeId × Value → H) (held : Bool) (FB : Nat → Prop) (w0 w : World) (fl : Nat) : Prop :=
  ∀ (fuel : Nat) (t : TypeId) (cs : List Value) (x : DataW H × List MemPlace), flat P fl t = true → DataW.trod enc P w 0 (fun _ => true) held fuel t cs = some x →
    ∀ {μ : Nat → Option Loc} {h : AH}, Sim P FB w0 μ h w → ∃ (μ' : Nat → Option Loc) (h' : AH) (acs : List Value), Post P FB w0 μ h μ' h' w ∧ Pre h h' ∧ LR μ' acs cs ∧ Rep P h' t acs

theorem rep_items {fl : Nat} (ih : OneRep P enc held FB w0 w fl) : ∀ (items : List (TypeId × List Value)), (∀ it ∈ items, flat P fl it.1 = true ∧ ∃ fuel x, DataW.trod enc P w 0 (fun _ => true) held fuel it.1 it.2 = some x) →
    ∀ {μ : Nat → Option Loc} {h : AH}, Sim P FB w0 μ h w → ∃ (μ' : Nat → Option Loc) (h' : AH) (acks : List (List Value)), Post P FB w0 μ h μ' h' w ∧ Pre h h' ∧ ∃ hl : acks.length = items.length, ∀ i (hi : i < items.length) (hi' : i < acks.length), LR μ' acks[i] items[i].2 ∧ Rep P h' items[i].1 acks[i]
  | [], _, μ, h, s => ⟨μ, h, [], s.post, Pre.refl h, rfl, fun i hi => by simp at hi⟩
  | it :: r, hit, μ, h, s => by
    obtain ⟨hf, fuel, x, hx⟩ := hit it (by simp)
    obtain ⟨μ1, h1, acs, p1, g1, l1, r1⟩ := ih fuel it.1 it.2 x hf hx s
    obtain ⟨μ2, h2, acks, p2, g2, hl, hr⟩ := rep_items ih r (fun y hy => hit y (by simp [hy])) p1.sim
    refine ⟨μ2, h2, acs :: acks, p1.trans p2, g1.trans g2, by simp [hl], fun i hi hi' => ?_⟩
    cases i with
    | zero => exact ⟨l1.ext p2.ext, r1.pre g2⟩
    | succ i => exact hr i (by simpa using hi) (by simpa using hi')

theorem one_rep (hF : ∀ b, b < w.heap.size → FB b) : ∀ fl, OneRep P enc held FB w0 w fl
  | 0 => fun fuel t cs x hf => by simp [flat] at hf
  | fl + 1 => by
    intro fuel t cs x hf hx μ h s
    have ih := one_rep hF fl
    unfold flat at hf
    split at hf
    · rename_i ht
      obtain ⟨b, rfl, _⟩ := DataW.trod_bool ht hx
      exact ⟨μ, h, [.bool b], s.post, Pre.refl h, LR.cons (.plain _ rfl) (LR.nil μ), .bool t b ht⟩
    · rename_i k ht
      obtain ⟨n, rfl, _, hw⟩ := DataW.trod_int ht hx
      exact ⟨μ, h, [.int k n], s.post, Pre.refl h, LR.cons (.plain _ rfl) (LR.nil μ), .int t k n ht hw⟩
    · rename_i ht
      obtain ⟨b, rfl, _, hs⟩ := DataW.trod_string ht hx
      exact ⟨μ, h, [.string b], s.post, Pre.refl h, LR.cons (.plain _ rfl) (LR.nil μ), .str t b ht hs⟩
    · rename_i e ht
      simp only [Bool.and_eq_true, decide_eq_true_eq] at hf
      obtain ⟨hk, hfe⟩ := hf
      rcases open_slice ht hx with ⟨rfl, _⟩ | ⟨a, len, cap, m, n', D, Pl, rfl, _, hlc, hcm, hm, _, hel⟩
      · exact ⟨μ, h, [.slice none 0 0], s.post, Pre.refl h, LR.cons (.sl0 none 0) (LR.nil μ), .nil t e 0 ht⟩
      · simp only [if_true] at hm
        subst hm
        by_cases hc0 : m = 0
        · subst hc0
          obtain rfl : len = 0 := by omega
          exact ⟨μ, h, [.slice none 0 0], s.post, Pre.refl h, LR.cons (.sl0 _ 0) (LR.nil μ), .nil t e 0 ht⟩
        · -- every element's cells
          have hcells : ∀ i, i < m → ∃ cs', cs'.length = P.cellsOf e ∧ (∀ j (hj : j < cs'.length), w.cell? ⟨a.block, a.off + (i * P.cellsOf e + j), none⟩ = some cs'[j]) ∧ DataW.trod enc P w 0 (fun _ => true) held n' e cs' = some (D i, Pl i) := by
            have spot : a.spot = none := by
              obtain ⟨cs', hc, _⟩ := hel 0 (by omega)
              obtain ⟨_, hcl, hat⟩ := World.cells?_some hc
              have := hat 0 (by omega)
              have hz : 0 * P.cellsOf e = 0 := by omega
              rw [hz] at this
              simp only [Addr.add, if_true] at this
              rw [List.getElem?_eq_getElem (by omega)] at this
              unfold World.cell? at this
              split at this
              · split at this
                · cases this
                · rename_i hsp; simpa using hsp
              · cases this
            intro i hi
            obtain ⟨cs', hc, ht'⟩ := hel i hi
            obtain ⟨_, hcl, hat⟩ := World.cells?_some hc
            refine ⟨cs', hcl, fun j hj => ?_, ht'⟩
            have := hat j (by omega)
            rw [List.getElem?_eq_getElem hj] at this
            rw [← this]
            congr 1
            unfold Addr.add
            cases a with
            | mk ab ao asp =>
              simp only at spot
              subst spot
              by_cases h1 : i * P.cellsOf e = 0 <;> by_cases h2 : j = 0 <;> simp [h1, h2] <;> omega
          have hblk : a.block < w.heap.size := by
            obtain ⟨cs', hcl, hat, _⟩ := hcells 0 (by omega)
            have := hat 0 (by omega)
            unfold World.cell? at this
            split at this
            · rename_i hh; exact (Array.getElem?_eq_some_iff.1 hh).1
            · cases this
          let c : Nat → List Value := fun i => if hi : i < m then (hcells i hi).choose else []
          have hc : ∀ i (hi : i < m), c i = (hcells i hi).choose := fun i hi => by simp only [c]; rw [dif_pos hi]
          obtain ⟨μ1, h1, acks, p1, g1, hl, hr⟩ := rep_items ih ((List.range len).map fun i => (e, c i)) (fun it hit => by
            obtain ⟨i, hi, rfl⟩ := List.mem_map.1 hit
            have hi' : i < m := by have := List.mem_range.1 hi; omega
            refine ⟨hfe, n', (D i, Pl i), ?_⟩
            simp only [hc i hi']
            exact (hcells i hi').choose_spec.2.2) s
          have hl' : acks.length = len := by simpa using hl
          have hlen : ∀ i (x : i < acks.length), (acks[i]).length = P.cellsOf e := fun i x => by
            have h1 := (hr i (by simp; omega) x).1.1
            simp only [List.getElem_map, List.getElem_range] at h1
            rw [h1, hc i (by omega)]
            exact (hcells i (by omega)).choose_spec.1
          have spot : a.spot = none := by
            obtain ⟨cs', hc, _⟩ := hel 0 (by omega)
            obtain ⟨_, hcl, hat⟩ := World.cells?_some hc
            have := hat 0 (by omega)
            have hz : 0 * P.cellsOf e = 0 := by omega
            rw [hz] at this
            simp only [Addr.add, if_true] at this
            rw [List.getElem?_eq_getElem (by omega)] at this
            unfold World.cell? at this
            split at this
            · split at this
              · cases this
              · rename_i hsp; simpa using hsp
            · cases this
          have hat : At μ1 w a.block a.off acks.flatten := by
            refine At.flatten (k := P.cellsOf e) (fun x hx => ?_) (fun i x j hj => ?_)
            · obtain ⟨i, hi, rfl⟩ := List.mem_iff_getElem.1 hx
              exact hlen i hi
            · obtain ⟨h1, _⟩ := hr i (by simp; omega) x
              have hj' : j < (c i).length := by
                rw [hc i (by omega), (hcells i (by omega)).choose_spec.1, ← hlen i x]; exact hj
              have h2 := h1.2 j hj (by simpa using hj')
              simp only [List.getElem_map, List.getElem_range] at h2
              refine ⟨(c i)[j], ?_, h2⟩
              have := (hcells i (by omega)).choose_spec.2.1 j (by rw [← hc i (by omega)]; exact hj')
              simp only [← hc i (show i < m by omega)] at this
              rw [← this]; congr 2; omega
          have hone : ∀ v ∈ acks.flatten, Sim.one v = true := fun v hv => by
            obtain ⟨l, hl2, hv⟩ := List.mem_flatten.1 hv
            obtain ⟨i, hi, rfl⟩ := List.mem_iff_getElem.1 hl2
            exact (hr i (by simp; omega) hi).2.one v hv
          have p2 := p1.sim.addRo acks.flatten ⟨a.block, a.off, m * P.cellsOf e⟩ (hF _ hblk) hat hone
          have g2 : Pre h1 (h1.alloc (.cells acks.flatten .ro h1.n)) := ⟨by simp [AH.alloc], fun i hi => alloc_lt _ hi⟩
          refine ⟨_, _, [.slice (some ⟨h1.n, 0, none⟩) len (P.cellsOf e)], p1.trans p2, g1.trans g2, LR.cons ?_ (LR.nil _), ?_⟩
          · have := VR.sl (μ := upd μ1 h1.n ⟨a.block, a.off, m * P.cellsOf e⟩) h1.n 0 len (P.cellsOf e) m ⟨a.block, a.off, m * P.cellsOf e⟩ (upd_same _ _) hlc (by simp)
            cases a with
            | mk ab ao asp =>
              simp only at spot
              subst spot
              simpa using this
          · refine .slice t e h1.n len h1.n acks ht (by simp [AH.alloc]) (alloc_same _) hl' (by omega) hlen (fun i x => ?_)
            have := (hr i (by simp; omega) x).2
            simp only [List.getElem_map] at this
            exact this.pre g2
    · rename_i fs ht
      simp only [Bool.and_eq_true, List.all_eq_true] at hf
      obtain ⟨xs, n', rfl, rfl, hcl, hxl, hxf⟩ := DataW.trod_struct ht hx
      obtain ⟨μ1, h1, acks, p1, g1, hl, hr⟩ := rep_items ih (fs.toList.map fun f => (f.type, (cs.drop f.offset).take (P.cellsOf f.type))) (fun it hit => by
        obtain ⟨f, hfm, rfl⟩ := List.mem_map.1 hit
        obtain ⟨i, hi, rfl⟩ := List.mem_iff_getElem.1 hfm
        have h1 := hxf i fs.toList[i] (by simp at hi; simp [hi])
        refine ⟨hf.2 _ hfm, n', xs[i]'(by simp at hi; omega), ?_⟩
        rw [h1, List.getElem?_eq_getElem]) s
      have hl' : acks.length = fs.toList.length := by simpa using hl
      have hcs : cs = ((fs.toList.map fun f => (f.type, (cs.drop f.offset).take (P.cellsOf f.type))).map (·.2)).flatten := by
        rw [List.map_map]
        have := contig_flatten (P := P) hcl hf.1
        rw [List.drop_zero] at this
        exact this.symm
      refine ⟨μ1, h1, acks.flatten, p1, g1, ?_, .struct t fs acks ht hl' (fun i x y => ?_)⟩
      · rw [hcs]
        refine LR.flatten (by simp [hl']) (fun i x y => ?_)
        have := (hr i (by simpa using y) x).1
        simpa using this
      · have := (hr i (by simpa using x) y).2
        simpa using this
    · cases hf
/-- From a contract to the row: the argument one cell. -/
theorem row_cell {f : FuncId} {t : TypeId} {v : Value} {d : DataW H} {ps : List MemPlace} {W : World} (fl : Nat) (hfl : flat P fl t = true) (hg : P.globals.size ≤ W.heap.size) (hv : v.cells.toList = [v])
    (ht : DataW.Trod enc P W 0 (fun _ => true) held t v d ps) (hc : ∀ (h : AH) (av : Value), Rep P h t [av] → P.globals.size ≤ h.n → CE P f [av] h fun r _ => r = .bool true) :
    Calls P f #[v] W fun e W' => e = .returned (.bool true) ∧ Below W.heap.size W W' := by
  obtain ⟨fuel, hx⟩ := ht
  rw [hv] at hx
  obtain ⟨μ, h, acs, p, g, l, r⟩ := one_rep (FB := fun b => b < W.heap.size) (w0 := W) (fun b hb => hb) fl fuel t [v] _ hfl hx (Sim.base W hg)
  obtain ⟨av, rfl⟩ : ∃ av, acs = [av] := by
    match acs, l.1 with
    | [a], _ => exact ⟨a, rfl⟩
  refine hc h av r (Nat.le_trans hg g.n) _ _ μ W #[v] _ p.sim l (fun r' h' μ' cv w' hr p' hvr => ?_)
  subst hr
  refine ⟨by rw [hvr.bool], ⟨p'.sim.os, p'.sim.tape, p'.sim.out, ?_, fun b hb => (p'.sim.frame b hb).2⟩⟩
  rcases Nat.eq_zero_or_pos W.heap.size with e | e
  · omega
  · have := (p'.sim.frame (W.heap.size - 1) (by omega)).1; omega
/-- The same, the argument a struct. -/
theorem row_struct {f : FuncId} {t : TypeId} {cs : Array Value} {d : DataW H} {ps : List MemPlace} {W : World} (fl : Nat) (hfl : flat P fl t = true) (hg : P.globals.size ≤ W.heap.size)
    (ht : DataW.Trod enc P W 0 (fun _ => true) held t (.agg cs) d ps) (hc : ∀ (h : AH) (acs : List Value), Rep P h t acs → P.globals.size ≤ h.n → CE P f [.agg acs.toArray] h fun r _ => r = .bool true) :
    Calls P f #[.agg cs] W fun e W' => e = .returned (.bool true) ∧ Below W.heap.size W W' := by
  obtain ⟨fuel, hx⟩ := ht
  obtain ⟨μ, h, acs, p, g, l, r⟩ := one_rep (FB := fun b => b < W.heap.size) (w0 := W) (fun b hb => hb) fl fuel t _ _ hfl hx (Sim.base W hg)
  have hvr : VR μ (.agg acs.toArray) (.agg cs) := .agg _ _ (by simpa [Value.cells] using l.1) (fun j a b => by simpa [Value.cells] using l.2 j (by simpa using a) (by simpa [Value.cells] using b))
  refine hc h acs r (Nat.le_trans hg g.n) _ _ μ W #[.agg cs] _ p.sim (LR.cons hvr (LR.nil μ)) (fun r' h' μ' cv w' hr p' hvr => ?_)
  subst hr
  refine ⟨by rw [hvr.bool], ⟨p'.sim.os, p'.sim.tape, p'.sim.out, ?_, fun b hb => (p'.sim.frame b hb).2⟩⟩
  rcases Nat.eq_zero_or_pos W.heap.size with e | e
  · omega
  · have := (p'.sim.frame (W.heap.size - 1) (by omega)).1; omega
end

end Go.Sim
