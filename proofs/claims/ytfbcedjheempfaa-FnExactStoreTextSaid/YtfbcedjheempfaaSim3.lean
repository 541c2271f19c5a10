/- The abstract heap and the world go on together: stores and appends in place. Conditions: those that each theorem names. -/
import Derived.Test.YtfbcedjheempfaaSim2
set_option linter.unusedVariables false
set_option linter.unusedSimpArgs false
namespace Go.Sim
variable {P : Program} {FB : Nat → Prop} {w0 : World} {μ : Nat → Option Loc} {h : AH} {w : World}

theorem heap_setCells_ne (b b' : Nat) (e : b' ≠ b) : ∀ (vs : List Value) (o : Nat) (w : World), (w.setCells b o vs).heap[b']? = w.heap[b']?
  | [], _, _ => rfl
  | v :: r, o, w => by
    rw [World.setCells, heap_setCells_ne b b' e r (o + 1)]
    exact RowKit.Below.heap_setCell w ⟨b, o, none⟩ v b' e
theorem heap_setCells_same (b : Nat) : ∀ (vs : List Value) (o : Nat) (w : World) (arr : Array Value) (e : TypeId) (fz : Nat × Nat), w.heap[b]? = some (.cells arr e fz) →
    ∃ arr', (w.setCells b o vs).heap[b]? = some (.cells arr' e fz) ∧ arr'.size = arr.size
  | [], _, _, arr, _, _, hb => ⟨arr, hb, rfl⟩
  | v :: r, o, w, arr, e, fz, hb => by
    rw [World.setCells]
    have : (w.setCell ⟨b, o, none⟩ v).heap[b]? = some (.cells (arr.setIfInBounds o v) e fz) := by
      simp [World.setCell, Array.getElem?_modify, hb]
    obtain ⟨arr', h1, h2⟩ := heap_setCells_same b r (o + 1) _ _ e fz this
    exact ⟨arr', h1, by simpa using h2⟩
theorem size_setCells (b : Nat) : ∀ (vs : List Value) (o : Nat) (w : World), (w.setCells b o vs).heap.size = w.heap.size ∧ (w.setCells b o vs).os = w.os ∧ (w.setCells b o vs).tape = w.tape ∧ (w.setCells b o vs).output = w.output
  | [], _, _ => ⟨rfl, rfl, rfl, rfl⟩
  | v :: r, o, w => by
    rw [World.setCells]
    obtain ⟨a, b1, c, d⟩ := size_setCells b r (o + 1) (w.setCell ⟨b, o, none⟩ v)
    exact ⟨by rw [a]; simp [World.setCell], b1, c, d⟩

theorem Blk.setCells {l l' : Loc} (hb : Blk w l) (o : Nat) (vs : List Value) : Blk (w.setCells l'.b o vs) l := by
  obtain ⟨arr, e, fz, h1, h2, h3⟩ := hb
  by_cases hl : l.b = l'.b
  · rw [hl] at h1
    obtain ⟨arr', a, b⟩ := heap_setCells_same l'.b vs o w arr e fz h1
    exact ⟨arr', e, fz, by rw [hl]; exact a, by omega, fun j hj => h3 j (by omega)⟩
  · exact ⟨arr, e, fz, by rw [heap_setCells_ne _ _ hl]; exact h1, h2, h3⟩

theorem Blk.cell {l : Loc} (hb : Blk w l) {j : Nat} (hj : j < l.room) : ∃ v, w.cell? ⟨l.b, l.o + j, none⟩ = some v := by
  obtain ⟨arr, e, fz, h1, h2, h3⟩ := hb
  have : l.o + j < arr.size := by omega
  exact ⟨arr[l.o + j], by simp [World.cell?, h1, this]⟩
theorem Blk.frozen {l : Loc} (hb : Blk w l) {j : Nat} (hj : j < l.room) : w.frozen? ⟨l.b, l.o + j, none⟩ = false := by
  obtain ⟨arr, e, fz, h1, h2, h3⟩ := hb
  have h4 := h3 (l.o + j) (by omega)
  obtain ⟨lo, hi⟩ := fz
  simp only [World.frozen?, h1]
  simpa using h4

/-- A heap with less said of it. -/
structure Less (h h' : AH) : Prop where
  n : h'.n = h.n
  ob : ∀ j, h'.ob j = .none ∨ h'.ob j = h.ob j ∨ ∃ cs st ln, h.ob j = .cells cs st ln ∧ st ≠ .ro ∧ h'.ob j = .cells cs .old ln

theorem Less.cells {h h' : AH} (z : Less h h') {j : Nat} {cs : List Value} {st : Stat} {ln : Nat} (e : h'.ob j = .cells cs st ln) :
    ∃ st', h.ob j = .cells cs st' ln ∧ (st = st' ∨ (st = .old ∧ st' ≠ .ro)) := by
  rcases z.ob j with a | a | ⟨c, s, n, a, b, d⟩
  · rw [a] at e; cases e
  · exact ⟨st, by rw [← a]; exact e, .inl rfl⟩
  · rw [d] at e
    simp only [AOb.cells.injEq] at e
    obtain ⟨rfl, rfl, rfl⟩ := e
    exact ⟨s, a, .inr ⟨rfl, b⟩⟩
theorem Less.own {h h' : AH} (z : Less h h') {j n : Nat} (e : (h'.ob j).own = some n) : (h.ob j).own = some n := by
  obtain ⟨cs, st, e', hs⟩ := AOb.own_some e
  obtain ⟨st', a, b⟩ := z.cells e'
  rw [a]
  refine AOb.own_cells ?_
  rcases b with rfl | ⟨_, b⟩
  · exact hs
  · exact b
theorem Less.map {h h' : AH} (z : Less h h') {j : Nat} {es : List (Value × Value)} (e : h'.ob j = .map es) : h.ob j = .map es := by
  rcases z.ob j with a | a | ⟨c, s, n, a, b, d⟩
  · rw [a] at e; cases e
  · rw [← a]; exact e
  · rw [d] at e; cases e

theorem Sim.less (s : Sim P FB w0 μ h w) {h' : AH} (z : Less h h') : Sim P FB w0 μ h' w := by
  constructor
  case os => exact s.os
  case tape => exact s.tape
  case out => exact s.out
  case frame => exact s.frame
  case dom => intro i l hm; rw [z.n]; exact s.dom i l hm
  case big =>
    intro i hi
    rw [z.n] at hi
    rcases z.ob i with a | a | ⟨c, st, n, a, b, d⟩
    · exact a
    · rw [a]; exact s.big i hi
    · rw [s.big i hi] at a; cases a
  case glob => exact s.glob
  case cell =>
    intro i l cs st ln hm ho j hj
    obtain ⟨st', a, _⟩ := z.cells ho
    exact s.cell i l cs st' ln hm a j hj
  case blk =>
    intro i l cs st ln hm ho hs
    obtain ⟨st', a, b⟩ := z.cells ho
    refine s.blk i l cs st' ln hm a ?_
    rcases b with rfl | ⟨_, b⟩
    · exact hs
    · exact b
  case rob =>
    intro i l cs ln hm ho
    obtain ⟨st', a, b⟩ := z.cells ho
    rcases b with rfl | ⟨b, _⟩
    · exact s.rob i l cs ln hm a
    · cases b
  case onec =>
    intro i cs st ln ho
    obtain ⟨st', a, _⟩ := z.cells ho
    exact s.onec i cs st' ln a
  case sep => intro i j li lj ni nj hi hj oi oj hb; exact s.sep i j li lj ni nj hi hj (z.own oi) (z.own oj) hb
  case tip =>
    intro i j li lj ci cj sj ni nj hi hj oi oj hs hb
    obtain ⟨si', a, b⟩ := z.cells oi
    obtain ⟨sj', a', b'⟩ := z.cells oj
    rcases b with rfl | ⟨b, _⟩
    · refine s.tip i j li lj ci cj sj' ni nj hi hj a a' ?_ hb
      rcases b' with rfl | ⟨_, b'⟩
      · exact hs
      · exact b'
    · cases b
  case tipu =>
    intro i j ci cj n oi oj
    obtain ⟨si', a, b⟩ := z.cells oi
    obtain ⟨sj', a', b'⟩ := z.cells oj
    rcases b with rfl | ⟨b, _⟩
    · rcases b' with rfl | ⟨b', _⟩
      · exact s.tipu i j ci cj n a a'
      · cases b'
    · cases b
  case solo =>
    intro i cs n oi
    obtain ⟨si', a, b⟩ := z.cells oi
    rcases b with rfl | ⟨b, _⟩
    · obtain ⟨e, hu⟩ := s.solo i cs n a
      exact ⟨e, fun j hj => hu j (z.own hj)⟩
    · cases b
  case lin => intro i n oi; exact s.lin i n (z.own oi)
  case linc => intro i j n oi oj hm; exact s.linc i j n (z.own oi) (z.own oj) hm
  case mp => intro i l es hm ho; exact s.mp i l es hm (z.map ho)
  case mpu => intro i j li lj es es' hi hj oi oj hb; exact s.mpu i j li lj es es' hi hj (z.map oi) (z.map oj) hb

theorem Less.demote {i : Nat} {cs : List Value} {st : Stat} {ln : Nat} (ho : h.ob i = .cells cs st ln) (hs : st ≠ .ro) : Less h (h.set i (.cells cs .old ln)) := by
  refine ⟨rfl, fun j => ?_⟩
  by_cases e : j = i
  · subst e; exact .inr (.inr ⟨cs, st, ln, ho, hs, by simp [AH.set]⟩)
  · exact .inr (.inl (by simp [AH.set, e]))
theorem Less.kill (ln : Nat) : Less h (h.kill ln) := by
  refine ⟨rfl, fun j => ?_⟩
  by_cases e : (h.ob j).own = some ln
  · exact .inl (by simp [AH.kill, e])
  · exact .inr (.inl (by simp [AH.kill, e]))

/-- Values put into a list, from a place on. -/
def putL : List Value → Nat → List Value → List Value
  | cs, _, [] => cs
  | cs, o, v :: r => putL (cs.set o v) (o + 1) r
theorem putL_length : ∀ (vs cs : List Value) (o : Nat), (putL cs o vs).length = cs.length
  | [], _, _ => rfl
  | v :: r, cs, o => by rw [putL, putL_length r]; simp
theorem putL_out : ∀ (vs cs : List Value) (o j : Nat), j < o ∨ o + vs.length ≤ j → (putL cs o vs)[j]? = cs[j]?
  | [], _, _, _, _ => rfl
  | v :: r, cs, o, j, hj => by
    rw [putL, putL_out r (cs.set o v) (o + 1) j (by simp at hj; omega)]
    rw [List.getElem?_set_ne (by simp at hj; omega)]
theorem putL_in : ∀ (vs cs : List Value) (o j : Nat) (hj : j < vs.length), o + vs.length ≤ cs.length → (putL cs o vs)[o + j]? = some vs[j]
  | v :: r, cs, o, 0, _, hb => by
    rw [putL, putL_out r _ _ _ (.inl (by omega))]
    simp at hb
    simp [show o < cs.length by omega]
  | v :: r, cs, o, j + 1, hj, hb => by
    rw [putL, show o + (j + 1) = o + 1 + j by omega, putL_in r (cs.set o v) (o + 1) j (by simpa using hj) (by simp at hb ⊢; omega)]
    simp

theorem putL_mem : ∀ (vs cs : List Value) (o : Nat) (v : Value), v ∈ putL cs o vs → v ∈ cs ∨ v ∈ vs
  | [], _, _, _, hv => .inl hv
  | x :: r, cs, o, v, hv => by
    rw [putL] at hv
    rcases putL_mem r (cs.set o x) (o + 1) v hv with a | a
    · rcases List.mem_or_eq_of_mem_set a with b | b
      · exact .inl b
      · exact .inr (by simp [b])
    · exact .inr (by simp [a])
/-- A store into an object that shares with no other. -/
theorem Sim.store (s : Sim P FB w0 μ h w) {i : Nat} {l : Loc} {cs : List Value} {st : Stat} {ln : Nat} (hm : μ i = some l) (ho : h.ob i = .cells cs st ln) (hs : st ≠ .ro)
    (hal : ∀ j, (h.ob j).own = some ln → j = i) (off : Nat) {vs cvs : List Value} (hb : off + vs.length ≤ cs.length) (hv : LR μ vs cvs) (h1 : ∀ v ∈ vs, one v = true) :
    Sim P FB w0 μ (h.set i (.cells (putL cs off vs) st ln)) (w.setCells l.b (l.o + off) cvs) := by
  have hob : ∀ j, j ≠ i → (h.set i (.cells (putL cs off vs) st ln)).ob j = h.ob j := fun j hj => by simp [AH.set, hj]
  have hnew : (h.set i (.cells (putL cs off vs) st ln)).ob i = .cells (putL cs off vs) st ln := by simp [AH.set]
  have howni : (h.ob i).own = some ln := by rw [ho]; exact AOb.own_cells hs
  have hown : ∀ j, ((h.set i (.cells (putL cs off vs) st ln)).ob j).own = (h.ob j).own := fun j => by
    by_cases e : j = i
    · subst e; rw [hnew, howni]; exact AOb.own_cells hs
    · rw [hob j e]
  obtain ⟨hfb, hblk, hroom⟩ := s.blk i l cs st ln hm ho hs
  have hcells : ∀ j c st' ln', (h.set i (.cells (putL cs off vs) st ln)).ob j = .cells c st' ln' → ∃ c', h.ob j = .cells c' st' ln' ∧ c'.length = c.length := fun j c st' ln' e => by
    by_cases e1 : j = i
    · subst e1
      rw [hnew] at e
      simp only [AOb.cells.injEq] at e
      obtain ⟨rfl, rfl, rfl⟩ := e
      exact ⟨cs, ho, (putL_length _ _ _).symm⟩
    · rw [hob j e1] at e; exact ⟨c, e, rfl⟩
  have hother : ∀ j lj, j ≠ i → μ j = some lj → (∃ n, (h.ob j).own = some n) → lj.b ≠ l.b := fun j lj e hj ⟨n, hn⟩ hbb => by
    have := s.sep j i lj l n ln hj hm hn howni hbb
    subst this
    exact e (hal j hn)
  obtain ⟨z1, z2, z3, z4⟩ := size_setCells l.b cvs (l.o + off) w
  have hlen := hv.1
  constructor
  case os => rw [z2]; exact s.os
  case tape => rw [z3]; exact s.tape
  case out => rw [z4]; exact s.out
  case frame =>
    intro b hb'
    obtain ⟨h1, h2⟩ := s.frame b hb'
    exact ⟨by omega, by rw [heap_setCells_ne _ _ (fun e => hfb (by rw [← e]; exact hb'))]; exact h2⟩
  case dom => exact s.dom
  case big =>
    intro j hj
    have : j ≠ i := fun e => by subst e; have := s.big _ hj; rw [ho] at this; cases this
    rw [hob j this]; exact s.big j hj
  case glob => exact s.glob
  case cell =>
    intro j lj c st' ln' hj oj q hq
    by_cases e : j = i
    · subst e
      rw [hm] at hj
      obtain rfl := Option.some.inj hj
      rw [hnew] at oj
      simp only [AOb.cells.injEq] at oj
      obtain ⟨rfl, rfl, rfl⟩ := oj
      have hq' : q < cs.length := by rw [putL_length] at hq; exact hq
      by_cases hin : off ≤ q ∧ q < off + vs.length
      · obtain ⟨d, rfl⟩ : ∃ d, q = off + d := ⟨q - off, by omega⟩
        have hd : d < vs.length := by omega
        have hd' : d < cvs.length := by omega
        refine ⟨cvs[d], ?_, ?_⟩
        · have := World.cell?_setCells_in l.b cvs (l.o + off) w (fun t ht => by
            obtain ⟨v, hv'⟩ := hblk.cell (j := off + t) (by omega)
            rw [show l.o + off + t = l.o + (off + t) by omega, hv']; rfl) d hd'
          rw [show l.o + (off + d) = l.o + off + d by omega]; exact this
        · have e1 := putL_in vs cs off d hd hb
          rw [List.getElem?_eq_getElem hq] at e1
          rw [Option.some.inj e1]
          exact hv.2 d hd hd'
      · obtain ⟨cv, a, b⟩ := s.cell j l cs st ln hm ho q hq'
        refine ⟨cv, ?_, ?_⟩
        · rw [World.cell?_setCells_out l.b cvs (l.o + off) w _ (fun _ _ => by simp; omega)]; exact a
        · have e1 := putL_out vs cs off q (by omega)
          rw [List.getElem?_eq_getElem hq, List.getElem?_eq_getElem hq'] at e1
          rw [Option.some.inj e1]; exact b
    · rw [hob j e] at oj
      obtain ⟨cv, a, b⟩ := s.cell j lj c st' ln' hj oj q hq
      refine ⟨cv, ?_, b⟩
      have hne : lj.b ≠ l.b := by
        by_cases hr : st' = .ro
        · subst hr; intro e2; exact hfb (by rw [← e2]; exact s.rob j lj c ln' hj oj)
        · exact hother j lj e hj ⟨ln', by rw [oj]; exact AOb.own_cells hr⟩
      rw [World.cell?_setCells_out l.b cvs (l.o + off) w _ (fun e2 _ => absurd e2 hne)]; exact a
  case blk =>
    intro j lj c st' ln' hj oj hs'
    obtain ⟨c', a, b⟩ := hcells j c st' ln' oj
    obtain ⟨x, y, z⟩ := s.blk j lj c' st' ln' hj a hs'
    exact ⟨x, y.setCells _ _, by omega⟩
  case rob =>
    intro j lj c ln' hj oj
    obtain ⟨c', a, b⟩ := hcells j c _ ln' oj
    exact s.rob j lj c' ln' hj a
  case onec =>
    intro j c st' n oj v hv'
    by_cases e : j = i
    · subst e; rw [hnew] at oj
      simp only [AOb.cells.injEq] at oj
      obtain ⟨rfl, _, _⟩ := oj
      rcases putL_mem _ _ _ _ hv' with a | a
      · exact s.onec _ _ _ _ ho v a
      · exact h1 v a
    · rw [hob j e] at oj; exact s.onec j c st' n oj v hv'
  case sep => intro a b la lb na nb ha hb' oa ob hbb; rw [hown] at oa ob; exact s.sep a b la lb na nb ha hb' oa ob hbb
  case tip =>
    intro a b la lb ca cb sb na nb ha hb' oa ob hsb hbb
    obtain ⟨ca', a1, a2⟩ := hcells a ca _ _ oa
    obtain ⟨cb', b1, b2⟩ := hcells b cb _ _ ob
    have := s.tip a b la lb ca' cb' sb na nb ha hb' a1 b1 hsb hbb
    omega
  case tipu =>
    intro a b ca cb n oa ob
    obtain ⟨ca', a1, a2⟩ := hcells a ca _ _ oa
    obtain ⟨cb', b1, b2⟩ := hcells b cb _ _ ob
    exact s.tipu a b ca' cb' n a1 b1
  case solo =>
    intro a c n oa
    obtain ⟨ca', a1, a2⟩ := hcells a c _ _ oa
    obtain ⟨e, hu⟩ := s.solo a ca' n a1
    exact ⟨e, fun j hj => hu j (by rw [hown] at hj; exact hj)⟩
  case lin => intro a n oa; rw [hown] at oa; exact s.lin a n oa
  case linc => intro a b n oa ob hma; rw [hown] at oa ob; exact s.linc a b n oa ob hma
  case mp =>
    intro j lj es hj oj
    have e1 : j ≠ i := fun e => by subst e; rw [hnew] at oj; cases oj
    rw [hob j e1] at oj
    obtain ⟨a, ents, c, b, d⟩ := s.mp j lj es hj oj
    refine ⟨a, ents, c, ?_, d⟩
    rw [heap_setCells_ne]
    · exact b
    · intro e2
      obtain ⟨arr, e, fz, hb1, _⟩ := hblk
      rw [← e2, b] at hb1; cases hb1
  case mpu =>
    intro a b la lb es es' ha hb' oa ob hbb
    have e1 : a ≠ i := fun e => by subst e; rw [hnew] at oa; cases oa
    have e2 : b ≠ i := fun e => by subst e; rw [hnew] at ob; cases ob
    rw [hob a e1] at oa; rw [hob b e2] at ob
    exact s.mpu a b la lb es es' ha hb' oa ob hbb

/-- A new object in the block of one that it was appended to, in place: what is written stands behind all others. -/
theorem Sim.addSame (s : Sim P FB w0 μ h w) {l : Loc} {ln off p : Nat} {cs' cvs : List Value}
    (hfb : ¬ FB l.b) (hblk : Blk w l) (hoff : off ≤ l.room) (hp : p + cvs.length = l.o + off + cs'.length) (hroom : cs'.length ≤ l.room - off) (hpo : l.o + off ≤ p)
    (hin : ∀ j lj cj sj nj, μ j = some lj → h.ob j = .cells cj sj nj → sj ≠ .ro → lj.b = l.b → nj = ln ∧ lj.o + cj.length ≤ p)
    (hlow : ∀ j (hj : j < cs'.length), l.o + off + j < p → ∃ cv, w.cell? ⟨l.b, l.o + off + j, none⟩ = some cv ∧ VR μ cs'[j] cv)
    (hhigh : LR μ (cs'.drop (p - (l.o + off))) cvs)
    (c3 : (∀ j c, h.ob j ≠ .cells c .tip ln) ∧ (∀ j c, h.ob j ≠ .cells c .solo ln)) (c3' : ln ≤ h.n) (c4 : ∀ j, (h.ob j).own = some ln → μ j ≠ none) (c6 : ∀ v ∈ cs', one v = true) :
    Post P FB w0 μ h (upd μ h.n ⟨l.b, l.o + off, l.room - off⟩) (h.alloc (.cells cs' .tip ln)) (w.setCells l.b p cvs) := by
  have hx : Ext μ (upd μ h.n ⟨l.b, l.o + off, l.room - off⟩) := fun i l hm => by
    rw [upd_ne _ (by have := s.dom i l hm; omega)]; exact hm
  have hob : ∀ i, i ≠ h.n → (h.alloc (.cells cs' .tip ln)).ob i = h.ob i := fun i hi => by simp [AH.alloc, hi]
  have hnew : (h.alloc (.cells cs' .tip ln)).ob h.n = .cells cs' .tip ln := by simp [AH.alloc]
  have hown : (AOb.cells cs' .tip ln).own = some ln := rfl
  obtain ⟨z1, z2, z3, z4⟩ := size_setCells l.b cvs p w
  refine ⟨?_, hx, ⟨by simp [AH.alloc], fun i hi hm => ⟨by rw [upd_ne _ (by omega)]; exact hm, hob i (by omega)⟩⟩⟩
  have hino : ∀ j lj nj, μ j = some lj → (h.ob j).own = some nj → lj.b = l.b → nj = ln := fun j lj nj hj oj hb => by
    obtain ⟨c, st, e, hs⟩ := AOb.own_some oj
    exact (hin j lj c st nj hj e hs hb).1
  constructor
  case os => rw [z2]; exact s.os
  case tape => rw [z3]; exact s.tape
  case out => rw [z4]; exact s.out
  case frame =>
    intro b hb'
    obtain ⟨h1, h2⟩ := s.frame b hb'
    exact ⟨by omega, by rw [heap_setCells_ne _ _ (fun e => hfb (by rw [← e]; exact hb'))]; exact h2⟩
  case dom =>
    intro i l' hm
    by_cases hi : i = h.n
    · subst hi; simp [AH.alloc]
    · rw [upd_ne _ hi] at hm; have := s.dom i l' hm; simp [AH.alloc]; omega
  case big => intro i hi; simp [AH.alloc] at hi; rw [hob i (by omega)]; exact s.big i (by omega)
  case glob =>
    intro g hg
    obtain ⟨l', a, b⟩ := s.glob g hg
    exact ⟨l', hx _ _ a, b⟩
  case cell =>
    intro i l' c st' ln' hm ho j hj
    by_cases hi : i = h.n
    · subst hi
      rw [upd_same] at hm; rw [hnew] at ho
      obtain rfl := Option.some.inj hm
      simp only [AOb.cells.injEq] at ho
      obtain ⟨rfl, rfl, rfl⟩ := ho
      simp only
      by_cases hlo : l.o + off + j < p
      · obtain ⟨cv, a, b⟩ := hlow j hj hlo
        exact ⟨cv, by rw [World.cell?_setCells_out l.b cvs p w _ (fun _ _ => by simp; omega)]; exact a, b.ext hx⟩
      · obtain ⟨d, hd⟩ : ∃ d, l.o + off + j = p + d := ⟨l.o + off + j - p, by omega⟩
        have hd1 : d < cvs.length := by omega
        refine ⟨cvs[d], ?_, ?_⟩
        · rw [hd]
          refine World.cell?_setCells_in l.b cvs p w (fun t ht => ?_) d hd1
          obtain ⟨v, hv'⟩ := hblk.cell (j := p + t - l.o) (by omega)
          rw [show p + t = l.o + (p + t - l.o) by omega, hv']; rfl
        · have e1 := hhigh.2 d (by simp; omega) hd1
          rw [List.getElem_drop] at e1
          have : p - (l.o + off) + d = j := by omega
          simp only [this] at e1
          exact e1.ext hx
    · rw [upd_ne _ hi] at hm; rw [hob i hi] at ho
      obtain ⟨cv, a, b⟩ := s.cell i l' c st' ln' hm ho j hj
      refine ⟨cv, ?_, b.ext hx⟩
      rw [World.cell?_setCells_out l.b cvs p w _ (fun e2 _ => ?_)]
      · exact a
      · simp only at e2
        by_cases hr : st' = .ro
        · subst hr; exact absurd (by rw [← e2]; exact s.rob i l' c ln' hm ho) hfb
        · have := (hin i l' c st' ln' hm ho hr e2).2
          left; simp only; omega
  case blk =>
    intro i l' c st' ln' hm ho hs
    by_cases hi : i = h.n
    · subst hi
      rw [upd_same] at hm; rw [hnew] at ho
      obtain rfl := Option.some.inj hm
      simp only [AOb.cells.injEq] at ho
      obtain ⟨rfl, rfl, rfl⟩ := ho
      obtain ⟨arr, e, fz, h1, h2, h3⟩ := hblk.setCells (l' := l) p cvs
      exact ⟨hfb, ⟨arr, e, fz, h1, by simp only; omega, h3⟩, hroom⟩
    · rw [upd_ne _ hi] at hm; rw [hob i hi] at ho
      obtain ⟨a, b, c⟩ := s.blk i l' c st' ln' hm ho hs
      exact ⟨a, b.setCells _ _, c⟩
  case rob =>
    intro i l' c n hm ho
    have e1 : i ≠ h.n := fun e1 => by
      subst e1; rw [hnew] at ho; cases ho
    rw [upd_ne _ e1] at hm; rw [hob i e1] at ho
    exact s.rob i l' c n hm ho
  case onec =>
    intro i c st' n ho
    by_cases e1 : i = h.n
    · subst e1; rw [hnew] at ho
      simp only [AOb.cells.injEq] at ho
      obtain ⟨rfl, _, _⟩ := ho
      exact c6
    · rw [hob i e1] at ho; exact s.onec i c st' n ho
  case sep =>
    intro i j li lj ni nj hi hj oi oj hb
    by_cases e1 : i = h.n <;> by_cases e2 : j = h.n
    · subst e1; subst e2; rw [oi] at oj; exact Option.some.inj oj
    · subst e1; rw [upd_same] at hi; rw [upd_ne _ e2] at hj; rw [hob j e2] at oj; rw [hnew, hown] at oi
      obtain rfl := Option.some.inj hi
      obtain rfl := Option.some.inj oi
      exact (hino j lj nj hj oj hb.symm).symm
    · subst e2; rw [upd_same] at hj; rw [upd_ne _ e1] at hi; rw [hob i e1] at oi; rw [hnew, hown] at oj
      obtain rfl := Option.some.inj hj
      obtain rfl := Option.some.inj oj
      exact hino i li ni hi oi hb
    · rw [upd_ne _ e1] at hi; rw [upd_ne _ e2] at hj; rw [hob i e1] at oi; rw [hob j e2] at oj
      exact s.sep i j li lj ni nj hi hj oi oj hb
  case tip =>
    intro i j li lj ci cj sj ni nj hi hj oi oj hs hb
    by_cases e1 : i = h.n <;> by_cases e2 : j = h.n
    · subst e1; subst e2
      rw [hi] at hj; rw [oi] at oj
      obtain rfl := Option.some.inj hj
      simp only [AOb.cells.injEq] at oj
      obtain ⟨rfl, _, _⟩ := oj
      omega
    · subst e1; rw [upd_same] at hi; rw [upd_ne _ e2] at hj; rw [hob j e2] at oj; rw [hnew] at oi
      obtain rfl := Option.some.inj hi
      simp only [AOb.cells.injEq] at oi
      obtain ⟨rfl, _, rfl⟩ := oi
      have := (hin j lj cj sj nj hj oj hs hb.symm).2
      simp only; omega
    · subst e2; rw [upd_same] at hj; rw [upd_ne _ e1] at hi; rw [hob i e1] at oi; rw [hnew] at oj
      obtain rfl := Option.some.inj hj
      have := (hin i li ci _ ni hi oi (by simp) hb).1
      subst this
      exact absurd oi (c3.1 i ci)
    · rw [upd_ne _ e1] at hi; rw [upd_ne _ e2] at hj; rw [hob i e1] at oi; rw [hob j e2] at oj
      exact s.tip i j li lj ci cj sj ni nj hi hj oi oj hs hb
  case tipu =>
    intro i j ci cj n oi oj
    by_cases e1 : i = h.n <;> by_cases e2 : j = h.n
    · omega
    · subst e1; rw [hnew] at oi; rw [hob j e2] at oj
      simp only [AOb.cells.injEq] at oi
      obtain ⟨rfl, _, rfl⟩ := oi
      exact absurd oj (c3.1 j cj)
    · subst e2; rw [hnew] at oj; rw [hob i e1] at oi
      simp only [AOb.cells.injEq] at oj
      obtain ⟨rfl, _, rfl⟩ := oj
      exact absurd oi (c3.1 i ci)
    · rw [hob i e1] at oi; rw [hob j e2] at oj
      exact s.tipu i j ci cj n oi oj
  case solo =>
    intro i c n oi
    by_cases e1 : i = h.n
    · subst e1; rw [hnew] at oi; cases oi
    · rw [hob i e1] at oi
      obtain ⟨rfl, hu⟩ := s.solo i c n oi
      refine ⟨rfl, fun j hj => ?_⟩
      by_cases e2 : j = h.n
      · subst e2
        rw [hnew, hown] at hj
        obtain rfl := Option.some.inj hj
        exact absurd oi (c3.2 _ c)
      · rw [hob j e2] at hj; exact hu j hj
  case lin =>
    intro i n oi
    by_cases e1 : i = h.n
    · subst e1; rw [hnew, hown] at oi; obtain rfl := Option.some.inj oi; exact c3'
    · rw [hob i e1] at oi; exact s.lin i n oi
  case linc =>
    intro i j n oi oj hm
    by_cases e2 : j = h.n
    · subst e2; rw [upd_same]; simp
    · rw [upd_ne _ e2]
      rw [hob j e2] at oj
      by_cases e1 : i = h.n
      · subst e1; rw [hnew, hown] at oi; obtain rfl := Option.some.inj oi; exact c4 j oj
      · rw [hob i e1] at oi; rw [upd_ne _ e1] at hm; exact s.linc i j n oi oj hm
  case mp =>
    intro i l' es hm ho
    have e1 : i ≠ h.n := fun e1 => by subst e1; rw [hnew] at ho; cases ho
    rw [upd_ne _ e1] at hm; rw [hob i e1] at ho
    obtain ⟨a, ents, c, b, d⟩ := s.mp i l' es hm ho
    refine ⟨a, ents, c, ?_, d.ext hx⟩
    rw [heap_setCells_ne]
    · exact b
    · intro e2
      obtain ⟨arr, e, fz, hb1, _⟩ := hblk
      rw [← e2, b] at hb1; cases hb1
  case mpu =>
    intro i j li lj es es' hi hj oi oj hb
    have e1 : i ≠ h.n := fun e1 => by subst e1; rw [hnew] at oi; cases oi
    have e2 : j ≠ h.n := fun e1 => by subst e1; rw [hnew] at oj; cases oj
    rw [upd_ne _ e1] at hi; rw [upd_ne _ e2] at hj; rw [hob i e1] at oi; rw [hob j e2] at oj
    exact s.mpu i j li lj es es' hi hj oi oj hb

end Go.Sim
