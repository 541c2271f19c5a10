/- Appends. Conditions: those that each theorem names. -/
import Derived.Test.YtfbcedjheempfaaSim7
set_option linter.unusedVariables false
set_option linter.unusedSimpArgs false
namespace Go.Sim
variable {P : Program} {FB : Nat → Prop} {w0 : World} {μ : Nat → Option Loc} {h : AH} {w : World}

/-- What is appended: how many elements, and their cells. -/
def asrc (h : AH) (size : Nat) (x : Value) : Option (Nat × List Value) :=
  match x with
  | .slice Option.none 0 _ => some (0, [])
  | .slice (some ⟨id, off, Option.none⟩) n _ => (rd h id off (n * size)).map fun l => (n, l)
  | .string s => if size = 1 then some (s.size, bytesV s) else none
  | _ => none

/-- The heap behind an append to the end of an object. -/
def apd (h : AH) (id off n k : Nat) (new : List Value) : Option AH :=
  match h.ob id with
  | .cells cs .ro _ => none
  | .cells cs .old _ => none
  | .cells cs _ ln => if off + n * k = cs.length then some ((h.set id (.cells cs .old ln)).alloc (.cells (cs.drop off ++ new) .tip ln))
      else if off + n * k < cs.length then some ((h.kill ln).alloc (.cells ((cs.drop off).take (n * k) ++ new) .tip ln)) else none
  | _ => none

def aappend (P : Program) (h : AH) (t u : TypeId) (s x : Value) (K : Value → AH → Prop) : Prop :=
  match si P t with
  | some (_, i) =>
    0 < i.size ∧ i.bytes ≤ 256 ∧ (∀ k, P.underlying u ≠ some (.int k)) ∧ (P.underlying u).isSome = true ∧
    (match asrc h i.size x with
     | some (m, new) =>
       (match s with
        | .slice Option.none 0 _ => m < 274877906944 ∧ 0 < m ∧ K (.slice (some ⟨h.n, 0, none⟩) m i.size) (h.alloc (.cells new .solo h.n))
        | .slice (some ⟨id, off, Option.none⟩) n k => k = i.size ∧ n + m < 274877906944 ∧
          (match apd h id off n k new with
           | some h' => K (.slice (some ⟨h.n, 0, none⟩) (n + m) k) h'
           | none => False)
        | _ => False)
     | none => False)
  | none => False

theorem asrc_run (s : Sim P FB w0 μ h w) {size m : Nat} {x c : Value} {new : List Value} (e : asrc h size x = some (m, new)) (hv : VR μ x c) :
    ∃ cnew, (Builtin.lenOf c).run P w = .ok m w ∧ (Builtin.firstCells size m c).run P w = .ok cnew w ∧ LR μ new cnew.toList ∧ new.length = m * size := by
  unfold asrc at e
  split at e
  · simp at e
    obtain ⟨rfl, rfl⟩ := e
    cases hv with
    | plain _ hq => simp [isPlain] at hq
    | sl0 A' _ =>
      refine ⟨#[], rfl, ?_, LR.nil μ, by simp⟩
      cases A' <;> simp [Builtin.firstCells, loadCells, loadCellsFrom]
  · rename_i id off n k
    obtain ⟨l, hl, he⟩ := Option.map_eq_some_iff.1 e
    simp at he
    obtain ⟨rfl, rfl⟩ := he
    have hll : l.length = n * size := by
      unfold rd at hl
      split at hl
      · split at hl
        · obtain rfl := Option.some.inj hl
          simp; omega
        · cases hl
      · cases hl
    cases hv with
    | plain _ hq => simp [isPlain] at hq
    | slz _ _ _ lc hm ho A' =>
      have : l = [] := List.eq_nil_of_length_eq_zero (by simpa using hll)
      subst this
      refine ⟨#[], rfl, ?_, LR.nil μ, by simp⟩
      cases A' <;> simp [Builtin.firstCells, loadCells, loadCellsFrom]
    | sl _ _ _ _ cap lc hm hn hr =>
      obtain ⟨cvs, e1, e2, e3⟩ := s.read hm hl
      exact ⟨cvs.toArray, rfl, run_loadCells_list P w lc.b (lc.o + off) _ cvs e2 e3, by simpa using e1, hll⟩
  · rename_i str
    split at e
    · rename_i hs; subst hs
      simp at e
      obtain ⟨rfl, rfl⟩ := e
      rw [hv.string]
      refine ⟨(bytesV str).toArray, rfl, ?_, by simpa using LR.refl_zok (bytesV_plain str) μ, by simp [bytesV_length]⟩
      simp only [Builtin.firstCells, Sem.run_pure]
      congr 1
      apply Array.toList_inj.1
      have : str.extract 0 str.size = str := by exact ByteArray.extract_zero_size
      rw [this]
      simp [bytesV]
    · cases e
  · cases e

theorem asrc_one (s : Sim P FB w0 μ h w) {size m : Nat} {x : Value} {new : List Value} (e : asrc h size x = some (m, new)) : ∀ v ∈ new, one v = true := by
  unfold asrc at e
  split at e
  · simp at e; obtain ⟨rfl, rfl⟩ := e; simp
  · obtain ⟨l, hl, he⟩ := Option.map_eq_some_iff.1 e
    simp at he
    obtain ⟨rfl, rfl⟩ := he
    unfold rd at hl
    split at hl
    · rename_i cs st ln ho
      split at hl
      · obtain rfl := Option.some.inj hl
        exact fun v hv => s.onec _ _ _ _ ho v (List.mem_of_mem_drop (List.mem_of_mem_take hv))
      · cases hl
    · cases hl
  · split at e
    · simp at e; obtain ⟨rfl, rfl⟩ := e
      exact fun v hv => zok_one (bytesV_plain _ v hv)
    · cases e
  · cases e

/-- How much room the model asks for is within bounds. -/
theorem nextcap_le (need old : Nat) (hlt : old < need) : Builtin.nextslicecap need old ≤ 2 * need + 768 := by
  have grow : ∀ (r c : Nat), c < need → Builtin.growBy need r c ≤ 2 * need + 768 := by
    intro r
    induction r with
    | zero => intro c hc; simp [Builtin.growBy]; omega
    | succ r ih =>
      intro c hc
      unfold Builtin.growBy
      rw [if_neg (by omega)]
      by_cases hn : c + (c + 768) / 4 < need
      · exact ih _ hn
      · cases r with
        | zero => simp [Builtin.growBy]; omega
        | succ r => unfold Builtin.growBy; rw [if_pos (by omega)]; omega
  unfold Builtin.nextslicecap
  split
  · omega
  · split
    · omega
    · exact grow 4 old hlt

theorem LR.ofArrays {a b : List Value} {c : Array Value} (e : LR μ a c.toList) : a.length = c.size := by simpa using e.1

/-! the model's append, in place and into a new row -/
theorem run_append_in {t u ty e : TypeId} {du : TypeDesc} {i : TI} {d : TypeDesc} {j : TypeInfo} {z : Value} (hu : P.underlying t = some (.slice e)) (g : TIFacts P e i d j z)
    (hxu : P.underlying u = some du) (hni : ∀ k, du ≠ .int k) {cx : Value} {m : Nat} {cnew : Array Value} (hl : (Builtin.lenOf cx).run P w = .ok m w) (hf : (Builtin.firstCells i.size m cx).run P w = .ok cnew w)
    {base : Option Addr} {n cap : Nat} (hc : n + m ≤ cap) {w' : World}
    (hst : ∀ a, base = some a → (storeCells (a.add (n * i.size)) cnew.toList).run P w = .ok () w') (hno : base = none → w' = w) :
    (Builtin.append_ #[t, u] ty #[.slice base n cap, cx]).run P w = .ok (.slice base (n + m) cap) w' := by
  have hzer : (match du with | .int _ => true | _ => false) = false := by
    cases du <;> first | rfl | (rename_i k; exact absurd rfl (hni k))
  cases base with
  | none =>
    obtain rfl := hno rfl
    simp [Builtin.append_, run_underlying hu, run_underlying hxu, g.runSize, hl, hf, hc, hzer]
  | some a =>
    have := hst a rfl
    simp [Builtin.append_, run_underlying hu, run_underlying hxu, g.runSize, hl, hf, hc, hzer, this]

theorem zeroCells_size (z : Array Value) (n : Nat) : (Builtin.zeroCells z n).size = n * z.size := by simp [Builtin.zeroCells]

theorem run_append_new {t u ty e : TypeId} {du : TypeDesc} {i : TI} {d : TypeDesc} {j : TypeInfo} {z : Value} (hu : P.underlying t = some (.slice e)) (g : TIFacts P e i d j z)
    (hxu : P.underlying u = some du) (hni : ∀ k, du ≠ .int k) (hby : i.bytes ≤ 256) {cx : Value} {m : Nat} {cnew cold : Array Value} (hl : (Builtin.lenOf cx).run P w = .ok m w)
    (hf : (Builtin.firstCells i.size m cx).run P w.drew = .ok cnew w.drew) {base : Option Addr} {n cap : Nat} (hc : cap < n + m) (hbig : n + m < 274877906944)
    (ho : (Builtin.firstCells i.size n (.slice base n cap)).run P w.drew = .ok cold w.drew) :
    ∃ newCap, n + m ≤ newCap ∧ (Builtin.append_ #[t, u] ty #[.slice base n cap, cx]).run P w =
      .ok (.slice (some ⟨w.heap.size, 0, none⟩) (n + m) newCap) (w.drew.alloc (.cells (cold ++ cnew ++ Builtin.zeroCells z.cells (newCap - (n + m))) e)) := by
  have hzer : (match du with | .int _ => true | _ => false) = false := by
    cases du <;> first | rfl | (rename_i k; exact absurd rfl (hni k))
  have h1 : Builtin.nextslicecap (n + m) cap * j.bytes ≤ 2 ^ 48 := by
    have a := nextcap_le (n + m) cap hc
    have b : j.bytes ≤ 256 := by rw [g.bytes]; exact hby
    calc Builtin.nextslicecap (n + m) cap * j.bytes ≤ (2 * (n + m) + 768) * 256 := Nat.mul_le_mul a b
      _ ≤ 2 ^ 48 := by omega
  refine ⟨grownCap w (n + m) cap e, grownCap_ge w (n + m) cap e, ?_⟩
  have hq : (Question.appendCap (n + m) cap e).forced = false := rfl
  have hgc : (Question.appendCap (n + m) cap e).cut (w.tape w.drawn (.appendCap (n + m) cap e)) = grownCap w (n + m) cap e := rfl
  have hmx : ¬ ((IntKind.i64.max : Int) < ((n + m : Nat) : Int)) := by simp [IntKind.max, IntKind.bits, IntKind.signed]; omega
  simp only [Builtin.append_, List.getElem?_toArray, List.getElem?_cons_zero, List.getElem?_cons_succ, Sem.run_bind, run_underlying hu, Result.andThen_ok, g.runSize, run_underlying hxu, Sem.run_pure]
  simp only [hzer, Bool.false_eq_true, if_false, hl, Result.andThen_ok, Sem.run_bind]
  rw [if_neg (by omega)]
  simp only [Sem.run_bind, g.runInfo, Result.andThen_ok, Sem.run_pure, false_or]
  rw [if_neg (by intro hh; exact hmx hh.1)]
  simp only [Sem.run_bind, g.runInfo, Result.andThen_ok, Sem.run_pure]
  rw [if_neg (by omega)]
  simp only [Sem.run_bind, g.runInfo, Result.andThen_ok, Sem.run_pure, run_choose, hq, Bool.false_eq_true, if_false, hgc, run_askRoom, World.drew_eq, ho, hf, Bool.not_false, if_true, g.runZero, run_newRow]
  rfl

theorem LR.length {a b : List Value} (e : LR μ a b) : a.length = b.length := e.1

theorem rd_length {i off n : Nat} {vs : List Value} (e : rd h i off n = some vs) : vs.length = n := by
  unfold rd at e
  split at e
  · split at e
    · obtain rfl := Option.some.inj e
      simp; omega
    · cases e
  · cases e

/-- An append to an object: the heap behind it lies in the world behind the model's append. -/
theorem apd_post (s : Sim P FB w0 μ h w) {id off n k m : Nat} {new : List Value} {h' : AH} (e : apd h id off n k new = some h') (hnew : new.length = m * k) (hone : ∀ v ∈ new, one v = true)
    {l : Loc} (hm : μ id = some l) {cnew : Array Value} (hv : LR μ new cnew.toList) :
    -- in place
    (∀ cap, off + cap * k ≤ l.room → n + m ≤ cap →
      Post P FB w0 μ h (upd μ h.n ⟨l.b, l.o + off, l.room - off⟩) h' (w.setCells l.b (l.o + off + n * k) cnew.toList) ∧
      (∀ j, j < cnew.toList.length → (w.cell? ⟨l.b, l.o + off + n * k + j, none⟩).isSome = true) ∧ (∀ j, j < cnew.toList.length → w.frozen? ⟨l.b, l.o + off + n * k + j, none⟩ = false)) ∧
    -- into a new row
    (∀ (cold : Array Value) (arr : Array Value) (ty : TypeId), cold.size = n * k → (∀ j (a : j < cold.size), w.cell? ⟨l.b, l.o + off + j, none⟩ = some cold[j]) → (∃ rest, arr = cold ++ cnew ++ rest) →
      Post P FB w0 μ h (upd μ h.n ⟨w.heap.size, 0, arr.size⟩) h' (w.alloc (.cells arr ty))) ∧
    -- nothing to write, and no room
    (n + m = 0 → off ≤ l.room → Post P FB w0 μ h (upd μ h.n ⟨l.b, l.o + off, l.room - off⟩) h' w) ∧ off + n * k ≤ l.room := by
  unfold apd at e
  split at e
  · cases e
  · cases e
  · rename_i cs st ln hro hold ho
    have hst : st ≠ .ro := fun hh => hro hh
    have hst2 : st ≠ .old := fun hh => hold hh
    obtain ⟨hfb, hblk, hroom⟩ := s.blk id l cs st ln hm ho hst
    have howni : (h.ob id).own = some ln := by rw [ho]; exact AOb.own_cells hst
    have hlin := s.lin id ln howni
    have hltn := s.ltn howni
    -- what is the same in both ways
    have common : ∀ (h1 : AH), Less h h1 → off + n * k ≤ cs.length → (∀ j lj cj sj nj, μ j = some lj → h1.ob j = .cells cj sj nj → sj ≠ .ro → lj.b = l.b → nj = ln ∧ lj.o + cj.length ≤ l.o + off + n * k) →
        ((∀ j c, h1.ob j ≠ .cells c .tip ln) ∧ (∀ j c, h1.ob j ≠ .cells c .solo ln)) → (∀ i, i < h.n → μ i = none → h1.ob i = h.ob i) → ∀ cs', cs' = (cs.drop off).take (n * k) ++ new →
        (∀ cap, off + cap * k ≤ l.room → n + m ≤ cap →
          Post P FB w0 μ h (upd μ h.n ⟨l.b, l.o + off, l.room - off⟩) (h1.alloc (.cells cs' .tip ln)) (w.setCells l.b (l.o + off + n * k) cnew.toList) ∧
          (∀ j, j < cnew.toList.length → (w.cell? ⟨l.b, l.o + off + n * k + j, none⟩).isSome = true) ∧ (∀ j, j < cnew.toList.length → w.frozen? ⟨l.b, l.o + off + n * k + j, none⟩ = false)) ∧
        (∀ (cold : Array Value) (arr : Array Value) (ty : TypeId), cold.size = n * k → (∀ j (a : j < cold.size), w.cell? ⟨l.b, l.o + off + j, none⟩ = some cold[j]) → (∃ rest, arr = cold ++ cnew ++ rest) →
          Post P FB w0 μ h (upd μ h.n ⟨w.heap.size, 0, arr.size⟩) (h1.alloc (.cells cs' .tip ln)) (w.alloc (.cells arr ty))) ∧
        (n + m = 0 → off ≤ l.room → Post P FB w0 μ h (upd μ h.n ⟨l.b, l.o + off, l.room - off⟩) (h1.alloc (.cells cs' .tip ln)) w) := by
      intro h1 hless hend hin hno hunt cs' hcs'
      have s1 := s.less hless
      have hn1 : h1.n = h.n := hless.n
      have c4 : ∀ j, (h1.ob j).own = some ln → μ j ≠ none := fun j hj => s.linc id j ln howni (hless.own hj) (by rw [hm]; simp)
      have c3' : ln ≤ h1.n := by omega
      have hlen' : cs'.length = n * k + m * k := by rw [hcs']; simp [hnew]; omega
      have c6 : ∀ v ∈ cs', one v = true := fun v hv' => by
        subst hcs'
        rcases List.mem_append.1 hv' with a | a
        · exact s.onec _ _ _ _ ho v (List.mem_of_mem_drop (List.mem_of_mem_take a))
        · exact hone v a
      have hcn : cnew.toList.length = m * k := by rw [← hv.1]; exact hnew
      have lift : ∀ {μ' : Nat → Option Loc} {w' : World}, Post P FB w0 μ h1 μ' (h1.alloc (.cells cs' .tip ln)) w' → Post P FB w0 μ h μ' (h1.alloc (.cells cs' .tip ln)) w' := fun p =>
        ⟨p.sim, p.ext, ⟨by rw [← hn1]; exact p.unt.1, fun i hi hmi => by
          obtain ⟨a, b⟩ := p.unt.2 i (by omega) hmi
          exact ⟨a, by rw [b]; exact hunt i hi hmi⟩⟩⟩
      have hmul : ∀ cap, n + m ≤ cap → n * k + m * k ≤ cap * k := fun cap hc => by rw [← Nat.add_mul]; exact Nat.mul_le_mul_right _ hc
      have samep : ∀ p : Nat, p = l.o + off + n * k → off + n * k + m * k ≤ l.room → Post P FB w0 μ h1 (upd μ h1.n ⟨l.b, l.o + off, l.room - off⟩) (h1.alloc (.cells cs' .tip ln)) (w.setCells l.b p cnew.toList) := by
        intro p hp hrm
        subst hp
        refine s1.addSame hfb hblk (by omega) (by omega) (by omega) (by omega) (fun j lj cj sj nj a b c d => hin j lj cj sj nj a b c d) ?_ ?_ hno c3' c4 c6
        · intro j hj hlo
          obtain ⟨cv, a, b⟩ := s.cell id l cs st ln hm ho (off + j) (by omega)
          refine ⟨cv, by rw [show l.o + off + j = l.o + (off + j) by omega]; exact a, ?_⟩
          have : cs'[j] = cs[off + j]'(by omega) := by
            subst hcs'
            rw [List.getElem_append_left (by simp; omega)]
            simp
          rw [this]; exact b
        · have : cs'.drop (l.o + off + n * k - (l.o + off)) = new := by
            subst hcs'
            rw [show l.o + off + n * k - (l.o + off) = n * k by omega, List.drop_append_of_le_length (by simp; omega)]
            simp
          rw [this]; exact hv
      refine ⟨fun cap hr hc => ?_, fun cold arr ty hsz hcell hrest => ?_, fun hz hr => ?_⟩
      · have hmm := hmul cap hc
        have hp := samep _ rfl (by omega)
        rw [hn1] at hp
        refine ⟨lift hp, fun j hj => ?_, fun j hj => ?_⟩
        · obtain ⟨v, e⟩ := hblk.cell (j := off + n * k + j) (by omega)
          rw [show l.o + off + n * k + j = l.o + (off + n * k + j) by omega, e]; rfl
        · rw [show l.o + off + n * k + j = l.o + (off + n * k + j) by omega]; exact hblk.frozen (by omega)
      · obtain ⟨rest, rfl⟩ := hrest
        have hcs2 : cnew.size = m * k := by simpa using hcn
        have hp := s1.add (cs := cs') (st := .tip) (ln := ln) (arr := cold ++ cnew ++ rest) (e := ty) (fz := (0, 0)) (by simp; omega) (fun j a b => by
          by_cases hj : j < n * k
          · have e1 : (cold ++ cnew ++ rest)[j] = cold[j]'(by omega) := by
              rw [Array.getElem_append_left (by simp; omega), Array.getElem_append_left (by omega)]
            have e2 : cs'[j] = cs[off + j]'(by omega) := by
              subst hcs'
              rw [List.getElem_append_left (by simp; omega)]
              simp
            rw [e1, e2]
            obtain ⟨cv, x, y⟩ := s.cell id l cs st ln hm ho (off + j) (by omega)
            have := hcell j (by omega)
            rw [show l.o + off + j = l.o + (off + j) by omega, x] at this
            obtain rfl := Option.some.inj this
            exact y
          · have e1 : (cold ++ cnew ++ rest)[j] = cnew[j - n * k]'(by omega) := by
              rw [Array.getElem_append_left (by simp; omega), Array.getElem_append_right (by omega)]
              simp [hsz]
            have e2 : cs'[j] = new[j - n * k]'(by omega) := by
              subst hcs'
              rw [List.getElem_append_right (by simp; omega)]
              simp [show min (n * k) (cs.length - off) = n * k by omega]
            rw [e1, e2]
            exact hv.2 (j - n * k) (by omega) (by simp; omega)) (fun j _ hc => by simp at hc) (by simp) (by simp) (fun _ => hno) c3' c4 (.inl rfl) c6
        rw [hn1] at hp
        exact lift hp
      · have h0 : n * k = 0 := by have : n = 0 := by omega
                                  subst this; simp
        have h1' : m * k = 0 := by have : m = 0 := by omega
                                   subst this; simp
        have hp := samep _ rfl (by omega)
        rw [hn1] at hp
        have : cnew.toList = [] := List.eq_nil_of_length_eq_zero (by omega)
        rw [this] at hp
        exact lift hp
    split at e
    · rename_i hend
      obtain rfl := Option.some.inj e
      have hob : ∀ j, j ≠ id → (h.set id (.cells cs .old ln)).ob j = h.ob j := fun j hj => by simp [AH.set, hj]
      have hobi : (h.set id (.cells cs .old ln)).ob id = .cells cs .old ln := by simp [AH.set]
      -- who shares the block ends no later
      have hends : ∀ j lj cj sj nj, μ j = some lj → h.ob j = .cells cj sj nj → sj ≠ .ro → lj.b = l.b → nj = ln ∧ lj.o + cj.length ≤ l.o + cs.length := by
        intro j lj cj sj nj hj oj hsj hb
        have hnl := s.sep j id lj l nj ln hj hm (by rw [oj]; exact AOb.own_cells hsj) howni hb
        subst hnl
        refine ⟨rfl, ?_⟩
        cases st with
        | ro => exact absurd rfl hst
        | old => exact absurd rfl hst2
        | tip => exact s.tip id j l lj cs cj sj nj nj hm hj ho oj hsj hb.symm
        | solo =>
          obtain ⟨e1, hu⟩ := s.solo id cs nj ho
          have := hu j (by rw [oj, ← e1]; exact AOb.own_cells hsj)
          subst this
          rw [hm] at hj; rw [ho] at oj
          obtain rfl := Option.some.inj hj
          simp only [AOb.cells.injEq] at oj
          obtain ⟨rfl, _, _⟩ := oj
          omega
      have hnotip : (∀ j c, (h.set id (.cells cs .old ln)).ob j ≠ .cells c .tip ln) ∧ (∀ j c, (h.set id (.cells cs .old ln)).ob j ≠ .cells c .solo ln) := by
        constructor
        · intro j c hj
          by_cases hji : j = id
          · subst hji; rw [hobi] at hj; cases hj
          · rw [hob j hji] at hj
            cases st with
            | ro => exact absurd rfl hst
            | old => exact absurd rfl hst2
            | tip => exact hji (s.tipu j id c cs ln hj ho)
            | solo =>
              obtain ⟨e1, hu⟩ := s.solo id cs ln ho
              exact hji (hu j (by rw [hj, ← e1]; rfl))
        · intro j c hj
          by_cases hji : j = id
          · subst hji; rw [hobi] at hj; cases hj
          · rw [hob j hji] at hj
            obtain ⟨e1, hu⟩ := s.solo j c ln hj
            exact hji (hu id (by rw [howni, e1])).symm
      have hc := common _ (Less.demote ho hst) (by omega) (fun j lj cj sj nj a b c d => by
        by_cases hji : j = id
        · subst hji
          rw [hobi] at b
          rw [hm] at a
          obtain rfl := Option.some.inj a
          simp only [AOb.cells.injEq] at b
          obtain ⟨rfl, _, rfl⟩ := b
          exact ⟨rfl, by omega⟩
        · rw [hob j hji] at b
          obtain ⟨x, y⟩ := hends j lj cj sj nj a b c d
          exact ⟨x, by omega⟩) hnotip (fun i hi hmi => hob i (fun hh => by subst hh; rw [hm] at hmi; cases hmi)) (cs.drop off ++ new) (by rw [List.take_of_length_le (by simp; omega)])
      exact ⟨hc.1, hc.2.1, hc.2.2, by omega⟩
    · split at e
      · rename_i hlt
        obtain rfl := Option.some.inj e
        have hkill : ∀ j, ((h.kill ln).ob j).own ≠ some ln := fun j hj => by
          by_cases e2 : (h.ob j).own = some ln
          · have : (h.kill ln).ob j = .none := by simp [AH.kill, e2]
            rw [this] at hj; cases hj
          · simp [AH.kill, e2] at hj
        have hc := common _ (Less.kill ln) (by omega) (fun j lj cj sj nj a b c d => by
          exfalso
          have ow : ((h.kill ln).ob j).own = some nj := by rw [b]; exact AOb.own_cells c
          have := s.sep j id lj l nj ln a hm ((Less.kill ln).own ow) howni d
          subst this
          exact hkill j ow) ⟨fun j c hj => hkill j (by rw [hj]; rfl), fun j c hj => hkill j (by rw [hj]; rfl)⟩ (fun i hi hmi => by
            have : (h.ob i).own ≠ some ln := fun e2 => absurd hmi (s.linc id i ln howni e2 (by rw [hm]; simp))
            simp [AH.kill, this]) _ rfl
        exact ⟨hc.1, hc.2.1, hc.2.2, by omega⟩
      · cases e
  · cases e

end Go.Sim
