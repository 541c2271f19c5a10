/- Literals, makes, appends and maps. Conditions: those that each theorem names. -/
import Derived.Test.YtfbcedjheempfaaSim6
set_option linter.unusedVariables false
set_option linter.unusedSimpArgs false
namespace Go.Sim
variable {P : Program} {FB : Nat → Prop} {w0 : World} {μ : Nat → Option Loc} {h : AH} {w : World}

/-! ### filling a literal -/
theorem putL_foldl (off : Nat) : ∀ (l : List Value) (k : Nat) (cs : Array Value), ((l.zipIdx k).foldl (fun cs (p : Value × Nat) => cs.setIfInBounds (off + p.2) p.1) cs).toList = putL cs.toList (off + k) l
  | [], _, _ => rfl
  | v :: r, k, cs => by
    rw [List.zipIdx_cons, List.foldl_cons, putL_foldl off r (k + 1), putL]
    simp [Nat.add_assoc]
theorem fill_step (off : Nat) (v : Array Value) (cs : Array Value) : v.zipIdx.foldl (fun cs (p : Value × Nat) => cs.setIfInBounds (off + p.2) p.1) cs = (putL cs.toList off v.toList).toArray := by
  apply Array.toList_inj.1
  rw [← Array.foldl_toList, Array.toList_zipIdx, putL_foldl]
  simp

theorem LR.putL {a b : List Value} (e : LR μ a b) : ∀ {vs cvs : List Value} (o : Nat), LR μ vs cvs → LR μ (Sim.putL a o vs) (Sim.putL b o cvs) := by
  intro vs
  induction vs generalizing a b with
  | nil =>
    intro cvs o hv
    have : cvs = [] := List.eq_nil_of_length_eq_zero (by have := hv.1; simpa using this.symm)
    subst this; exact e
  | cons v r ih =>
    intro cvs o hv
    cases cvs with
    | nil => have := hv.1; simp at this
    | cons c cr => exact ih (e.set o hv.head) (o + 1) hv.tail

/-- The parts of a literal, each at its place; 'pl' gives a part's place and size. -/
def afill (pl : Nat → Option (Nat × Nat)) : List (Nat × Value) → List Value → (List Value → Prop) → Prop
  | [], cs, K => K cs
  | (i, v) :: r, cs, K =>
    match pl i with
    | some (off, size) => v.cells.size = size ∧ v.cells.all one = true ∧ off + size ≤ cs.length ∧ afill pl r (putL cs off v.cells.toList) K
    | none => False

theorem afill_sound {pl pl' : Nat → Option (Nat × Nat)} (hpl : ∀ i p, pl i = some p → pl' i = some p) : ∀ {parts : List (Nat × Value)} {cs : List Value} {K : List Value → Prop}, afill pl parts cs K →
    ∃ r, K r ∧ r.length = cs.length ∧ ((∀ v ∈ cs, one v = true) → ∀ v ∈ r, one v = true) ∧ ∀ (μ : Nat → Option Loc) (parts' : List (Nat × Value)) (cs' : Array Value), parts'.map (·.1) = parts.map (·.1) →
      (∀ j (a : j < parts.length) (b : j < parts'.length), VR μ parts[j].2 parts'[j].2) → LR μ cs cs'.toList → ∃ r', Instr.fill pl' cs' parts' = some r' ∧ LR μ r r'.toList
  | [], cs, K, hk => ⟨cs, hk, rfl, fun h => h, fun μ parts' cs' hp _ hc => by
      have : parts' = [] := by simpa using hp
      subst this
      exact ⟨cs', rfl, hc⟩⟩
  | (i, v) :: r, cs, K, hk => by
    unfold afill at hk
    split at hk
    · rename_i off size hi
      obtain ⟨h1, h1', h2, hk⟩ := hk
      obtain ⟨res, hK, hlen, hone, hres⟩ := afill_sound hpl hk
      refine ⟨res, hK, by rw [hlen, putL_length], fun hcs => hone (fun v' hv' => by
        rcases putL_mem _ _ _ _ hv' with a | a
        · exact hcs v' a
        · exact Array.all_eq_true_iff_forall_mem.1 h1' v' (by simpa using a)), fun μ parts' cs' hp hv hc => ?_⟩
      cases parts' with
      | nil => simp at hp
      | cons p' r' =>
        obtain ⟨i', v'⟩ := p'
        simp only [List.map_cons, List.cons.injEq] at hp
        obtain ⟨rfl, hp⟩ := hp
        have hv0 : VR μ v v' := hv 0 (by simp) (by simp)
        have hcl := hv0.cellsLR
        have hcs : cs.length = cs'.size := by simpa using hc.1
        obtain ⟨r2, e1, e2⟩ := hres μ r' (Sim.putL cs'.toList off v'.cells.toList).toArray hp (fun j a b => hv (j + 1) (by simpa using a) (by simpa using b)) (by simpa using hc.putL off hcl.list)
        refine ⟨r2, ?_, e2⟩
        have hsz : v'.cells.size = size := by rw [← hcl.1]; exact h1
        unfold Instr.fill
        simp only [hpl _ _ hi, hsz]
        rw [if_neg (by simp; omega), fill_step]
        exact e1
    · exact hk.elim

def zerosL (n : Nat) (z : List Value) : List Value := (List.range n).map fun i => z.getD (i % z.length) undef
theorem zerosL_length (n : Nat) (z : List Value) : (zerosL n z).length = n := by simp [zerosL]
theorem zerosL_one {z : List Value} (hz : ∀ v ∈ z, zok v = true) (n : Nat) (hn : n = 0 ∨ 0 < z.length) : ∀ v ∈ zerosL n z, one v = true := by
  intro v hv
  simp only [zerosL, List.mem_map, List.mem_range] at hv
  obtain ⟨i, hi, rfl⟩ := hv
  have hlt : i % z.length < z.length := Nat.mod_lt _ (by omega)
  simp only [List.getD, List.getElem?_eq_getElem hlt, Option.getD_some]
  exact zok_one (hz _ (List.getElem_mem hlt))
theorem zeros_LR {z : List Value} (hz : ∀ v ∈ z, zok v = true) (n : Nat) (arr : Array Value) (ha : arr.toList = z) (hn : n = 0 ∨ 0 < z.length) (m : Nat) (hm : n ≤ m) (hm2 : m = 0 ∨ 0 < z.length) :
    ∀ j (a : j < (zerosL n z).length) (b : j < ((Array.range m).map (arr[· % arr.size]!)).size), VR μ (zerosL n z)[j] ((Array.range m).map (arr[· % arr.size]!))[j] := by
  intro j a b
  have hj : j < n := by simpa [zerosL] using a
  have hp : 0 < z.length := by omega
  have hlt : j % z.length < z.length := Nat.mod_lt _ hp
  have e1 : (zerosL n z)[j] = z[j % z.length] := by simp [zerosL, List.getD, hlt]
  have hsz : arr.size = z.length := by rw [← ha]; simp
  have e2 : ((Array.range m).map (arr[· % arr.size]!))[j] = z[j % z.length] := by
    subst ha
    have hlt' : j % arr.size < arr.size := by simpa using hlt
    simp [getElem!_pos, hlt']
  rw [e1, e2]
  exact zok_VR (hz _ (List.getElem_mem hlt)) μ

/-- A literal of a struct. -/
def abuild (P : Program) (t : TypeId) (parts : List (Nat × Value)) (K : Value → Prop) : Prop :=
  match sti P t with
  | some i => afill (fun f => (fi P t f).map fun p => (p.1, p.2.1)) parts i.zero fun cs => K (.agg cs.toArray)
  | none => False

def pv (ρ : Operand → Value) (p : Nat × Operand) : Nat × Value := (p.1, ρ p.2)
theorem parts_of {ps : Array (Nat × Operand)} {ρ σ : Operand → Value} (hv : ∀ x ∈ (ps.toList.map (·.2)), VR μ (ρ x) (σ x)) :
    ((ps.map (pv σ)).toList.map (·.1) = (ps.toList.map (pv ρ)).map (·.1)) ∧
    ∀ j (a : j < (ps.toList.map (pv ρ)).length) (b : j < (ps.map (pv σ)).toList.length), VR μ ((ps.toList.map (pv ρ))[j]).2 ((ps.map (pv σ)).toList[j]).2 := by
  constructor
  · simp [Function.comp_def, pv]
  · intro j a b
    have hj : j < ps.toList.length := by simpa using a
    simp only [List.getElem_map, Array.toList_map]
    exact hv _ (List.mem_map.2 ⟨_, List.getElem_mem hj, rfl⟩)

theorem sti_facts {t : TypeId} {i : TI} (e : sti P t = some i) : ∃ fs, P.underlying t = some (.struct fs) ∧ (∀ f ∈ fs, (P.info? f.type).isSome = true) ∧ ti P t = some i := by
  unfold sti at e
  split at e
  · rename_i fs hu
    split at e
    · rename_i hc
      exact ⟨fs, hu, fun f hf => Array.all_eq_true_iff_forall_mem.1 hc f hf, e⟩
    · cases e
  · cases e

theorem run_mapM_list {α β : Type} (P : Program) (w : World) (f : α → Sem β) (g : α → β) : ∀ (l : List α), (∀ x ∈ l, (f x).run P w = .ok (g x) w) → (l.mapM f).run P w = .ok (l.map g) w
  | [], _ => by simp
  | x :: r, hf => by
    have ih := run_mapM_list P w f g r (fun y hy => hf y (by simp [hy]))
    simp only [List.mapM_cons, Sem.run_bind, hf x (by simp), Result.andThen_ok, ih, Sem.run_pure, List.map_cons]
theorem run_mapM_array {α β : Type} (P : Program) (w : World) (f : α → Sem β) (g : α → β) (xs : Array α) (hf : ∀ x ∈ xs, (f x).run P w = .ok (g x) w) : (xs.mapM f).run P w = .ok (xs.map g) w := by
  rw [Array.mapM_eq_mapM_toList]
  simp only [Sem.run_map]
  rw [run_mapM_list P w f g xs.toList (fun x hx => hf x (by simpa using hx))]
  simp only [Result.andThen_ok]
  congr 1
  apply Array.toList_inj.1; simp

theorem fi_place {t : TypeId} {f fo sz : Nat} {ag : Bool} {fs : Array Field} (hu : P.underlying t = some (.struct fs)) (e : fi P t f = some (fo, sz, ag)) :
    (fs.map fun f => (f.offset, ((P.info? f.type).map (·.size)).getD 0))[f]? = some (fo, sz) := by
  obtain ⟨fs', fd, i, hu', hf, rfl, ht, rfl, _⟩ := fi_facts e
  rw [hu] at hu'
  obtain rfl := TypeDesc.struct.inj (Option.some.inj hu')
  obtain ⟨d, j, z, g⟩ := ti_facts ht
  simp [hf, g.info, g.size]

theorem abuild_sound {t : TypeId} {ps : Array (Nat × Operand)} {ρ : Operand → Value} {K : Value → Prop} (hk : abuild P t (ps.toList.map (pv ρ)) K) :
    ∃ v, AIns P (fun σ => Instr.build t (ps.map (pv σ))) (ps.toList.map (·.2)) ρ h v h ∧ K v := by
  unfold abuild at hk
  split at hk
  · rename_i i hs
    obtain ⟨fs, hu, hall, ht⟩ := sti_facts hs
    obtain ⟨d, j, z, g⟩ := ti_facts ht
    obtain ⟨r, hK, hlen, hone, hres⟩ := afill_sound (pl' := fun f => (fs.map fun f => (f.offset, ((P.info? f.type).map (·.size)).getD 0))[f]?) (fun f p hp => by
      obtain ⟨⟨fo, sz, ag⟩, e, rfl⟩ := Option.map_eq_some_iff.1 hp
      exact fi_place hu e) hk
    refine ⟨_, AIns.quiet (fun FB w0 μ σ w s hx => ?_), hK⟩
    obtain ⟨q1, q2⟩ := parts_of (μ := μ) (ρ := ρ) (σ := σ) (ps := ps) hx
    obtain ⟨r', e1, e2⟩ := hres μ (ps.map (pv σ)).toList z.cells q1 q2 (by rw [g.zc]; exact LR.refl_zok g.zk μ)
    refine ⟨.agg r', ?_, ?_⟩
    · have hpl : (fs.mapM (fun f => (do pure (f.offset, ← sizeOf f.type) : Sem (Nat × Nat)))).run P w = .ok (fs.map fun f => (f.offset, ((P.info? f.type).map (·.size)).getD 0)) w :=
        run_mapM_array P w _ _ fs (fun f hf => by
          obtain ⟨inf, hi⟩ := Option.isSome_iff_exists.1 (hall f hf)
          simp [sizeOf, typeInfo, hi])
      simp only [Instr.build, Sem.run_bind, g.runZero, Result.andThen_ok, run_underlying hu, hpl, e1, Sem.run_pure]
    · have := LR.array (μ := μ) (a := r.toArray) (b := r') (by simpa using e2)
      exact .agg _ _ this.1 this.2
  · exact hk.elim

/-- A literal of a slice. -/
def abuildSlice (P : Program) (h : AH) (t : TypeId) (len : Nat) (parts : List (Nat × Value)) (K : Value → AH → Prop) : Prop :=
  match si P t with
  | some (_, i) => 0 < i.size ∧ len * i.size ≤ 2 ^ 24 ∧
      afill (fun f => some (f * i.size, i.size)) parts (zerosL (len * i.size) i.zero) fun cs => K (.slice (some ⟨h.n, 0, none⟩) len i.size) (h.alloc (.cells cs .solo h.n))
  | none => False

theorem abuildSlice_sound {t : TypeId} {len : Nat} {ps : Array (Nat × Operand)} {ρ : Operand → Value} {K : Value → AH → Prop} (hk : abuildSlice P h t len (ps.toList.map (pv ρ)) K) :
    ∃ v h', AIns P (fun σ => Instr.buildSlice t len (ps.map (pv σ))) (ps.toList.map (·.2)) ρ h v h' ∧ K v h' := by
  unfold abuildSlice at hk
  split at hk
  · rename_i e i hs
    obtain ⟨hpos, hbig, hk⟩ := hk
    obtain ⟨hu, ht⟩ := si_facts hs
    obtain ⟨d, j, z, g⟩ := ti_facts ht
    obtain ⟨r, hK, hlen, hone, hres⟩ := afill_sound (pl' := fun f => some (f * i.size, i.size)) (fun f p hp => hp) hk
    refine ⟨_, _, ?_, hK⟩
    intro FB w0 μ σ w s hx
    obtain ⟨q1, q2⟩ := parts_of (μ := μ) (ρ := ρ) (σ := σ) (ps := ps) hx
    have hzl : i.zero.length = i.size := g.zn
    have key : ∀ zz : Array Value, (len * i.size = 0 ∨ zz.toList = i.zero) → LR μ (zerosL (len * i.size) i.zero) ((Array.range (len * i.size)).map (zz[· % zz.size]!)).toList := by
      intro zz hz
      refine ⟨by simp [zerosL], fun j a b => ?_⟩
      rcases hz with h0 | hz
      · simp [zerosL, h0] at a
      · exact zeros_LR g.zk (len * i.size) zz hz (by omega) (len * i.size) (Nat.le_refl _) (by omega) j a (by simpa using b)
    have hrun : ∀ zz : Array Value, (len * i.size = 0 ∨ zz.toList = i.zero) → ∃ r', Instr.fill (fun f => some (f * i.size, i.size)) ((Array.range (len * i.size)).map (zz[· % zz.size]!)) (ps.map (pv σ)).toList = some r' ∧ LR μ r r'.toList :=
      fun zz hz => hres μ _ _ q1 q2 (key zz hz)
    by_cases h0 : len * i.size = 0
    · obtain ⟨r', e1, e2⟩ := hrun #[] (.inl h0)
      refine ⟨_, .slice (some ⟨w.heap.size, 0, none⟩) len len, _, ?_, new_post s e e2 (hone (zerosL_one g.zk _ (by omega))), ?_⟩
      · simp only [Instr.buildSlice, Sem.run_bind, run_underlying hu, Result.andThen_ok, g.runSize]
        rw [if_neg (by omega)]
        simp only [h0, if_true] at e1 ⊢
        simp only [Sem.run_bind, Sem.run_pure, Result.andThen_ok]
        simp only [Array.size_empty] at e1
        simp only [Array.size_empty, e1]
        simp [run_newRow]
      · have : len = 0 := by
          rcases Nat.mul_eq_zero.1 h0 with a | a
          · exact a
          · omega
        subst this
        have hr : r'.size = 0 := by have := e2.1; simp at this; rw [← this, hlen]; simp [zerosL]
        exact .sl h.n 0 0 i.size 0 _ (upd_same _ _) (Nat.le_refl _) (by simp)
    · obtain ⟨r', e1, e2⟩ := hrun z.cells (.inr g.zc)
      refine ⟨_, .slice (some ⟨w.heap.size, 0, none⟩) len len, _, ?_, new_post s e e2 (hone (zerosL_one g.zk _ (by omega))), ?_⟩
      · simp only [Instr.buildSlice, Sem.run_bind, run_underlying hu, Result.andThen_ok, g.runSize]
        rw [if_neg (by omega), if_neg h0]
        simp only [Sem.run_bind, Sem.run_pure, Result.andThen_ok, g.runZero, e1, run_newRow]
      · have hr : r'.size = len * i.size := by have := e2.1; simp at this; rw [← this, hlen]; simp [zerosL]
        have := VR.sl (μ := upd μ h.n ⟨w.heap.size, 0, r'.size⟩) h.n 0 len i.size len _ (upd_same _ _) (Nat.le_refl _) (by simp only [hr]; omega)
        exact this
  · exact hk.elim

/-- make of a slice. -/
def amake (P : Program) (h : AH) (t : TypeId) (len cap : Value) (K : Value → AH → Prop) : Prop :=
  match si P t, len, cap with
  | some (_, i), .int .i64 n, .int .i64 c =>
    0 < i.size ∧ 0 ≤ n ∧ n ≤ c ∧ c < 274877906944 ∧ i.bytes ≤ 256 ∧ K (.slice (some ⟨h.n, 0, none⟩) n.toNat i.size) (h.alloc (.cells (zerosL (n.toNat * i.size) i.zero) .solo h.n))
  | _, _, _ => False

theorem wrap_id {n : Int} (h0 : 0 ≤ n) (h1 : n < 9223372036854775808) : IntKind.i64.wrap n = n := by
  simp [IntKind.wrap, IntKind.bits, IntKind.signed]; omega

theorem amake_sound {t : TypeId} {x y : Operand} {ρ : Operand → Value} {K : Value → AH → Prop} (hk : amake P h t (ρ x) (ρ y) K) :
    ∃ v h', AIns P (fun σ => Instr.makeSlice t (σ x) (σ y)) [x, y] ρ h v h' ∧ K v h' := by
  unfold amake at hk
  split at hk
  · rename_i e i n c hs hp hq
    obtain ⟨hpos, h0, h1, h2, h3, hk⟩ := hk
    obtain ⟨hu, ht⟩ := si_facts hs
    obtain ⟨d, j, z, g⟩ := ti_facts ht
    refine ⟨_, _, ?_, hk⟩
    intro FB w0 μ σ w s hx
    have hvx := hx x (by simp); rw [hp] at hvx
    have hvy := hx y (by simp); rw [hq] at hvy
    have hbig : (j.bytes : Int) * c ≤ 2 ^ 48 := by
      have : j.bytes ≤ 256 := by rw [g.bytes]; exact h3
      have h4 : (j.bytes : Int) ≤ 256 := by omega
      calc (j.bytes : Int) * c ≤ 256 * c := Int.mul_le_mul_of_nonneg_right h4 (by omega)
        _ ≤ 2 ^ 48 := by omega
    have key : ∀ zz : Array Value, (c.toNat * i.size = 0 ∨ zz.toList = i.zero) →
        Post P FB w0 μ h (upd μ h.n ⟨w.heap.size, 0, ((Array.range (c.toNat * i.size)).map (zz[· % zz.size]!)).size⟩) (h.alloc (.cells (zerosL (n.toNat * i.size) i.zero) .solo h.n)) (w.alloc (.cells ((Array.range (c.toNat * i.size)).map (zz[· % zz.size]!)) e)) := by
      intro zz hz
      have hle : n.toNat * i.size ≤ c.toNat * i.size := Nat.mul_le_mul_right _ (by omega)
      refine s.new (by simp [zerosL]; exact hle) (fun j a b => ?_) (fun j _ hc => by simp at hc) (zerosL_one g.zk _ (by have := g.zn; omega))
      rcases hz with hz | hz
      · simp [zerosL] at a; omega
      · exact zeros_LR g.zk (n.toNat * i.size) zz hz (by have := g.zn; omega) (c.toNat * i.size) hle (by have := g.zn; omega) j a b
    have hv : ∀ zz : Array Value, VR (upd μ h.n ⟨w.heap.size, 0, ((Array.range (c.toNat * i.size)).map (zz[· % zz.size]!)).size⟩) (.slice (some ⟨h.n, 0, none⟩) n.toNat i.size) (.slice (some ⟨w.heap.size, 0, none⟩) n.toNat c.toNat) := by
      intro zz
      have := VR.sl (μ := upd μ h.n ⟨w.heap.size, 0, ((Array.range (c.toNat * i.size)).map (zz[· % zz.size]!)).size⟩) h.n 0 n.toNat i.size c.toNat _ (upd_same _ _) (by omega) (by simp)
      exact this
    have hn : IntKind.i64.wrap n = n := wrap_id h0 (by omega)
    have hc : IntKind.i64.wrap c = c := wrap_id (by omega) (by omega)
    by_cases hz : c.toNat * i.size = 0
    · refine ⟨_, .slice (some ⟨w.heap.size, 0, none⟩) n.toNat c.toNat, _, ?_, key #[] (.inl hz), hv #[]⟩
      simp only [Instr.makeSlice, Sem.run_bind, run_underlying hu, Result.andThen_ok, hvx.int, hvy.int, asInt, asIntOf, Sem.run_pure, g.runInfo, hn, hc]
      rw [if_neg (by simp; omega)]
      simp only [Sem.run_bind, run_askRoom, Result.andThen_ok, g.runSize, hz, if_true, Sem.run_pure, run_newRow, h0]
    · refine ⟨_, .slice (some ⟨w.heap.size, 0, none⟩) n.toNat c.toNat, _, ?_, key z.cells (.inr g.zc), hv z.cells⟩
      simp only [Instr.makeSlice, Sem.run_bind, run_underlying hu, Result.andThen_ok, hvx.int, hvy.int, asInt, asIntOf, Sem.run_pure, g.runInfo, hn, hc]
      rw [if_neg (by simp; omega)]
      simp only [Sem.run_bind, run_askRoom, Result.andThen_ok, g.runSize, hz, if_false, Sem.run_pure, g.runZero, run_newRow]
  · exact hk.elim

end Go.Sim
