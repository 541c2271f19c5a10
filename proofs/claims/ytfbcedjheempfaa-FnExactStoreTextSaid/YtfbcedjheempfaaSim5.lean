/- Operations that touch no memory, literals, makes and cuts. Conditions: those that each theorem names. -/
import Derived.Test.YtfbcedjheempfaaSim4
set_option linter.unusedVariables false
set_option linter.unusedSimpArgs false
namespace Go.Sim
variable {P : Program} {FB : Nat → Prop} {w0 : World} {μ : Nat → Option Loc} {h : AH} {w : World}

theorem VR.ptrOf {i off : Nat} {c : Value} (hv : VR μ (.pointer (some ⟨i, off, none⟩)) c) : ∃ l, μ i = some l ∧ c = .pointer (some ⟨l.b, l.o + off, none⟩) := by
  cases hv with
  | ptr _ _ l hm => exact ⟨l, hm, rfl⟩
  | plain _ hq => simp [isPlain] at hq
theorem VR.aggOf {a : Array Value} {c : Value} (hv : VR μ (.agg a) c) : ∃ a', c = .agg a' ∧ AR μ a a' := by
  cases hv with
  | agg _ a' hs e => exact ⟨a', rfl, hs, e⟩
  | plain _ hq => simp [isPlain] at hq
theorem VR.tupleOf {a : Array Value} {c : Value} (hv : VR μ (.tuple a) c) : ∃ a', c = .tuple a' ∧ AR μ a a' := by
  cases hv with
  | tuple _ a' hs e => exact ⟨a', rfl, hs, e⟩
  | plain _ hq =>
    have : a = #[] := by simpa [isPlain] using hq
    subst this
    exact ⟨#[], rfl, rfl, fun j p => by simp at p⟩

/-! ### fields -/
theorem fi_facts {t : TypeId} {f fo sz : Nat} {ag : Bool} (e : fi P t f = some (fo, sz, ag)) :
    ∃ fs fd i, P.underlying t = some (.struct fs) ∧ fs[f]? = some fd ∧ fd.offset = fo ∧ ti P fd.type = some i ∧ i.size = sz ∧ i.agg = ag := by
  unfold fi at e
  split at e
  · rename_i fs hu
    split at e
    · rename_i fd hf
      cases ht : ti P fd.type with
      | none => rw [ht] at e; cases e
      | some i =>
        rw [ht] at e
        simp at e
        exact ⟨fs, fd, i, hu, hf, e.1, ht, e.2.1, e.2.2⟩
    · cases e
  · cases e

def afieldAddr (P : Program) (t : TypeId) (p : Value) (f : Nat) (K : Value → Prop) : Prop :=
  match fi P t f, p with
  | some (fo, sz, _), .pointer (some ⟨id, off, Option.none⟩) => sz ≠ 0 ∧ K (.pointer (some ⟨id, off + fo, none⟩))
  | _, _ => False
theorem afieldAddr_sound {t : TypeId} {x : Operand} {f : Nat} {ρ : Operand → Value} {K : Value → Prop} (hk : afieldAddr P t (ρ x) f K) :
    ∃ v, AIns P (fun σ => Instr.fieldAt t (σ x) f) [x] ρ h v h ∧ K v := by
  unfold afieldAddr at hk
  split at hk
  · rename_i fo sz ag id off he hp
    obtain ⟨hz, hk⟩ := hk
    refine ⟨_, AIns.quiet (fun FB w0 μ σ w s hx => ?_), hk⟩
    obtain ⟨fs, fd, i, hu, hf, rfl, ht, rfl, _⟩ := fi_facts he
    obtain ⟨d, j, z, g⟩ := ti_facts ht
    have hv := hx x (by simp)
    rw [hp] at hv
    obtain ⟨l, hm, hc⟩ := hv.ptrOf
    refine ⟨.pointer (some ⟨l.b, l.o + off + fd.offset, none⟩), ?_, ?_⟩
    · simp [Instr.fieldAt, run_underlying hu, hf, hc, Instr.sureAddr, fieldPlace, g.runSize, hz, add_none]
    · rw [Nat.add_assoc]; exact .ptr _ _ l hm
  · exact hk.elim

def afield (P : Program) (t : TypeId) (v : Value) (f : Nat) (K : Value → Prop) : Prop :=
  match fi P t f, v with
  | some (fo, sz, ag), .agg cs =>
    if ag then K (.agg (cs.extract fo (fo + sz))) else (match cs[fo]? with | some c => K c | none => False)
  | _, _ => False
theorem AR.extract {a b : Array Value} (e : AR μ a b) (i j : Nat) : AR μ (a.extract i j) (b.extract i j) := by
  refine ⟨by simp [e.1], fun k p q => ?_⟩
  simp only [Array.size_extract] at p q
  rw [Array.getElem_extract, Array.getElem_extract]
  exact e.2 _ _ _
theorem afield_sound {t : TypeId} {x : Operand} {f : Nat} {ρ : Operand → Value} {K : Value → Prop} (hk : afield P t (ρ x) f K) :
    ∃ v, AIns P (fun σ => Instr.field t (σ x) f) [x] ρ h v h ∧ K v := by
  unfold afield at hk
  split at hk
  · rename_i fo sz ag cs he hp
    obtain ⟨fs, fd, i, hu, hf, rfl, ht, rfl, rfl⟩ := fi_facts he
    obtain ⟨d, j, z, g⟩ := ti_facts ht
    split at hk
    · rename_i hag
      refine ⟨_, AIns.quiet (fun FB w0 μ σ w s hx => ?_), hk⟩
      have hv := hx x (by simp)
      rw [hp] at hv
      obtain ⟨a', hc, ha⟩ := hv.aggOf
      refine ⟨.agg (a'.extract fd.offset (fd.offset + i.size)), ?_, ?_⟩
      · simp [Instr.field, run_underlying hu, hf, hc, asAgg, part, g.runAgg, hag, g.runSize]
      · have := ha.extract fd.offset (fd.offset + i.size); exact .agg _ _ this.1 this.2
    · rename_i hag
      split at hk
      · rename_i c hcc
        refine ⟨_, AIns.quiet (fun FB w0 μ σ w s hx => ?_), hk⟩
        have hv := hx x (by simp)
        rw [hp] at hv
        obtain ⟨a', hc, ha⟩ := hv.aggOf
        obtain ⟨hb, rfl⟩ := Array.getElem?_eq_some_iff.1 hcc
        have hb' : fd.offset < a'.size := by rw [← ha.1]; exact hb
        refine ⟨a'[fd.offset], ?_, ha.2 _ hb hb'⟩
        have hag' : i.agg = false := by simpa using hag
        simp [Instr.field, run_underlying hu, hf, hc, asAgg, part, g.runAgg, hag', hb']
      · exact hk.elim
  · exact hk.elim

/-! ### an element's address; a byte of a string -/
theorem si_facts {t e : TypeId} {i : TI} (he : si P t = some (e, i)) : P.underlying t = some (.slice e) ∧ ti P e = some i := by
  unfold si at he
  split at he
  · rename_i e' hu
    cases ht : ti P e' with
    | none => rw [ht] at he; cases he
    | some j =>
      rw [ht] at he
      simp at he
      obtain ⟨rfl, rfl⟩ := he
      exact ⟨hu, ht⟩
  · cases he

def aindexAddr (P : Program) (t : TypeId) (x ix : Value) (K : Value → Prop) : Prop :=
  match si P t, x, ix with
  | some (_, i), .slice (some ⟨id, off, Option.none⟩) n _, .int _ j => 0 ≤ j ∧ j < (n : Int) ∧ K (.pointer (some ⟨id, off + j.toNat * i.size, none⟩))
  | _, _, _ => False
theorem aindexAddr_sound {t : TypeId} {x y : Operand} {ρ : Operand → Value} {K : Value → Prop} (hk : aindexAddr P t (ρ x) (ρ y) K) :
    ∃ v, AIns P (fun σ => Instr.indexAt t (σ x) (σ y)) [x, y] ρ h v h ∧ K v := by
  unfold aindexAddr at hk
  split at hk
  · rename_i e i id off n k ik j he hp hq
    obtain ⟨h0, h1, hk⟩ := hk
    refine ⟨_, AIns.quiet (fun FB w0 μ σ w s hx => ?_), hk⟩
    obtain ⟨hu, ht⟩ := si_facts he
    obtain ⟨d, j', z, g⟩ := ti_facts ht
    have hv := hx x (by simp)
    have hi := hx y (by simp)
    rw [hp] at hv; rw [hq] at hi
    have hi := hi.int
    generalize hcx : σ x = cx at hv
    cases hv with
    | plain _ hq => simp [isPlain] at hq
    | slz => simp at h1; omega
    | sl _ _ _ _ cap l hm hn hr =>
      refine ⟨.pointer (some ⟨l.b, l.o + off + j.toNat * i.size, none⟩), ?_, ?_⟩
      · simp [Instr.indexAt, hi, asIntOf, run_underlying hu, hcx, h0, h1, g.runSize, add_none]
      · rw [Nat.add_assoc]; exact .ptr _ _ l hm
  · exact hk.elim

def byteAt (s : ByteArray) (i : Nat) : UInt8 := s.data.getD i 0
def aindex (P : Program) (t : TypeId) (x ix : Value) (K : Value → Prop) : Prop :=
  match x, ix with
  | .string s, .int _ j => P.underlying t = some .string ∧ 0 ≤ j ∧ j < (s.size : Int) ∧ K (.int .u8 (byteAt s j.toNat).toNat)
  | _, _ => False
theorem aindex_sound {t : TypeId} {x y : Operand} {ρ : Operand → Value} {K : Value → Prop} (hk : aindex P t (ρ x) (ρ y) K) :
    ∃ v, AIns P (fun σ => Instr.index t (σ x) (σ y)) [x, y] ρ h v h ∧ K v := by
  unfold aindex at hk
  split at hk
  · rename_i s ik j hp hq
    obtain ⟨hu, h0, h1, hk⟩ := hk
    refine ⟨_, AIns.quiet (fun FB w0 μ σ w s' hx => ?_), hk⟩
    have hv := hx x (by simp)
    have hi := hx y (by simp)
    rw [hp] at hv; rw [hq] at hi
    have hv := hv.string
    have hi := hi.int
    refine ⟨_, ?_, .plain _ rfl⟩
    have hlt : j.toNat < s.size := by omega
    have hb : s[j.toNat]? = some (byteAt s j.toNat) := by
      have e1 : s[j.toNat]? = some (s[j.toNat]'hlt) := by simp [getElem?_pos, hlt]
      rw [e1]
      have hlt2 : j.toNat < s.data.size := hlt
      simp only [byteAt, Array.getD, hlt2, dif_pos]
      rfl
    simp [Instr.index, hi, hv, asIntOf, run_underlying hu, h0, hb]
  · exact hk.elim

/-! ### cuts -/
def bnd (o : Option Value) (d : Nat) : Option Int :=
  match o with
  | none => some d
  | some (.int _ n) => some n
  | _ => none
/-- A cut of a string or a slice (of a slice: within its length). -/
def acut (P : Program) (t : TypeId) (x : Value) (lo hi mx : Option Value) (K : Value → Prop) : Prop :=
  match x with
  | .string s => P.underlying t = some .string ∧ mx.isNone = true ∧
    (match bnd lo 0, bnd hi s.size with
     | some l, some u => 0 ≤ l ∧ l ≤ u ∧ u ≤ (s.size : Int) ∧ K (.string (s.extract l.toNat u.toNat))
     | _, _ => False)
  | .slice (some ⟨id, off, Option.none⟩) n k =>
    (match si P t with
     | some (_, i) => k = i.size ∧ (mx.isSome = true → hi.isSome = true) ∧
       (match bnd lo 0, bnd hi n, bnd mx n with
        | some l, some u, some m => 0 ≤ l ∧ l ≤ u ∧ u ≤ (n : Int) ∧ (mx.isSome = true → u ≤ m ∧ m ≤ (n : Int)) ∧ K (.slice (some ⟨id, off + l.toNat * i.size, none⟩) (u.toNat - l.toNat) k)
        | _, _, _ => False)
     | none => False)
  | .slice Option.none 0 k =>
    (match si P t with
     | some _ => mx.isNone = true ∧ (match bnd lo 0, bnd hi 0 with
       | some l, some u => l = 0 ∧ u = 0 ∧ K (.slice none 0 k)
       | _, _ => False)
     | none => False)
  | _ => False

theorem run_sliceBound {v : Value} {k : IntKind} {i : Int} {y : Nat} (c : BoundsCode) (hv : v = .int k i) (h0 : 0 ≤ i) (h1 : i ≤ y) : (Instr.sliceBound v y c).run P w = .ok i.toNat w := by
  subst hv; simp [Instr.sliceBound, asIntOf, h0, h1]

/-- An operand that may be there. -/
theorem bnd_of {o : Option Operand} {ρ σ : Operand → Value} {d : Nat} {i : Int} (he : bnd (o.map ρ) d = some i) (hv : ∀ x, o = some x → VR μ (ρ x) (σ x)) :
    (o = none ∧ i = d) ∨ ∃ x k, o = some x ∧ σ x = .int k i := by
  cases o with
  | none => simp [bnd] at he; exact .inl ⟨rfl, he.symm⟩
  | some x =>
    have := hv x rfl
    simp only [Option.map_some] at he
    unfold bnd at he
    split at he
    · rename_i hh; cases hh
    · rename_i k n hh
      simp at hh he
      rw [hh] at this
      subst he
      exact .inr ⟨x, k, rfl, this.int⟩
    · cases he

theorem run_sliceBounds {lo hi mx : Option Operand} {σ : Operand → Value} {isS : Bool} {len cap l u m : Nat} (hmx : mx.isSome = true → hi.isSome = true)
    (hl : (lo = none ∧ l = 0) ∨ ∃ x k, lo = some x ∧ σ x = .int k (l : Int)) (hu : (hi = none ∧ u = len) ∨ ∃ x k, hi = some x ∧ σ x = .int k (u : Int))
    (hm : (mx = none ∧ m = cap) ∨ ∃ x k, mx = some x ∧ σ x = .int k (m : Int)) (h1 : l ≤ u) (h2 : u ≤ m) (h3 : m ≤ cap) :
    (Instr.sliceBounds isS len cap (lo.map σ) (hi.map σ) (mx.map σ)).run P w = .ok (l, u, m) w := by
  have b : ∀ {v : Value} {k : IntKind} {i y : Nat} (c : BoundsCode), v = .int k (i : Int) → i ≤ y → (Instr.sliceBound v y c).run P w = .ok i w := fun c hv hy => by
    have := @run_sliceBound P w _ _ _ _ c hv (by omega) (Int.ofNat_le.2 hy)
    simpa using this
  rcases hm with ⟨rfl, rfl⟩ | ⟨xm, km, rfl, em⟩
  · rcases hu with ⟨rfl, rfl⟩ | ⟨xu, ku, rfl, eu⟩
    · rcases hl with ⟨rfl, rfl⟩ | ⟨xl, kl, rfl, el⟩
      · simp [Instr.sliceBounds]
      · simp [Instr.sliceBounds, b _ el h1]
    · rcases hl with ⟨rfl, rfl⟩ | ⟨xl, kl, rfl, el⟩
      · simp [Instr.sliceBounds, b _ eu h2]
      · simp [Instr.sliceBounds, b _ eu h2, b _ el h1]
  · rcases hu with ⟨rfl, rfl⟩ | ⟨xu, ku, rfl, eu⟩
    · simp at hmx
    · rcases hl with ⟨rfl, rfl⟩ | ⟨xl, kl, rfl, el⟩
      · simp [Instr.sliceBounds, b _ em h3, b _ eu h2]
      · simp [Instr.sliceBounds, b _ em h3, b _ eu h2, b _ el h1]

theorem nat_bnd {o : Option Operand} {σ : Operand → Value} {d : Nat} {i : Int} (h0 : 0 ≤ i) (hv : (o = none ∧ i = (d : Int)) ∨ ∃ x k, o = some x ∧ σ x = .int k i) :
    (o = none ∧ i.toNat = d) ∨ ∃ x k, o = some x ∧ σ x = .int k (i.toNat : Int) := by
  rcases hv with ⟨a, b⟩ | ⟨x, k, a, b⟩
  · exact .inl ⟨a, by omega⟩
  · exact .inr ⟨x, k, a, by rw [b]; congr 1; omega⟩

theorem acut_sound {t : TypeId} {x : Operand} {lo hi mx : Option Operand} {ρ : Operand → Value} {K : Value → Prop} (hnp : ∀ n e, P.underlying t ≠ some (.array n e))
    (hk : acut P t (ρ x) (lo.map ρ) (hi.map ρ) (mx.map ρ) K) :
    ∃ v, AIns P (fun σ => Instr.sliceAt t (σ x) (lo.map σ) (hi.map σ) (mx.map σ)) (x :: (lo.toList ++ hi.toList ++ mx.toList)) ρ h v h ∧ K v := by
  unfold acut at hk
  split at hk
  · rename_i s hp
    obtain ⟨hu, hmx, hk⟩ := hk
    split at hk
    · rename_i l u hl hh
      obtain ⟨h0, h1, h2, hk⟩ := hk
      refine ⟨_, AIns.quiet (fun FB w0 μ σ w s' hx => ?_), hk⟩
      have hv := hx x (by simp)
      rw [hp] at hv
      have hv := hv.string
      have hmx' : mx = none := by cases mx <;> simp at hmx ⊢
      subst hmx'
      have hl := nat_bnd h0 (bnd_of hl (fun y hy => hx y (by simp [hy])) (σ := σ))
      have hh := nat_bnd (by omega) (bnd_of hh (fun y hy => hx y (by simp [hy])) (σ := σ))
      have hb := @run_sliceBounds P w lo hi none σ false s.size s.size l.toNat u.toNat s.size (by simp) hl hh (.inl ⟨rfl, rfl⟩) (by omega) (by omega) (Nat.le_refl _)
      simp only [Option.map_none] at hb
      exact ⟨_, by simp [Instr.sliceAt, run_underlying hu, Instr.slice, hv, hb], .plain _ rfl⟩
    · exact hk.elim
  · rename_i id off n k hp
    split at hk
    · rename_i e i hs
      obtain ⟨rfl, hmh, hk⟩ := hk
      obtain ⟨hu, ht⟩ := si_facts hs
      obtain ⟨d, j', z, g⟩ := ti_facts ht
      split at hk
      · rename_i l u m hl hh hm'
        obtain ⟨h0, h1, h2, h3, hk⟩ := hk
        refine ⟨_, AIns.quiet (fun FB w0 μ σ w s' hx => ?_), hk⟩
        have hv := hx x (by simp)
        rw [hp] at hv
        have hl := nat_bnd h0 (bnd_of hl (fun y hy => hx y (by simp [hy])) (σ := σ))
        have hh := nat_bnd (by omega) (bnd_of hh (fun y hy => hx y (by simp [hy])) (σ := σ))
        have hmh' : mx.isSome = true → hi.isSome = true := by simpa using hmh
        generalize hcx : σ x = cx at hv
        -- the cut's end of room
        have main : ∀ (A : Option Addr) (cap : Nat), n ≤ cap → ∃ m', m' ≤ cap ∧ u.toNat ≤ m' ∧ (Instr.sliceBounds true n cap (lo.map σ) (hi.map σ) (mx.map σ)).run P w = .ok (l.toNat, u.toNat, m') w := by
          intro A cap hcap
          cases mx with
          | none =>
            exact ⟨cap, Nat.le_refl _, by omega, @run_sliceBounds P w lo hi none σ true n cap l.toNat u.toNat cap (by simp) hl hh (.inl ⟨rfl, rfl⟩) (by omega) (by omega) (Nat.le_refl _)⟩
          | some y =>
            obtain ⟨h31, h32⟩ := h3 (by simp)
            have hm2 := bnd_of hm' (fun y' hy => hx y' (by simp [hy])) (σ := σ)
            rcases hm2 with ⟨hh2, _⟩ | ⟨y', ky, hy', ey⟩
            · cases hh2
            · obtain rfl := Option.some.inj hy'
              exact ⟨m.toNat, by omega, by omega, @run_sliceBounds P w lo hi (some y) σ true n cap l.toNat u.toNat m.toNat hmh' hl hh (.inr ⟨y, ky, rfl, by rw [ey]; congr 1; omega⟩) (by omega) (by omega) (by omega)⟩
        cases hv with
        | plain _ hq => simp [isPlain] at hq
        | slz _ _ _ lc hm ho A' =>
          obtain ⟨m', q1, q2, q3⟩ := main A' 0 (Nat.le_refl _)
          have hz : l.toNat = 0 ∧ u.toNat = 0 ∧ m' = 0 := by omega
          refine ⟨.slice A' 0 0, ?_, ?_⟩
          · simp [Instr.sliceAt, run_underlying hu, Instr.slice, hcx, q3, hz, g.runSize]
          · rw [hz.1, hz.2.1]; simp; exact .slz _ _ _ lc hm ho A'
        | sl _ _ _ _ cap lc hm hn hr =>
          obtain ⟨m', q1, q2, q3⟩ := main (some ⟨lc.b, lc.o + off, none⟩) cap hn
          have hmul : l.toNat * i.size + (m' - l.toNat) * i.size ≤ cap * i.size := by rw [← Nat.add_mul]; exact Nat.mul_le_mul_right _ (by omega)
          by_cases hml : m' = l.toNat
          · refine ⟨.slice (some ⟨lc.b, lc.o + off, none⟩) 0 0, ?_, ?_⟩
            · have : u.toNat = l.toNat := by omega
              simp [Instr.sliceAt, run_underlying hu, Instr.slice, hcx, q3, hml, g.runSize, this]
            · have : u.toNat - l.toNat = 0 := by omega
              rw [this]
              exact .slz _ _ _ lc hm (by omega) _
          · refine ⟨.slice (some ⟨lc.b, lc.o + off + l.toNat * i.size, none⟩) (u.toNat - l.toNat) (m' - l.toNat), ?_, ?_⟩
            · simp [Instr.sliceAt, run_underlying hu, Instr.slice, hcx, q3, hml, g.runSize, add_none]
            · rw [Nat.add_assoc]; exact .sl _ _ _ _ _ lc hm (by omega) (by omega)
      · exact hk.elim
    · exact hk.elim
  · rename_i k hp
    split at hk
    · rename_i ei hs
      obtain ⟨e, i⟩ := ei
      obtain ⟨hmx, hk⟩ := hk
      obtain ⟨hu, ht⟩ := si_facts hs
      obtain ⟨d, j', z, g⟩ := ti_facts ht
      have hmx' : mx = none := by cases mx <;> simp at hmx ⊢
      subst hmx'
      split at hk
      · rename_i l u hl hh
        obtain ⟨rfl, rfl, hk⟩ := hk
        refine ⟨_, AIns.quiet (fun FB w0 μ σ w s' hx => ?_), hk⟩
        have hv := hx x (by simp)
        rw [hp] at hv
        have hl := nat_bnd (by omega) (bnd_of hl (fun y hy => hx y (by simp [hy])) (σ := σ))
        have hh := nat_bnd (by omega) (bnd_of hh (fun y hy => hx y (by simp [hy])) (σ := σ))
        generalize hcx : σ x = cx at hv
        cases hv with
        | plain _ hq => simp [isPlain] at hq
        | sl0 A' _ =>
          have hb := @run_sliceBounds P w lo hi none σ true 0 0 0 0 0 (by simp) hl hh (.inl ⟨rfl, rfl⟩) (by omega) (by omega) (Nat.le_refl _)
          simp only [Option.map_none] at hb
          refine ⟨.slice A' 0 0, ?_, .sl0 _ _⟩
          simp [Instr.sliceAt, run_underlying hu, Instr.slice, hcx, hb, g.runSize]
      · exact hk.elim
    · exact hk.elim
  · exact hk.elim

/-! ### numbers, bools, strings -/
def abin (op : BinOp) (x y : Value) (K : Value → Prop) : Prop :=
  match op, x, y with
  | .shl, .int k a, .int _ b => 0 ≤ b ∧ K (.int k (k.wrap (a * 2 ^ (min b.toNat k.bits))))
  | .shr, .int k a, .int _ b => 0 ≤ b ∧ K (.int k (a.fdiv (2 ^ (min b.toNat k.bits))))
  | .add, .int k a, .int k' b => k = k' ∧ K (.int k (k.wrap (a + b)))
  | .sub, .int k a, .int k' b => k = k' ∧ K (.int k (k.wrap (a - b)))
  | .mul, .int k a, .int k' b => k = k' ∧ K (.int k (k.wrap (a * b)))
  | .quo, .int k a, .int k' b => k = k' ∧ b ≠ 0 ∧ K (.int k (k.wrap (a.tdiv b)))
  | .rem, .int k a, .int k' b => k = k' ∧ b ≠ 0 ∧ K (.int k (a.tmod b))
  | .and, .int k a, .int k' b => k = k' ∧ K (.int k (k.wrap (BitVec.ofInt k.bits a &&& BitVec.ofInt k.bits b).toNat))
  | .or, .int k a, .int k' b => k = k' ∧ K (.int k (k.wrap (BitVec.ofInt k.bits a ||| BitVec.ofInt k.bits b).toNat))
  | .xor, .int k a, .int k' b => k = k' ∧ K (.int k (k.wrap (BitVec.ofInt k.bits a ^^^ BitVec.ofInt k.bits b).toNat))
  | .eql, .int k a, .int k' b => k = k' ∧ K (.bool (decide (a = b)))
  | .neq, .int k a, .int k' b => k = k' ∧ K (.bool (!decide (a = b)))
  | .lss, .int k a, .int k' b => k = k' ∧ K (.bool (decide (a < b)))
  | .leq, .int k a, .int k' b => k = k' ∧ K (.bool (decide (a ≤ b)))
  | .gtr, .int k a, .int k' b => k = k' ∧ K (.bool (decide (b < a)))
  | .geq, .int k a, .int k' b => k = k' ∧ K (.bool (decide (b ≤ a)))
  | .add, .string a, .string b => a.size + b.size < 4611686018427387904 ∧ K (.string (a ++ b))
  | .eql, .string a, .string b => K (.bool (decide (a = b)))
  | .neq, .string a, .string b => K (.bool (!decide (a = b)))
  | .lss, .string a, .string b => K (.bool (Op.bytesLess a.toList b.toList))
  | .leq, .string a, .string b => K (.bool (Op.bytesLess a.toList b.toList || decide (a = b)))
  | .gtr, .string a, .string b => K (.bool (!(Op.bytesLess a.toList b.toList || decide (a = b))))
  | .geq, .string a, .string b => K (.bool (!Op.bytesLess a.toList b.toList))
  | _, _, _ => False

theorem toList_inj {a b : ByteArray} : (a.toList == b.toList) = decide (a = b) := by
  rw [Bool.eq_iff_iff]
  simp only [beq_iff_eq, decide_eq_true_eq]
  constructor
  · intro e
    have h1 : ∀ s : ByteArray, s.toList = s.data.toList := fun s => by
      exact ByteArray.toList_eq s
    rw [h1, h1] at e
    cases a; cases b
    congr 1
    exact Array.toList_inj.1 e
  · rintro rfl; rfl

end Go.Sim
