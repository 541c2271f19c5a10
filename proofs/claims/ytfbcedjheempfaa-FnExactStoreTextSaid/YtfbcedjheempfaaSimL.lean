/- Slices that are read: elements of so many cells each. Conditions: those that each theorem names. -/
import Derived.Test.YtfbcedjheempfaaSimK
set_option linter.unusedVariables false
set_option linter.unusedSimpArgs false
namespace Go.Sim
variable {P : Program} {h : AH}

def Big (h : AH) : Prop := ∀ i, h.n ≤ i → h.ob i = .none
theorem CC.withBig {f : FuncId} {args : List Value} {R : Value → AH → Prop} (hc : Big h → CC P f args h R) : CC P f args h R := fun FB w0 μ w cargs o a K Q s => hc s.big FB w0 μ w cargs o a K Q s
theorem CD.withBig {f : FuncId} {args : List Value} {V : Value} {H : AH} (hc : Big h → CD P f args h V H) : CD P f args h V H := CC.withBig hc
theorem Big.alloc (b : Big h) (o : AOb) : Big (h.alloc o) := fun i hi => by
  have hi' : h.n + 1 ≤ i := hi
  have : i ≠ h.n := by omega
  simp only [AH.alloc, this, if_false]; exact b i (by omega)
theorem Big.set (b : Big h) {j : Nat} (o : AOb) (hj : j < h.n) : Big (h.set j o) := fun i hi => by
  have hi' : h.n ≤ i := hi
  rw [set_ne o (by omega)]; exact b i hi'
theorem rd_some {i off n : Nat} {vs : List Value} (e : rd h i off n = some vs) : h.ob i ≠ .none := fun e' => by rw [rd_eq, e'] at e; cases e
theorem Big.lt (b : Big h) {i off n : Nat} {vs : List Value} (e : rd h i off n = some vs) : i < h.n := Nat.lt_of_not_le (fun hi => rd_some e (b i hi))
theorem Pre.rd {h' : AH} (p : Pre h h') {i : Nat} (hi : i < h.n) (off n : Nat) : rd h' i off n = Sim.rd h i off n := by rw [rd_eq, rd_eq, p.ob i hi]
theorem Pre.rd1 {h' : AH} (p : Pre h h') {i : Nat} (hi : i < h.n) (off : Nat) : rd1 h' i off = Sim.rd1 h i off := by rw [rd1_eq, rd1_eq, p.ob i hi]

/-- A slice whose elements are read, k cells each. -/
def RdE {α : Type} (h : AH) (A : Option Addr) (k : Nat) (enc : α → List Value) (l : List α) : Prop :=
  ∀ i (hi : i < l.length), ∃ id off, A = some ⟨id, off, none⟩ ∧ rd h id (off + i * k) k = some (enc l[i])
theorem RdE.at {α : Type} {A : Option Addr} {k : Nat} {enc : α → List Value} {l : List α} (r : RdE h A k enc l) (b : Big h) {h1 : AH} (p : Pre h h1) {i : Nat} (hi : i < l.length) :
    ∃ id off, A = some ⟨id, off, none⟩ ∧ id < h1.n ∧ rd h1 id (off + i * k) k = some (enc l[i]) := by
  obtain ⟨id, off, e, hr⟩ := r i hi
  have hlt := b.lt hr
  exact ⟨id, off, e, Nat.lt_of_lt_of_le hlt p.n, (p.rd hlt _ _).trans hr⟩
theorem RdE.use {α : Type} {A : Option Addr} {k : Nat} {enc : α → List Value} {l : List α} (r : RdE h A k enc l) (b : Big h) {h1 : AH} (p : Pre h h1) {i : Nat} (hi : i < l.length) {G : Prop}
    (hg : ∀ id off, A = some ⟨id, off, none⟩ → id < h1.n → rd h1 id (off + i * k) k = some (enc l[i]) → G) : G := by
  obtain ⟨id, off, a, b, c⟩ := r.at b p hi
  exact hg id off a b c
theorem RdE.rdAt {α : Type} {id off : Nat} {k : Nat} {enc : α → List Value} {l : List α} (r : RdE h (some ⟨id, off, none⟩) k enc l) (b : Big h) {h1 : AH} (p : Pre h h1) {i : Nat} (hi : i < l.length) : rd h1 id (off + i * k) k = some (enc l[i]) := by
  obtain ⟨id', off', a, _, c⟩ := r.at b p hi
  simp only [Option.some.injEq, Addr.mk.injEq] at a
  obtain ⟨rfl, rfl, _⟩ := a
  exact c
theorem RdE.pre {α : Type} {A : Option Addr} {k : Nat} {enc : α → List Value} {l : List α} (r : RdE h A k enc l) (b : Big h) {h1 : AH} (p : Pre h h1) : RdE h1 A k enc l := fun i hi => by
  obtain ⟨id, off, e, _, hr⟩ := r.at b p hi
  exact ⟨id, off, e, hr⟩
def idsOf (A : Option Addr) : List Nat := match A with | some a => [a.block] | none => []
theorem RdE.kept {α : Type} {A : Option Addr} {k : Nat} {enc : α → List Value} {l : List α} (r : RdE h A k enc l) {h1 : AH} (e : ∀ id ∈ idsOf A, h1.ob id = h.ob id) : RdE h1 A k enc l := fun i hi => by
  obtain ⟨id, off, ea, hr⟩ := r i hi
  subst ea
  exact ⟨id, off, rfl, by rw [← hr, rd_eq, rd_eq, e id (by simp [idsOf])]⟩
theorem RdE.nil {α : Type} (A : Option Addr) (k : Nat) (enc : α → List Value) : RdE h A k enc [] := fun i hi => absurd hi (Nat.not_lt_zero i)
theorem rd_len {i off n : Nat} {vs : List Value} (e : rd h i off n = some vs) : vs.length = n := by
  rw [rd_eq] at e
  unfold rdO at e
  split at e
  · split at e
    · simp only [Option.some.injEq] at e; subst e; simp; omega
    · cases e
  · cases e
theorem rd_rd1 {i off n : Nat} {vs : List Value} (e : rd h i off n = some vs) {j : Nat} (hj : j < n) : rd1 h i (off + j) = vs[j]? := by
  rw [rd_eq] at e
  rw [rd1_eq]
  unfold rdO at e
  unfold rd1O
  split at e
  · rename_i cs st ln ho
    split at e
    · simp only [Option.some.injEq] at e; subst e
      simp [List.getElem?_take, hj]
    · cases e
  · cases e
theorem rd_1 {i off : Nat} {a : Value} (e : rd h i off 1 = some [a]) : rd1 h i off = some a := rd_rd1 e (j := 0) (by omega)
theorem rd_2 {i off : Nat} {a b : Value} (e : rd h i off 2 = some [a, b]) : rd1 h i off = some a ∧ rd1 h i (off + 1) = some b := ⟨rd_rd1 e (j := 0) (by omega), rd_rd1 e (j := 1) (by omega)⟩
theorem rd_3 {i off : Nat} {a b c : Value} (e : rd h i off 3 = some [a, b, c]) : rd1 h i off = some a ∧ rd1 h i (off + 1) = some b ∧ rd1 h i (off + 2) = some c :=
  ⟨rd_rd1 e (j := 0) (by omega), rd_rd1 e (j := 1) (by omega), rd_rd1 e (j := 2) (by omega)⟩
theorem rd_4 {i off : Nat} {a b c d : Value} (e : rd h i off 4 = some [a, b, c, d]) : rd1 h i off = some a ∧ rd1 h i (off + 1) = some b ∧ rd1 h i (off + 2) = some c ∧ rd1 h i (off + 3) = some d :=
  ⟨rd_rd1 e (j := 0) (by omega), rd_rd1 e (j := 1) (by omega), rd_rd1 e (j := 2) (by omega), rd_rd1 e (j := 3) (by omega)⟩

/-- All numbers below n. -/
def allN (n : Nat) (p : Nat → Bool) : Bool := (List.range n).all p
theorem allN_iff {n : Nat} {p : Nat → Bool} : allN n p = true ↔ ∀ i, i < n → p i = true := by simp [allN]
theorem allN_false {n : Nat} {p : Nat → Bool} {i : Nat} (hi : i < n) (e : p i = false) : allN n p = false := by
  cases h : allN n p with
  | false => rfl
  | true => have := allN_iff.1 h i hi; rw [e] at this; cases this
theorem allTo_succ {p : Nat → Bool} {i : Nat} (h : ∀ j, j < i → p j = true) (e : p i = true) : ∀ j, j < i + 1 → p j = true := fun j hj => by
  rcases Nat.lt_succ_iff_lt_or_eq.1 hj with h1 | h1
  · exact h j h1
  · subst h1; exact e
theorem allTo_zero {p : Nat → Bool} : ∀ j, j < 0 → p j = true := fun j hj => absurd hj (Nat.not_lt_zero j)
theorem wrapPred {n : Nat} (h0 : 0 < n) (h : n ≤ 9223372036854775807) : IntKind.i64.wrap ((n : Int) - 1) = ((n - 1 : Nat) : Int) := by rw [w64 (by omega) (by omega)]; omega
theorem nameB (n : ByteArray) {G : Prop} (k : ∀ N, N = n → G) : G := k n rfl
theorem nameN (n : Nat) {G : Prop} (k : ∀ N, N = n → G) : G := k n rfl
theorem Pre.keep {h' : AH} (p : Pre h h') : Keep h.n h h' := p.ob
theorem Keep.toPre {h' : AH} (k : Keep h.n h h') (e : h.n ≤ h'.n) : Pre h h' := ⟨e, k⟩

/-- A function of the model's own. -/
theorem CC.ext {f : FuncId} {args : List Value} {R : Value → AH → Prop} {V : Value} (hl : ∀ (v : Value) (hv : v ∈ args), isPlain v = true)
    (hr : ∀ w : World, (callFunc f args.toArray).run P w = .ok (.value V) w) (hV : isPlain V = true) (hR : R V h) : CC P f args h R := by
  intro FB w0 μ w cargs o a K Q s ha hk
  have key : ∀ v c, isPlain v = true → VR μ v c → v = c := by
    intro v c hp hv
    cases hv with
    | plain _ _ => rfl
    | agg a a' hs e => simp [isPlain] at hp
    | tuple a a' hs e =>
      simp [isPlain] at hp; subst hp
      have : a' = #[] := by apply Array.eq_empty_of_size_eq_zero; simpa using hs.symm
      subst this; rfl
    | _ => simp [isPlain] at hp
  have e : cargs = args.toArray := by
    apply Array.toList_inj.1
    apply List.ext_getElem ha.1.symm
    intro j x y
    exact (key _ _ (hl _ (List.getElem_mem y)) (ha.2 j y x)).symm
  subst e
  rw [hr w]
  exact hk V h μ V w hR s.post (.plain V hV)
end Go.Sim
