/- Parts of the proof of the row: the ground, contracts of the functions that it reaches (P9, P10, SimS, P15, P16, Q1, L1, SimT, L50, SimU, Lay2, Lay3, Lay4, SimV, SimW, SimX, N1, L51, SimZ, N2, P12, P13). Conditions: those that each theorem names. -/
import Derived.Lib.SlicesCompact
import Derived.Shelf.Strings.IndexAnyAll
import Derived.Shelf.Small.Utf8
import Derived.WalkMore
import Derived.Shelf.RegionOpenPlain
import Derived.Sort.Row
import Derived.Sort.Grow
import Derived.Lib.IndexLaws
import Derived.Test.YtciajhpeikemoaaB3
/- Bytes put together are a text. Conditions: those that each theorem names. -/
set_option linter.unusedSimpArgs false
set_option linter.unusedVariables false
namespace Go.Sim
variable {P : Program} {h : AH}
theorem Gr.conv {n0 e : Nat} {v : Value} {bs : List Nat} {K : Value → AH → Prop} (w : Gr n0 h v 1 (VN bs)) (hu : P.underlying e = some (.int .u8)) (hk : K (.string ⟨(bs.map UInt8.ofNat).toArray⟩) h) :
    convT (some (.slice e)) (some .string) P h v K := by
  rcases w with ⟨c, rfl, e2⟩ | ⟨id, off, m, rfl, hb2, ow⟩
  · have : bs = [] := by
      have := congrArg List.length e2
      rw [vn_len] at this
      exact List.eq_nil_of_length_eq_zero (by simpa using this)
    subst this
    exact ⟨hu, hk⟩
  · rw [convT_bs]
    have er := ow.rdAll
    rw [Nat.mul_one] at er
    rw [er]
    simp only [Option.bind_some, VN, toBytes_nat, onS_some]
    exact ⟨hu, hk⟩
theorem bytes_size (bs : List Nat) : (⟨(bs.map UInt8.ofNat).toArray⟩ : ByteArray).size = bs.length := by simp [ByteArray.size]
theorem storeT_size {s : Store} (h : storeOk s = true) : (storeT s).size ≤ 10000000 := by
  have hl := storeOk_len h
  have h1 := varsT_size h s.vars.length (Nat.le_refl _)
  have h2 := cellsT_size h s.cells.length (Nat.le_refl _)
  have h3 := vt_size (n := (s.vars.length : Nat)) (by omega)
  have h4 := vt_size (n := (s.cells.length : Nat)) (by omega)
  have h5 := short_size s.out (by omega)
  simp only [storeT, ByteArray.size_append]
  omega
end Go.Sim
/- Patterns: how a text is read. Conditions: none. -/
set_option linter.unusedSimpArgs false
set_option linter.unusedVariables false
namespace Go.Sim
/-- A piece of a pattern. -/
structure Pc where
  op : Nat
  text : ByteArray
  kids : List Nat
abbrev PRes := Option (Nat × List Pc × Nat)
def isAt (s : ByteArray) (k c : Nat) : Bool := decide (k < s.size) && (byteAt s k).toNat == c
def special (c : Nat) : Bool := [42, 43, 63, 124, 40, 41, 91, 93, 46, 94, 36, 92].contains c
def brk (s : ByteArray) (k : Nat) : Nat := if k < s.size then if (byteAt s k).toNat = 93 then k else brk s (k + 1) else s.size
termination_by s.size - k
def pSet (s : ByteArray) (k : Nat) (out : List Pc) : PRes :=
  let b := if isAt s k 94 then k + 1 else k
  let e := brk s b
  if e = s.size ∨ e = b then none else some (e + 1, out ++ [⟨if isAt s k 94 then 4 else 3, s.extract b e, []⟩], out.length)
def pSingle (s : ByteArray) (k : Nat) (out : List Pc) : PRes :=
  let b := if isAt s k 92 then k + 1 else k
  if b < s.size ∧ isAt s k 92 = special (byteAt s b).toNat then some (b + 1, out ++ [⟨1, s.extract b (b + 1), []⟩], out.length) else none
def pClose (s : ByteArray) : PRes → PRes
  | none => none
  | some (k, o, r) => if isAt s k 41 then some (k + 1, o, r) else none
def pBase (alt : Nat → List Pc → PRes) (s : ByteArray) (k : Nat) (out : List Pc) : PRes :=
  if isAt s k 94 then some (k + 1, out ++ [⟨10, ⟨#[]⟩, []⟩], out.length)
  else if isAt s k 36 then some (k + 1, out ++ [⟨11, ⟨#[]⟩, []⟩], out.length)
  else if isAt s k 46 then some (k + 1, out ++ [⟨2, ⟨#[]⟩, []⟩], out.length)
  else if isAt s k 91 then pSet s (k + 1) out
  else if isAt s k 40 then pClose s (alt (k + 1) out)
  else pSingle s k out
def pStars (s : ByteArray) : Nat → Nat → List Pc → Nat → Nat × List Pc × Nat
  | 0, k, out, r => (k, out, r)
  | g + 1, k, out, r =>
    if isAt s k 42 then pStars s g (k + 1) (out ++ [⟨7, ⟨#[]⟩, [r]⟩]) out.length
    else if isAt s k 43 then pStars s g (k + 1) (out ++ [⟨8, ⟨#[]⟩, [r]⟩]) out.length
    else if isAt s k 63 then pStars s g (k + 1) (out ++ [⟨9, ⟨#[]⟩, [r]⟩]) out.length
    else (k, out, r)
def pThing (alt : Nat → List Pc → PRes) (s : ByteArray) (k : Nat) (out : List Pc) : PRes :=
  match pBase alt s k out with
  | none => none
  | some (k', o', r) => some (pStars s (s.size + 1) k' o' r)
def pStop (s : ByteArray) (k : Nat) : Bool := decide (s.size ≤ k) || isAt s k 124 || isAt s k 41
def pCats (thing : Nat → List Pc → PRes) (s : ByteArray) : Nat → Nat → List Pc → Nat → PRes
  | 0, _, _, _ => none
  | g + 1, k, out, r => if pStop s k then some (k, out, r) else match thing k out with
    | none => none
    | some (k', o', r') => pCats thing s g k' (o' ++ [⟨5, ⟨#[]⟩, [r, r']⟩]) o'.length
def pRow (thing : Nat → List Pc → PRes) (s : ByteArray) (k : Nat) (out : List Pc) : PRes :=
  if pStop s k then some (k, out ++ [⟨12, ⟨#[]⟩, []⟩], out.length) else match thing k out with
    | none => none
    | some (k', o', r) => pCats thing s (s.size + 1) k' o' r
def pBars (row : Nat → List Pc → PRes) (s : ByteArray) : Nat → Nat → List Pc → Nat → PRes
  | 0, _, _, _ => none
  | g + 1, k, out, r => if isAt s k 124 then match row (k + 1) out with
    | none => none
    | some (k', o', r') => pBars row s g k' (o' ++ [⟨6, ⟨#[]⟩, [r, r']⟩]) o'.length
    else some (k, out, r)
def pAlt (s : ByteArray) : Nat → Nat → List Pc → PRes
  | 0, _, _ => none
  | f + 1, k, out => match pRow (pThing (pAlt s f) s) s k out with
    | none => none
    | some (k', o', r) => pBars (pRow (pThing (pAlt s f) s) s) s (s.size + 1) k' o' r
def readP (s : ByteArray) : Option (List Pc) :=
  if 1 ≤ s.size ∧ s.size ≤ 24 then match pAlt s (s.size + 1) 0 [] with
    | none => none
    | some (k, o, _) => if k = s.size then some o else none
  else none

/-! ### what comes of it -/
def kidsN (op : Nat) : Nat := if op = 5 ∨ op = 6 then 2 else if op = 7 ∨ op = 8 ∨ op = 9 then 1 else 0
def textOk (op : Nat) (t : ByteArray) : Prop := if op = 1 then t.size = 1 else if op = 3 ∨ op = 4 then 1 ≤ t.size ∧ t.size ≤ 24 else t.size = 0
structure OkPc (x : Pc) (i : Nat) : Prop where
  op : 1 ≤ x.op ∧ x.op ≤ 12
  text : textOk x.op x.text
  kids : x.kids.length = kidsN x.op
  ahead : ∀ k ∈ x.kids, k < i
def Okp (out : List Pc) : Prop := ∀ i (hi : i < out.length), OkPc out[i] i
theorem Okp.snoc {out : List Pc} {x : Pc} (o : Okp out) (h : OkPc x out.length) : Okp (out ++ [x]) := fun i hi => by
  by_cases e : i < out.length
  · rw [List.getElem_append_left e]; exact o i e
  · have : i = out.length := by rw [List.length_append] at hi; simp at hi; omega
    subst this
    simpa using h
/-- A way on: how far, how many pieces (d less than may be), all right. -/
structure Gd (d : Nat) (s : ByteArray) (k : Nat) (out : List Pc) (k' : Nat) (o' : List Pc) (r : Nat) : Prop where
  le : k ≤ k'
  hi : k' ≤ s.size
  lt : 3 ≤ d → k < k'
  pot : o'.length + 2 * (s.size - k') + d ≤ out.length + 2 * (s.size - k) + 2
  mono : out.length ≤ o'.length
  ok : s.size ≤ 24 → Okp out → Okp o'
  last : r + 1 = o'.length
theorem Gd.one {s : ByteArray} {k k' : Nat} {out : List Pc} {x : Pc} (h1 : k < k') (h2 : k' ≤ s.size) (h3 : s.size ≤ 24 → OkPc x out.length) : Gd 3 s k out k' (out ++ [x]) out.length :=
  ⟨by omega, h2, fun _ => h1, by simp; omega, by simp, fun hz o => o.snoc (h3 hz), by simp⟩
theorem isAt_lt {s : ByteArray} {k c : Nat} (h : isAt s k c = true) : k < s.size := by
  simp only [isAt, Bool.and_eq_true, decide_eq_true_eq] at h; exact h.1
theorem brk_le (s : ByteArray) (k : Nat) : k ≤ s.size → k ≤ brk s k ∧ brk s k ≤ s.size := by
  intro h
  induction hn : s.size - k generalizing k with
  | zero => rw [brk, if_neg (by omega)]; omega
  | succ n ih =>
    rw [brk, if_pos (by omega)]
    split
    · omega
    · have := ih (k + 1) (by omega) (by omega); omega
theorem leaf_ok {op n : Nat} (h : op = 10 ∨ op = 11 ∨ op = 2 ∨ op = 12) : OkPc ⟨op, ⟨#[]⟩, []⟩ n := by
  refine ⟨?_, ?_, ?_, fun k hk => by cases hk⟩ <;> rcases h with rfl | rfl | rfl | rfl <;> first | rfl | (dsimp only; omega)
theorem pSet_gd {s : ByteArray} {k : Nat} {out : List Pc} {k' : Nat} {o' : List Pc} {r : Nat} (hk : k ≤ s.size) (e : pSet s k out = some (k', o', r)) : Gd 3 s k out k' o' r := by
  unfold pSet at e
  simp only at e
  generalize hb : (if isAt s k 94 = true then k + 1 else k) = b at e
  have hb1 : k ≤ b ∧ b ≤ s.size := by
    by_cases hc : isAt s k 94 = true
    · rw [if_pos hc] at hb; have := isAt_lt hc; omega
    · rw [if_neg hc] at hb; omega
  have hbr := brk_le s b hb1.2
  split at e
  · cases e
  · rename_i hn
    simp only [Option.some.injEq, Prod.mk.injEq] at e
    obtain ⟨rfl, rfl, rfl⟩ := e
    refine Gd.one (by omega) (by omega) (fun hz => ⟨?_, ?_, ?_, fun k hk => by cases hk⟩)
    · show 1 ≤ (if isAt s k 94 = true then 4 else 3) ∧ (if isAt s k 94 = true then 4 else 3) ≤ 12
      split <;> omega
    · show textOk (if isAt s k 94 = true then 4 else 3) _
      have hsz : (s.extract b (brk s b)).size = brk s b - b := by rw [ByteArray.size_extract]; omega
      unfold textOk
      rw [hsz]
      split <;> simp <;> omega
    · show 0 = kidsN (if isAt s k 94 = true then 4 else 3)
      split <;> rfl
theorem pSingle_gd {s : ByteArray} {k : Nat} {out : List Pc} {k' : Nat} {o' : List Pc} {r : Nat} (e : pSingle s k out = some (k', o', r)) : Gd 3 s k out k' o' r := by
  unfold pSingle at e
  simp only at e
  generalize hb : (if isAt s k 92 = true then k + 1 else k) = b at e
  have hb1 : k ≤ b := by split at hb <;> omega
  split at e
  · rename_i hn
    simp only [Option.some.injEq, Prod.mk.injEq] at e
    obtain ⟨rfl, rfl, rfl⟩ := e
    refine Gd.one (by omega) (by omega) (fun hz => ⟨⟨Nat.le_refl 1, (by decide : 1 ≤ 12)⟩, ?_, rfl, fun k hk => by cases hk⟩)
    show textOk 1 _
    have : (s.extract b (b + 1)).size = 1 := by rw [ByteArray.size_extract]; omega
    simp [textOk, this]
  · cases e
/-- What a reader of alternatives owes. -/
def GoodR (d : Nat) (s : ByteArray) (fn : Nat → List Pc → PRes) : Prop := ∀ k out k' o' r, k ≤ s.size → fn k out = some (k', o', r) → Gd d s k out k' o' r
theorem pBase_gd {s : ByteArray} {alt : Nat → List Pc → PRes} (ha : GoodR 1 s alt) : GoodR 3 s (pBase alt s) := by
  intro k out k' o' r hk e
  unfold pBase at e
  split at e
  · rename_i hc; have := isAt_lt hc
    simp only [Option.some.injEq, Prod.mk.injEq] at e; obtain ⟨rfl, rfl, rfl⟩ := e
    exact Gd.one (by omega) (by omega) (fun _ => leaf_ok (by omega))
  split at e
  · rename_i hc; have := isAt_lt hc
    simp only [Option.some.injEq, Prod.mk.injEq] at e; obtain ⟨rfl, rfl, rfl⟩ := e
    exact Gd.one (by omega) (by omega) (fun _ => leaf_ok (by omega))
  split at e
  · rename_i hc; have := isAt_lt hc
    simp only [Option.some.injEq, Prod.mk.injEq] at e; obtain ⟨rfl, rfl, rfl⟩ := e
    exact Gd.one (by omega) (by omega) (fun _ => leaf_ok (by omega))
  split at e
  · rename_i hc; have := isAt_lt hc
    have g := pSet_gd (by omega) e
    exact ⟨by have := g.le; omega, g.hi, fun _ => by have := g.le; omega, by have := g.pot; omega, g.mono, g.ok, g.last⟩
  split at e
  · rename_i hc; have := isAt_lt hc
    unfold pClose at e
    split at e
    · cases e
    · rename_i k1 o1 r1 he
      split at e
      · rename_i hc2; have := isAt_lt hc2
        simp only [Option.some.injEq, Prod.mk.injEq] at e; obtain ⟨rfl, rfl, rfl⟩ := e
        have g := ha (k + 1) out k1 o1 r1 (by omega) he
        exact ⟨by have := g.le; omega, by omega, fun _ => by have := g.le; omega, by have := g.pot; have := g.le; omega, g.mono, g.ok, g.last⟩
      · cases e
  · exact pSingle_gd e
theorem star_ok {op r n : Nat} (h : op = 7 ∨ op = 8 ∨ op = 9) (hr : r < n) : OkPc ⟨op, ⟨#[]⟩, [r]⟩ n := by
  refine ⟨?_, ?_, ?_, fun k hk => by simp at hk; omega⟩ <;> rcases h with rfl | rfl | rfl <;> first | rfl | (dsimp only; omega)
theorem two_ok {op r r' n : Nat} (h : op = 5 ∨ op = 6) (hr : r < n) (hr' : r' < n) : OkPc ⟨op, ⟨#[]⟩, [r, r']⟩ n := by
  refine ⟨?_, ?_, ?_, fun k hk => by simp at hk; omega⟩ <;> rcases h with rfl | rfl <;> first | rfl | (dsimp only; omega)
/-- One piece more, of what was read. -/
theorem Gd.more {d : Nat} {s : ByteArray} {k k1 k2 : Nat} {out o1 o2 : List Pc} {r1 : Nat} {x : Pc} {d2 : Nat} (g : Gd d s k out k1 o1 r1) (hd2 : d2 ≤ d)
    (h12 : k1 ≤ k2) (h2 : k2 ≤ s.size) (hp : o2.length + 1 + 2 * (s.size - k2) ≤ o1.length + 2 * (s.size - k1)) (ho : s.size ≤ 24 → Okp o1 → Okp o2) (hm : o1.length ≤ o2.length) (hx : OkPc x o2.length) : Gd d s k out k2 (o2 ++ [x]) o2.length :=
  ⟨by have := g.le; omega, h2, fun hd => by have := g.lt hd; omega, by have := g.pot; simp; omega, by have := g.mono; simp; omega, fun hz o => (ho hz (g.ok hz o)).snoc hx, by simp⟩
theorem pStars_gd {s : ByteArray} {k : Nat} {out : List Pc} : ∀ (g k1 : Nat) (o1 : List Pc) (r1 : Nat), Gd 3 s k out k1 o1 r1 → Gd 3 s k out (pStars s g k1 o1 r1).1 (pStars s g k1 o1 r1).2.1 (pStars s g k1 o1 r1).2.2
  | 0, k1, o1, r1, G => G
  | g + 1, k1, o1, r1, G => by
    unfold pStars
    split
    · rename_i hc; have := isAt_lt hc
      exact pStars_gd g _ _ _ (G.more (Nat.le_refl _) (by omega) (by omega) (by omega) (fun _ o => o) (by omega) (star_ok (by omega) (by have := G.last; omega)))
    split
    · rename_i hc; have := isAt_lt hc
      exact pStars_gd g _ _ _ (G.more (Nat.le_refl _) (by omega) (by omega) (by omega) (fun _ o => o) (by omega) (star_ok (by omega) (by have := G.last; omega)))
    split
    · rename_i hc; have := isAt_lt hc
      exact pStars_gd g _ _ _ (G.more (Nat.le_refl _) (by omega) (by omega) (by omega) (fun _ o => o) (by omega) (star_ok (by omega) (by have := G.last; omega)))
    · exact G
theorem pThing_gd {s : ByteArray} {alt : Nat → List Pc → PRes} (ha : GoodR 1 s alt) : GoodR 3 s (pThing alt s) := by
  intro k out k' o' r hk e
  unfold pThing at e
  split at e
  · cases e
  · rename_i k1 o1 r1 he
    have G := pStars_gd (s.size + 1) k1 o1 r1 (pBase_gd ha _ _ _ _ _ hk he)
    simp only [Option.some.injEq] at e
    rw [e] at G
    exact G
theorem pCats_gd {s : ByteArray} {thing : Nat → List Pc → PRes} (ht : GoodR 3 s thing) {k : Nat} {out : List Pc} : ∀ (g k1 : Nat) (o1 : List Pc) (r1 : Nat), Gd 3 s k out k1 o1 r1 → ∀ k' o' r, pCats thing s g k1 o1 r1 = some (k', o', r) → Gd 3 s k out k' o' r
  | 0, k1, o1, r1, G, k', o', r, e => by cases e
  | g + 1, k1, o1, r1, G, k', o', r, e => by
    unfold pCats at e
    split at e
    · simp only [Option.some.injEq, Prod.mk.injEq] at e; obtain ⟨rfl, rfl, rfl⟩ := e; exact G
    · split at e
      · cases e
      · rename_i k2 o2 r2 he
        have G2 := ht _ _ _ _ _ G.hi he
        have p2 := G2.pot
        have l2 := G2.lt (Nat.le_refl _)
        have h2 := G2.hi
        have r1' := G.last
        have r2' := G2.last
        have m2 := G2.mono
        exact pCats_gd ht g k2 _ _ (G.more (Nat.le_refl _) (by omega) h2 (by omega) (fun hz o => G2.ok hz o) m2 (two_ok (by omega) (by omega) (by omega))) k' o' r e
theorem pRow_gd {s : ByteArray} {thing : Nat → List Pc → PRes} (ht : GoodR 3 s thing) : GoodR 1 s (pRow thing s) := by
  intro k out k' o' r hk e
  unfold pRow at e
  split at e
  · simp only [Option.some.injEq, Prod.mk.injEq] at e; obtain ⟨rfl, rfl, rfl⟩ := e
    exact ⟨by omega, hk, fun h => by omega, by simp; omega, by simp, fun hz o => o.snoc (leaf_ok (by omega)), by simp⟩
  · split at e
    · cases e
    · rename_i k1 o1 r1 he
      have G := pCats_gd ht _ _ _ _ (ht _ _ _ _ _ hk he) _ _ _ e
      exact ⟨G.le, G.hi, fun h => by omega, by have := G.pot; omega, G.mono, G.ok, G.last⟩
theorem pBars_gd {s : ByteArray} {row : Nat → List Pc → PRes} (ht : GoodR 1 s row) {k : Nat} {out : List Pc} : ∀ (g k1 : Nat) (o1 : List Pc) (r1 : Nat), Gd 1 s k out k1 o1 r1 → ∀ k' o' r, pBars row s g k1 o1 r1 = some (k', o', r) → Gd 1 s k out k' o' r
  | 0, k1, o1, r1, G, k', o', r, e => by cases e
  | g + 1, k1, o1, r1, G, k', o', r, e => by
    unfold pBars at e
    split at e
    · rename_i hc
      have hc := isAt_lt hc
      split at e
      · cases e
      · rename_i k2 o2 r2 he
        have G2 := ht _ _ _ _ _ (by omega) he
        have p2 := G2.pot
        have l2 := G2.le
        have h2 := G2.hi
        have r1' := G.last
        have r2' := G2.last
        have m2 := G2.mono
        exact pBars_gd ht g k2 _ _ (G.more (Nat.le_refl _) (by omega) h2 (by omega) (fun hz o => G2.ok hz o) m2 (two_ok (by omega) (by omega) (by omega))) k' o' r e
    · simp only [Option.some.injEq, Prod.mk.injEq] at e; obtain ⟨rfl, rfl, rfl⟩ := e; exact G
theorem pAlt_gd (s : ByteArray) : ∀ f, GoodR 1 s (pAlt s f)
  | 0 => fun k out k' o' r hk e => by cases e
  | f + 1 => fun k out k' o' r hk e => by
    have hr := pRow_gd (pThing_gd (pAlt_gd s f))
    unfold pAlt at e
    split at e
    · cases e
    · rename_i k1 o1 r1 he
      exact pBars_gd hr _ _ _ _ (hr _ _ _ _ _ hk he) _ _ _ e
theorem readP_ok {s : ByteArray} {o : List Pc} (e : readP s = some o) : Okp o ∧ 1 ≤ o.length ∧ o.length ≤ 60 := by
  unfold readP at e
  split at e
  · rename_i hz
    split at e
    · cases e
    · rename_i k o1 r he
      split at e
      · simp only [Option.some.injEq] at e
        subst e
        have G := pAlt_gd s _ _ _ _ _ _ (Nat.zero_le _) he
        have h1 := G.last
        have h2 := G.pot
        refine ⟨G.ok hz.2 (fun i hi => by cases hi), by omega, by simp at h2; omega⟩
      · cases e
  · cases e
end Go.Sim
/- Patterns: readers in memory. Conditions: those that each theorem names. -/
set_option linter.unusedSimpArgs false
set_option linter.unusedVariables false
namespace Go.Sim
variable {P : Program} {h : AH}
def encNa (n : Nat) : List Value := [.int .i64 (n : Nat)]
theorem encI_len (n : Nat) : (encNa n).length = 1 := rfl
def encP (x : Pc × Value) : List Value := [.int .i64 (x.1.op : Nat), .string x.1.text, x.2]
theorem encP_len (x : Pc × Value) : (encP x).length = 3 := rfl
/-- Nothing below n was touched. -/
structure Fr (m : Nat) (h h' : AH) : Prop where
  n : h.n ≤ h'.n
  ob : ∀ i, i < m → h'.ob i = h.ob i
theorem Fr.refl (n : Nat) (h : AH) : Fr n h h := ⟨Nat.le_refl _, fun _ _ => rfl⟩
theorem Fr.trans {n : Nat} {a b c : AH} (x : Fr n a b) (y : Fr n b c) : Fr n a c := ⟨Nat.le_trans x.n y.n, fun i hi => (y.ob i hi).trans (x.ob i hi)⟩
theorem Fr.set {n p : Nat} {h h' : AH} (x : Fr n h h') (hp : n ≤ p) (o : AOb) : Fr n h (h'.set p o) := ⟨x.n, fun i hi => (set_ne o (by omega)).trans (x.ob i hi)⟩
theorem Fr.alloc {n : Nat} {h h' : AH} (x : Fr n h h') (hn : n ≤ h.n) (o : AOb) : Fr n h (h'.alloc o) := ⟨Nat.le_trans x.n (le_alloc o), fun i hi => (alloc_lt o (by have := x.n; omega)).trans (x.ob i hi)⟩
/-- Pieces, in a slice of the call's own. -/
structure Pcs (n0 p : Nat) (h : AH) (v : Value) (L : List (Pc × Value)) : Prop where
  gr : Gr n0 h v 3 (L.map encP).flatten
  kids : ∀ x ∈ L, RdV h x.2 1 encNa x.1.kids
  far : ∀ x ∈ L, ∀ i, atBlock x.2 i → n0 ≤ i ∧ i ≠ p ∧ ¬ atBlock v i
  vp : ∀ i, atBlock v i → i ≠ p
theorem Pcs.nil (n0 p : Nat) (h : AH) (c : Nat) : Pcs n0 p h (.slice none 0 c) [] := ⟨.inl ⟨c, rfl, rfl⟩, (fun x hx => by cases hx), (fun x hx => by cases hx), fun i e => False.elim e⟩
theorem Pcs.keep {n0 p : Nat} {h h' : AH} {v : Value} {L : List (Pc × Value)} (w : Pcs n0 p h v L) (hn : h.n ≤ h'.n) (e : ∀ i, i < h.n → i ≠ p → h'.ob i = h.ob i) : Pcs n0 p h' v L :=
  ⟨w.gr.keep hn (fun i hi => e i (w.gr.range hi).2 (w.vp i hi)), fun x hx => (w.kids x hx).keep hn (fun i hi => e i ((w.kids x hx).lt hi) (w.far x hx i hi).2.1), w.far, w.vp⟩
/-- What one more piece makes of the heap: v' is the slice, kv its kids. -/
structure Put (n0 p : Nat) (h h' : AH) (v v' kv : Value) (cs : List Value) (op : Nat) (text : ByteArray) (kids : List Nat) : Prop where
  n : h.n ≤ h'.n
  gr : Gr n0 h' v' 3 (cs ++ [.int .i64 (op : Nat), .string text, kv])
  new : ∀ i, atBlock v' i → h.n ≤ i
  kr : RdV h' kv 1 encNa kids
  kvn : ∀ i, atBlock kv i → n0 ≤ i ∧ i ≠ p ∧ ¬ atBlock v' i
  ob : ∀ i, i < h.n → i ≠ p → ¬ atBlock v i → h'.ob i = h.ob i
theorem Pcs.put {n0 p : Nat} {h h' : AH} {v v' kv : Value} {L : List (Pc × Value)} {op : Nat} {text : ByteArray} {kids : List Nat} (w : Pcs n0 p h v L) (hp : p < h.n) (q : Put n0 p h h' v v' kv (L.map encP).flatten op text kids) : Pcs n0 p h' v' (L ++ [(⟨op, text, kids⟩, kv)]) := by
  refine ⟨?_, fun x hx => ?_, fun x hx i hi => ?_, fun i hi => by have := q.new i hi; omega⟩
  · rw [flat_snoc]; exact q.gr
  · rcases List.mem_append.1 hx with hx | hx
    · exact (w.kids x hx).keep q.n (fun i hi => q.ob i ((w.kids x hx).lt hi) (w.far x hx i hi).2.1 (w.far x hx i hi).2.2)
    · obtain rfl : x = _ := by simpa using hx
      exact q.kr
  · rcases List.mem_append.1 hx with hx | hx
    · have a := w.far x hx i hi
      have b := (w.kids x hx).lt hi
      exact ⟨a.1, a.2.1, fun e => by have := q.new i e; omega⟩
    · obtain rfl : x = _ := by simpa using hx
      exact q.kvn i hi
/-- A reader that stands well, and one that is bad. C: its cells, from its place, whether it is bad, and its slice. -/
structure Rg (C : Nat → Bool → Value → List Value) (s : ByteArray) (n0 p : Nat) (h : AH) (k : Nat) (out : List Pc) : Prop where
  lt : p < h.n
  le : n0 ≤ p
  hi : k ≤ s.size
  ex : ∃ v L, h.ob p = .cells (C k false v) .solo p ∧ Pcs n0 p h v L ∧ L.map Prod.fst = out
structure Rb (C : Nat → Bool → Value → List Value) (s : ByteArray) (n0 p : Nat) (h : AH) (m : Nat) : Prop where
  lt : p < h.n
  le : n0 ≤ p
  ex : ∃ k v cs j, k ≤ s.size ∧ h.ob p = .cells (C k true v) .solo p ∧ Gr n0 h v 3 cs ∧ cs.length = j * 3 ∧ j ≤ m ∧ ∀ i, atBlock v i → i ≠ p
theorem Rb.mono {C : Nat → Bool → Value → List Value} {s : ByteArray} {n0 p m m' : Nat} {h : AH} (w : Rb C s n0 p h m) (hm : m ≤ m') : Rb C s n0 p h m' := by
  obtain ⟨k, v, cs, j, a, b, c, d, e, f⟩ := w.ex
  exact ⟨w.lt, w.le, k, v, cs, j, a, b, c, d, by omega, f⟩
/-- What a reader's call leaves. -/
def Ro (C : Nat → Bool → Value → List Value) (s : ByteArray) (n0 p : Nat) (h : AH) (m : Nat) (res : PRes) (v : Value) (h' : AH) : Prop :=
  Fr n0 h h' ∧ ((∃ k' o' r, res = some (k', o', r) ∧ v = .int .i64 (r : Nat) ∧ Rg C s n0 p h' k' o') ∨ (res = none ∧ (∃ r : Nat, v = .int .i64 (r : Nat)) ∧ Rb C s n0 p h' m))
end Go.Sim
/- Patterns: what they take. Conditions: none. -/
set_option linter.unusedSimpArgs false
set_option linter.unusedVariables false
namespace Go.Sim
/-! ### numbers, sorted, each once -/
def srtI (l : List Int) : List Int := l.mergeSort fun x y => decide (x ≤ y)
theorem srtI_mem (l : List Int) (x : Int) : x ∈ srtI l ↔ x ∈ l := List.mem_mergeSort
theorem srtI_pw (l : List Int) : (srtI l).Pairwise (· ≤ ·) := by
  have := List.pairwise_mergeSort (le := fun x y : Int => decide (x ≤ y)) (fun a b c h1 h2 => by simp at *; omega) (fun a b => by simp; omega) l
  exact this.imp (fun h => by simpa using h)
theorem srtI_len (l : List Int) : (srtI l).length = l.length := List.length_mergeSort l
theorem getXI {l : List Int} {i : Nat} (h : i < l.length) : l.toArray[i]! = l[i] := by simp [h]
theorem cmpI_mem (l : List Int) (x : Int) : x ∈ Lib.compact l ↔ x ∈ l := by
  unfold Lib.compact Lib.compactUpTo
  simp only [List.mem_map, List.mem_filter, List.mem_range]
  constructor
  · rintro ⟨j, ⟨hj, _⟩, rfl⟩
    rw [getXI hj]; exact List.getElem_mem hj
  · intro hx
    obtain ⟨i, hi, rfl⟩ := List.getElem_of_mem hx
    have key : ∀ i, (hi : i < l.length) → ∃ j, (j < l.length ∧ Lib.keeps l.toArray j = true) ∧ l.toArray[j]! = l[i] := by
      intro i
      induction i with
      | zero => exact fun hi => ⟨0, ⟨hi, by simp [Lib.keeps]⟩, getXI hi⟩
      | succ i ih =>
        intro hi
        by_cases e : l[i + 1] = l[i]
        · rw [e]; exact ih (by omega)
        · exact ⟨i + 1, ⟨hi, by rw [Lib.keeps]; simp only [decide_eq_true_eq]; right; rw [Nat.add_sub_cancel, getXI hi, getXI (by omega)]; exact e⟩, getXI hi⟩
    exact key i hi
theorem cmpI_len (l : List Int) : (Lib.compact l).length ≤ l.length := by
  unfold Lib.compact Lib.compactUpTo
  rw [List.length_map]
  exact Nat.le_trans (List.length_filter_le _ _) (by simp)
theorem cmpI_pw {l : List Int} (h : l.Pairwise (· ≤ ·)) : (Lib.compact l).Pairwise (· < ·) := by
  unfold Lib.compact Lib.compactUpTo
  rw [List.pairwise_map, List.pairwise_filter]
  have hr : (List.range l.length).Pairwise (fun i j => i < j ∧ i < l.length ∧ j < l.length) := by
    have := List.pairwise_lt_range (n := l.length)
    exact List.Pairwise.imp_of_mem (fun ha hb hab => ⟨hab, List.mem_range.1 ha, List.mem_range.1 hb⟩) this
  refine hr.imp ?_
  rintro i j ⟨h1, h2, h3⟩ _ hk
  rw [getXI h2, getXI h3]
  simp only [Lib.keeps, decide_eq_true_eq] at hk
  have hne : l[j] ≠ l[j - 1] := by
    rcases hk with hk | hk
    · omega
    · rw [getXI h3, getXI (by omega)] at hk; exact hk
  have hle : ∀ a b, (ha : a < l.length) → (hb : b < l.length) → a < b → l[a] ≤ l[b] := fun a b ha hb hab => List.pairwise_iff_getElem.1 h a b ha hb hab
  have h4 := hle (j - 1) j (by omega) h3 (by omega)
  by_cases e : i = j - 1
  · subst e; omega
  · have h6 := hle i (j - 1) h2 (by omega) (by omega)
    omega
theorem pwI_uniq : ∀ {a b : List Int}, a.Pairwise (· < ·) → b.Pairwise (· < ·) → (∀ x, x ∈ a ↔ x ∈ b) → a = b
  | [], [], _, _, _ => rfl
  | [], y :: b, _, _, h => by have := (h y).2 (by simp); cases this
  | x :: a, [], _, _, h => by have := (h x).1 (by simp); cases this
  | x :: a, y :: b, ha, hb, h => by
    rw [List.pairwise_cons] at ha hb
    have exy : x = y := by
      rcases List.mem_cons.1 ((h x).1 (by simp)) with e | e
      · exact e
      · rcases List.mem_cons.1 ((h y).2 (by simp)) with e2 | e2
        · exact e2.symm
        · have := hb.1 x e; have := ha.1 y e2; omega
    subst exy
    rw [pwI_uniq ha.2 hb.2 (fun z => by
      constructor
      · intro hz
        rcases List.mem_cons.1 ((h z).1 (List.mem_cons_of_mem _ hz)) with e | e
        · subst e; have := ha.1 z hz; omega
        · exact e
      · intro hz
        rcases List.mem_cons.1 ((h z).2 (List.mem_cons_of_mem _ hz)) with e | e
        · subst e; have := hb.1 z hz; omega
        · exact e)]
def toI (l : List Nat) : List Int := l.map Int.ofNat
def inat (l : List Int) : List Nat := l.map Int.toNat
/-- The places of a list, sorted, each once. -/
noncomputable def places (n : Nat) (R : Nat → Prop) : List Nat := (List.range (n + 1)).filter fun j => @decide (R j) (Classical.propDecidable _)
theorem places_mem {n : Nat} {R : Nat → Prop} {j : Nat} : j ∈ places n R ↔ j ≤ n ∧ R j := by
  unfold places
  simp only [List.mem_filter, List.mem_range, decide_eq_true_eq]
  exact ⟨fun ⟨a, b⟩ => ⟨by omega, b⟩, fun ⟨a, b⟩ => ⟨by omega, b⟩⟩
theorem places_pw (n : Nat) (R : Nat → Prop) : (places n R).Pairwise (· < ·) := List.Pairwise.filter _ List.pairwise_lt_range
theorem places_len (n : Nat) (R : Nat → Prop) : (places n R).length ≤ n + 1 := by
  unfold places
  exact Nat.le_trans (List.length_filter_le _ _) (by simp)
theorem sorted_places {l : List Nat} {n : Nat} {R : Nat → Prop} (h : ∀ j, j ∈ l ↔ j ≤ n ∧ R j) : Lib.compact (srtI (toI l)) = toI (places n R) := by
  refine pwI_uniq (cmpI_pw (srtI_pw _)) ?_ (fun x => ?_)
  · unfold toI
    rw [List.pairwise_map]
    exact (places_pw n R).imp (fun h => by have := h; simp only [Int.ofNat_eq_natCast]; omega)
  · rw [cmpI_mem, srtI_mem]
    simp only [toI, List.mem_map, places_mem]
    constructor
    · rintro ⟨j, hj, rfl⟩; exact ⟨j, (h j).1 hj, rfl⟩
    · rintro ⟨j, hj, rfl⟩; exact ⟨j, (h j).2 hj, rfl⟩
/-! ### what a piece takes -/
inductive Rt (R : Nat → Nat → Prop) : Nat → Nat → Prop
  | refl (a : Nat) : Rt R a a
  | step {a b c : Nat} : Rt R a b → R b c → Rt R a c
theorem Rt.one {R : Nat → Nat → Prop} {a b : Nat} (h : R a b) : Rt R a b := (Rt.refl a).step h
theorem Rt.trans {R : Nat → Nat → Prop} {a b c : Nat} (h : Rt R a b) (g : Rt R b c) : Rt R a c := by
  induction g with
  | refl => exact h
  | step _ r ih => exact ih.step r
theorem Rt.head {R : Nat → Nat → Prop} {a c : Nat} (h : Rt R a c) : a = c ∨ ∃ b, R a b ∧ Rt R b c := by
  induction h with
  | refl => exact .inl rfl
  | step h r ih =>
    rcases ih with rfl | ⟨b, r1, h1⟩
    · exact .inr ⟨_, r, .refl _⟩
    · exact .inr ⟨b, r1, h1.step r⟩
def hasB (t : ByteArray) (c : Nat) : Bool := !(allAt t fun x => decide (x ≠ c))
def tk (x : Pc) (s : ByteArray) (i : Nat) : Bool :=
  if x.op = 1 ∨ x.op = 3 then hasB x.text (byteAt s i).toNat else if x.op = 2 then true else if x.op = 4 then !hasB x.text (byteAt s i).toNat else false
def leafP (x : Pc) (s : ByteArray) (i j : Nat) : Prop :=
  if 1 ≤ x.op ∧ x.op ≤ 4 then i < s.size ∧ j = i + 1 ∧ tk x s i = true
  else if x.op = 10 then i = 0 ∧ j = i
  else if x.op = 11 then s.size ≤ i ∧ j = i
  else j = i
def pcAt (L : List Pc) (k : Nat) : Pc := L.getD k ⟨0, ⟨#[]⟩, []⟩
def kid (x : Pc) (a : Nat) : Nat := x.kids.getD a 0
/-- What a piece takes, its kids' takings known. -/
def step (R : Nat → Nat → Nat → Prop) (x : Pc) (s : ByteArray) (i j : Nat) : Prop :=
  if x.op = 5 then ∃ m, R (kid x 0) i m ∧ R (kid x 1) m j
  else if x.op = 6 then R (kid x 0) i j ∨ R (kid x 1) i j
  else if x.op = 7 then Rt (R (kid x 0)) i j
  else if x.op = 8 then ∃ m, R (kid x 0) i m ∧ Rt (R (kid x 0)) m j
  else if x.op = 9 then j = i ∨ R (kid x 0) i j
  else leafP x s i j
def Mf (L : List Pc) (s : ByteArray) : Nat → Nat → Nat → Nat → Prop
  | 0, _, _, _ => False
  | f + 1, k, i, j => step (Mf L s f) (pcAt L k) s i j
def Mt (L : List Pc) (s : ByteArray) (k i j : Nat) : Prop := Mf L s (k + 1) k i j
theorem step_congr {R S : Nat → Nat → Nat → Prop} {x : Pc} {s : ByteArray} (h : ∀ a, a < x.kids.length → R (kid x a) = S (kid x a)) (hk : x.kids.length = kidsN x.op) : step R x s = step S x s := by
  funext i j
  unfold step
  by_cases e5 : x.op = 5
  · have h2 : x.kids.length = 2 := by rw [hk, kidsN, if_pos (.inl e5)]
    rw [if_pos e5, if_pos e5, h 0 (by omega), h 1 (by omega)]
  rw [if_neg e5, if_neg e5]
  by_cases e6 : x.op = 6
  · have h2 : x.kids.length = 2 := by rw [hk, kidsN, if_pos (.inr e6)]
    rw [if_pos e6, if_pos e6, h 0 (by omega), h 1 (by omega)]
  rw [if_neg e6, if_neg e6]
  by_cases e7 : x.op = 7
  · have h2 : x.kids.length = 1 := by rw [hk, kidsN, if_neg (by omega), if_pos (.inl e7)]
    rw [if_pos e7, if_pos e7, h 0 (by omega)]
  rw [if_neg e7, if_neg e7]
  by_cases e8 : x.op = 8
  · have h2 : x.kids.length = 1 := by rw [hk, kidsN, if_neg (by omega), if_pos (by omega)]
    rw [if_pos e8, if_pos e8, h 0 (by omega)]
  rw [if_neg e8, if_neg e8]
  by_cases e9 : x.op = 9
  · have h2 : x.kids.length = 1 := by rw [hk, kidsN, if_neg (by omega), if_pos (by omega)]
    rw [if_pos e9, if_pos e9, h 0 (by omega)]
  rw [if_neg e9, if_neg e9]
theorem pcAt_ok {L : List Pc} (o : Okp L) {k : Nat} (hk : k < L.length) : OkPc (pcAt L k) k := by
  have : pcAt L k = L[k] := by simp [pcAt, hk]
  rw [this]; exact o k hk
theorem kid_lt {x : Pc} {k : Nat} (o : OkPc x k) {a : Nat} (ha : a < x.kids.length) : kid x a < k := by
  have : kid x a = x.kids[a] := by simp [kid, ha]
  rw [this]; exact o.ahead _ (List.getElem_mem ha)
theorem Mf_eq {L : List Pc} (o : Okp L) {s : ByteArray} : ∀ k, k < L.length → ∀ f, k < f → Mf L s f k = Mt L s k := by
  intro k
  induction k using Nat.strongRecOn with
  | ind k ih =>
    intro hk f hf
    obtain ⟨g, rfl⟩ : ∃ g, f = g + 1 := ⟨f - 1, by omega⟩
    show step (Mf L s g) (pcAt L k) s = step (Mf L s k) (pcAt L k) s
    have ok := pcAt_ok o hk
    exact step_congr (fun a ha => by
      have := kid_lt ok ha
      rw [ih _ this (by omega) g (by omega), ih _ this (by omega) k this]) ok.kids
theorem Mt_eq {L : List Pc} (o : Okp L) {s : ByteArray} {k : Nat} (hk : k < L.length) : Mt L s k = step (Mt L s) (pcAt L k) s := by
  show step (Mf L s k) (pcAt L k) s = _
  have ok := pcAt_ok o hk
  exact step_congr (fun a ha => by
    have := kid_lt ok ha
    exact Mf_eq o _ (by omega) k this) ok.kids
/-- From a place within the text on, within the text. -/
theorem Mt_in {L : List Pc} (o : Okp L) {s : ByteArray} : ∀ k, k < L.length → ∀ i j, i ≤ s.size → Mt L s k i j → i ≤ j ∧ j ≤ s.size := by
  intro k
  induction k using Nat.strongRecOn with
  | ind k ih =>
    intro hk i j hi m
    rw [Mt_eq o hk] at m
    have ok := pcAt_ok o hk
    generalize pcAt L k = x at *
    have go : ∀ a, a < x.kids.length → ∀ i j, i ≤ s.size → Mt L s (kid x a) i j → i ≤ j ∧ j ≤ s.size := fun a ha => ih _ (kid_lt ok ha) (by have := kid_lt ok ha; omega)
    have rt : ∀ a, a < x.kids.length → ∀ i j, i ≤ s.size → Rt (Mt L s (kid x a)) i j → i ≤ j ∧ j ≤ s.size := fun a ha i j hi r => by
      induction r with
      | refl => exact ⟨Nat.le_refl _, hi⟩
      | step _ r ih2 => have := ih2; have := go a ha _ _ this.2 r; omega
    have kk := ok.kids
    unfold step at m
    split at m
    · rename_i e
      rw [kidsN, if_pos (.inl e)] at kk
      obtain ⟨q, m1, m2⟩ := m
      have a := go 0 (by omega) _ _ hi m1
      have b := go 1 (by omega) _ _ a.2 m2
      omega
    split at m
    · rename_i e
      rw [kidsN, if_pos (.inr e)] at kk
      rcases m with m | m
      · exact go 0 (by omega) _ _ hi m
      · exact go 1 (by omega) _ _ hi m
    split at m
    · rename_i _ _ e
      rw [kidsN, if_neg (by omega), if_pos (by omega)] at kk
      exact rt 0 (by omega) _ _ hi m
    split at m
    · rename_i _ _ _ e
      rw [kidsN, if_neg (by omega), if_pos (by omega)] at kk
      obtain ⟨q, m1, m2⟩ := m
      have a := go 0 (by omega) _ _ hi m1
      have b := rt 0 (by omega) _ _ a.2 m2
      omega
    split at m
    · rename_i _ _ _ _ e
      rw [kidsN, if_neg (by omega), if_pos (by omega)] at kk
      rcases m with rfl | m
      · omega
      · exact go 0 (by omega) _ _ hi m
    unfold leafP at m
    split at m
    · omega
    split at m
    · omega
    split at m
    · omega
    · omega
noncomputable def ml (L : List Pc) (s : ByteArray) (k i : Nat) : List Nat := places s.size (Mt L s k i)
theorem ml_mem {L : List Pc} (o : Okp L) {s : ByteArray} {k i j : Nat} (hk : k < L.length) (hi : i ≤ s.size) : j ∈ ml L s k i ↔ Mt L s k i j := by
  unfold ml
  rw [places_mem]
  exact ⟨fun h => h.2, fun h => ⟨(Mt_in o k hk i j hi h).2, h⟩⟩
/-! ### what was come to -/
def inF (l : List Nat) (j : Nat) : Bool := decide (j ∈ l)
def cntB (m : Nat) (F : Nat → Bool) : Nat := ((List.range m).filter F).length
theorem cntB_le (m : Nat) (F : Nat → Bool) : cntB m F ≤ m := by
  unfold cntB
  exact Nat.le_trans (List.length_filter_le _ _) (by simp)
theorem cntB_snoc {l : List Nat} {j : Nat} (hj : j ∉ l) : ∀ {m : Nat}, j < m → cntB m (inF (l ++ [j])) = cntB m (inF l) + 1
  | 0, h => by omega
  | m + 1, h => by
    have other : ∀ q, q ≠ j → inF (l ++ [j]) q = inF l q := fun q hq => by simp [inF, hq]
    have low : ∀ m', m' ≤ j → cntB m' (inF (l ++ [j])) = cntB m' (inF l) := fun m' hm => by
      unfold cntB
      congr 1
      apply List.filter_congr
      intro q hq
      rw [List.mem_range] at hq
      exact other q (by omega)
    have e1 : ∀ F : Nat → Bool, cntB (m + 1) F = cntB m F + (if F m = true then 1 else 0) := fun F => by
      unfold cntB
      rw [List.range_succ, List.filter_append, List.length_append]
      cases h : F m <;> simp [h]
    rw [e1, e1]
    by_cases e : j = m
    · subst e
      rw [low j (Nat.le_refl _)]
      simp [inF, hj]
    · rw [cntB_snoc hj (by omega), other m (fun e2 => e e2.symm)]
      omega
theorem Rt_closed {R : Nat → Nat → Prop} {l : List Nat} (hc : ∀ a ∈ l, ∀ b, R a b → b ∈ l) {a b : Nat} (ha : a ∈ l) (r : Rt R a b) : b ∈ l := by
  induction r with
  | refl => exact ha
  | step _ r ih => exact hc _ ih _ r
theorem step5 {R : Nat → Nat → Nat → Prop} {x : Pc} {s : ByteArray} {i j : Nat} (h : x.op = 5) : step R x s i j ↔ ∃ m, R (kid x 0) i m ∧ R (kid x 1) m j := by unfold step; rw [if_pos h]
theorem step6 {R : Nat → Nat → Nat → Prop} {x : Pc} {s : ByteArray} {i j : Nat} (h : x.op = 6) : step R x s i j ↔ (R (kid x 0) i j ∨ R (kid x 1) i j) := by unfold step; rw [if_neg (by omega), if_pos h]
theorem step7 {R : Nat → Nat → Nat → Prop} {x : Pc} {s : ByteArray} {i j : Nat} (h : x.op = 7) : step R x s i j ↔ Rt (R (kid x 0)) i j := by unfold step; rw [if_neg (by omega), if_neg (by omega), if_pos h]
theorem step8 {R : Nat → Nat → Nat → Prop} {x : Pc} {s : ByteArray} {i j : Nat} (h : x.op = 8) : step R x s i j ↔ ∃ m, R (kid x 0) i m ∧ Rt (R (kid x 0)) m j := by unfold step; rw [if_neg (by omega), if_neg (by omega), if_neg (by omega), if_pos h]
theorem step9 {R : Nat → Nat → Nat → Prop} {x : Pc} {s : ByteArray} {i j : Nat} (h : x.op = 9) : step R x s i j ↔ (j = i ∨ R (kid x 0) i j) := by unfold step; rw [if_neg (by omega), if_neg (by omega), if_neg (by omega), if_neg (by omega), if_pos h]
theorem stepL {R : Nat → Nat → Nat → Prop} {x : Pc} {s : ByteArray} {i j : Nat} (h : x.op < 5 ∨ 9 < x.op) : step R x s i j ↔ leafP x s i j := by unfold step; rw [if_neg (by omega), if_neg (by omega), if_neg (by omega), if_neg (by omega), if_neg (by omega)]
theorem leaf1 {x : Pc} {s : ByteArray} {i j : Nat} (h : 1 ≤ x.op ∧ x.op ≤ 4) : leafP x s i j ↔ i < s.size ∧ j = i + 1 ∧ tk x s i = true := by unfold leafP; rw [if_pos h]
theorem leaf10 {x : Pc} {s : ByteArray} {i j : Nat} (h : x.op = 10) : leafP x s i j ↔ i = 0 ∧ j = i := by unfold leafP; rw [if_neg (by omega), if_pos h]
theorem leaf11 {x : Pc} {s : ByteArray} {i j : Nat} (h : x.op = 11) : leafP x s i j ↔ s.size ≤ i ∧ j = i := by unfold leafP; rw [if_neg (by omega), if_neg (by omega), if_pos h]
theorem leaf12 {x : Pc} {s : ByteArray} {i j : Nat} (h : x.op = 12) : leafP x s i j ↔ j = i := by unfold leafP; rw [if_neg (by omega), if_neg (by omega), if_neg (by omega)]
theorem kid_get {x : Pc} {a : Nat} (h : a < x.kids.length) : x.kids[a] = kid x a := by simp [kid, h]
end Go.Sim
/- Patterns of drawn texts: what those that are made of two take. Conditions: none. -/
set_option linter.unusedSimpArgs false
set_option linter.unusedVariables false
namespace Go.Sim
def shP (n : Nat) (x : Pc) : Pc := ⟨x.op, x.text, x.kids.map (n + ·)⟩
theorem leafP_congr {x y : Pc} {s : ByteArray} (e1 : x.op = y.op) (e2 : x.text = y.text) : leafP x s = leafP y s := by
  funext i j
  unfold leafP tk
  rw [e1, e2]
theorem step_congr2 {R S : Nat → Nat → Nat → Prop} {x y : Pc} {s : ByteArray} (e1 : x.op = y.op) (e2 : x.text = y.text) (hk : x.kids.length = kidsN x.op) (h : ∀ a, a < x.kids.length → R (kid x a) = S (kid y a)) : step R x s = step S y s := by
  funext i j
  unfold step
  rw [← e1, leafP_congr e1 e2]
  by_cases e5 : x.op = 5
  · have h2 : x.kids.length = 2 := by rw [hk, kidsN, if_pos (.inl e5)]
    rw [if_pos e5, if_pos e5, h 0 (by omega), h 1 (by omega)]
  rw [if_neg e5, if_neg e5]
  by_cases e6 : x.op = 6
  · have h2 : x.kids.length = 2 := by rw [hk, kidsN, if_pos (.inr e6)]
    rw [if_pos e6, if_pos e6, h 0 (by omega), h 1 (by omega)]
  rw [if_neg e6, if_neg e6]
  by_cases e7 : x.op = 7
  · have h2 : x.kids.length = 1 := by rw [hk, kidsN, if_neg (by omega), if_pos (.inl e7)]
    rw [if_pos e7, if_pos e7, h 0 (by omega)]
  rw [if_neg e7, if_neg e7]
  by_cases e8 : x.op = 8
  · have h2 : x.kids.length = 1 := by rw [hk, kidsN, if_neg (by omega), if_pos (by omega)]
    rw [if_pos e8, if_pos e8, h 0 (by omega)]
  rw [if_neg e8, if_neg e8]
  by_cases e9 : x.op = 9
  · have h2 : x.kids.length = 1 := by rw [hk, kidsN, if_neg (by omega), if_pos (by omega)]
    rw [if_pos e9, if_pos e9, h 0 (by omega)]
  rw [if_neg e9, if_neg e9]
theorem kid_sh {n : Nat} {x : Pc} {a : Nat} (h : a < x.kids.length) : kid (shP n x) a = n + kid x a := by
  simp [kid, shP, h]
theorem Mf_sh {A B : List Pc} {n : Nat} (hB : ∀ k, k < B.length → pcAt A (n + k) = shP n (pcAt B k)) (o : Okp B) (s : ByteArray) : ∀ f k, k < B.length → Mf A s f (n + k) = Mf B s f k
  | 0, k, hk => rfl
  | f + 1, k, hk => by
    show step (Mf A s f) (pcAt A (n + k)) s = step (Mf B s f) (pcAt B k) s
    rw [hB k hk]
    have ok := pcAt_ok o hk
    refine step_congr2 rfl rfl (by show (List.map _ _).length = _; rw [List.length_map]; exact ok.kids) (fun a ha => ?_)
    have ha' : a < (pcAt B k).kids.length := by simpa [shP] using ha
    rw [kid_sh ha']
    exact Mf_sh hB o s f _ (Nat.lt_trans (kid_lt ok ha') hk)
theorem Mt_sh {A B : List Pc} {n : Nat} (hB : ∀ k, k < B.length → pcAt A (n + k) = shP n (pcAt B k)) (o : Okp B) {s : ByteArray} {k : Nat} (hk : k < B.length) : Mt A s (n + k) = Mt B s k := by
  show Mf A s (n + k + 1) (n + k) = _
  rw [Mf_sh hB o s _ k hk]
  exact Mf_eq o k hk _ (by omega)
theorem shP_zero (x : Pc) : shP 0 x = x := by simp [shP]
theorem Mt_pre {A C : List Pc} (o : Okp A) {s : ByteArray} {k : Nat} (hk : k < A.length) : Mt (A ++ C) s k = Mt A s k := by
  have := Mt_sh (A := A ++ C) (B := A) (n := 0) (fun k hk => by rw [Nat.zero_add, shP_zero]; simp [pcAt, List.getD_eq_getElem?_getD, List.getElem?_append_left hk]) o (s := s) hk
  rwa [Nat.zero_add] at this
theorem Mt_mid {A B C : List Pc} (o : Okp B) {s : ByteArray} {k : Nat} (hk : k < B.length) : Mt (A ++ B.map (shP A.length) ++ C) s (A.length + k) = Mt B s k :=
  Mt_sh (fun k hk => by
    have e : (A ++ B.map (shP A.length) ++ C)[A.length + k]? = some (shP A.length B[k]) := by
      rw [List.append_assoc, List.getElem?_append_right (by omega), Nat.add_sub_cancel_left, List.getElem?_append_left (by simpa using hk), List.getElem?_map, List.getElem?_eq_getElem hk]; rfl
    unfold pcAt
    rw [List.getD_eq_getElem?_getD, List.getD_eq_getElem?_getD, e, List.getElem?_eq_getElem hk]; rfl) o hk
def twoL (op : Nat) (A B : List Pc) : List Pc := A ++ B.map (shP A.length) ++ [⟨op, ⟨#[]⟩, [A.length - 1, A.length + (B.length - 1)]⟩]
def oneL (op : Nat) (A : List Pc) : List Pc := A ++ [⟨op, ⟨#[]⟩, [A.length - 1]⟩]
theorem twoL_len (op : Nat) (A B : List Pc) : (twoL op A B).length = A.length + B.length + 1 := by simp [twoL]; omega
theorem oneL_len (op : Nat) (A : List Pc) : (oneL op A).length = A.length + 1 := by simp [oneL]
theorem pcAt_two (op : Nat) (A B : List Pc) : pcAt (twoL op A B) (A.length + B.length) = ⟨op, ⟨#[]⟩, [A.length - 1, A.length + (B.length - 1)]⟩ := by
  simp [pcAt, twoL, List.getD_eq_getElem?_getD]
theorem pcAt_one (op : Nat) (A : List Pc) : pcAt (oneL op A) A.length = ⟨op, ⟨#[]⟩, [A.length - 1]⟩ := by
  simp [pcAt, oneL, List.getD_eq_getElem?_getD]
/-- What a pattern of two takes. -/
theorem two_step {op : Nat} {A B : List Pc} (o : Okp (twoL op A B)) (oA : Okp A) (oB : Okp B) (hA : 1 ≤ A.length) (hB : 1 ≤ B.length) {s : ByteArray} {i j : Nat} :
    Mt (twoL op A B) s ((twoL op A B).length - 1) i j ↔ step (fun k => if k = 0 then Mt A s (A.length - 1) else Mt B s (B.length - 1)) ⟨op, ⟨#[]⟩, [0, 1]⟩ s i j := by
  have e : (twoL op A B).length - 1 = A.length + B.length := by rw [twoL_len]; omega
  have hk : A.length + B.length < (twoL op A B).length := by rw [twoL_len]; omega
  have ok := (pcAt_ok o hk).kids
  rw [e, Mt_eq o hk]
  rw [pcAt_two] at *
  have m1 : Mt (twoL op A B) s (A.length - 1) = Mt A s (A.length - 1) := by
    unfold twoL; rw [List.append_assoc]; exact Mt_pre oA (by omega)
  have m2 : Mt (twoL op A B) s (A.length + (B.length - 1)) = Mt B s (B.length - 1) := Mt_mid oB (by omega)
  rw [step_congr2 (x := ⟨op, ⟨#[]⟩, [A.length - 1, A.length + (B.length - 1)]⟩) (R := Mt (twoL op A B) s) (S := fun k => if k = 0 then Mt A s (A.length - 1) else Mt B s (B.length - 1)) (y := ⟨op, ⟨#[]⟩, [0, 1]⟩) rfl rfl ok (fun a ha => ?_)]
  have ha' : a < 2 := ha
  have : a = 0 ∨ a = 1 := by omega
  rcases this with rfl | rfl
  · exact m1
  · exact m2
theorem one_step {op : Nat} {A : List Pc} (o : Okp (oneL op A)) (oA : Okp A) (hA : 1 ≤ A.length) {s : ByteArray} {i j : Nat} :
    Mt (oneL op A) s ((oneL op A).length - 1) i j ↔ step (fun _ => Mt A s (A.length - 1)) ⟨op, ⟨#[]⟩, [0]⟩ s i j := by
  have e : (oneL op A).length - 1 = A.length := by rw [oneL_len]; omega
  have hk : A.length < (oneL op A).length := by rw [oneL_len]; omega
  have ok := (pcAt_ok o hk).kids
  rw [e, Mt_eq o hk]
  rw [pcAt_one] at *
  have m1 : Mt (oneL op A) s (A.length - 1) = Mt A s (A.length - 1) := Mt_pre oA (by omega)
  rw [step_congr2 (x := ⟨op, ⟨#[]⟩, [A.length - 1]⟩) (R := Mt (oneL op A) s) (S := fun _ => Mt A s (A.length - 1)) (y := ⟨op, ⟨#[]⟩, [0]⟩) rfl rfl ok (fun a ha => ?_)]
  have ha' : a < 1 := ha
  have : a = 0 := by omega
  subst this
  exact m1
theorem alt_law {A B : List Pc} (o : Okp (twoL 6 A B)) (oA : Okp A) (oB : Okp B) (hA : 1 ≤ A.length) (hB : 1 ≤ B.length) {s : ByteArray} {i j : Nat} :
    Mt (twoL 6 A B) s ((twoL 6 A B).length - 1) i j ↔ Mt A s (A.length - 1) i j ∨ Mt B s (B.length - 1) i j := by
  rw [two_step o oA oB hA hB, step6 rfl]; rfl
theorem row_law {A B : List Pc} (o : Okp (twoL 5 A B)) (oA : Okp A) (oB : Okp B) (hA : 1 ≤ A.length) (hB : 1 ≤ B.length) {s : ByteArray} {i j : Nat} :
    Mt (twoL 5 A B) s ((twoL 5 A B).length - 1) i j ↔ ∃ m, Mt A s (A.length - 1) i m ∧ Mt B s (B.length - 1) m j := by
  rw [two_step o oA oB hA hB, step5 rfl]; rfl
theorem star_law {A : List Pc} (o : Okp (oneL 7 A)) (oA : Okp A) (hA : 1 ≤ A.length) {s : ByteArray} {i j : Nat} :
    Mt (oneL 7 A) s ((oneL 7 A).length - 1) i j ↔ Rt (Mt A s (A.length - 1)) i j := by
  rw [one_step o oA hA, step7 rfl]
theorem plus_law {A : List Pc} (o : Okp (oneL 8 A)) (oA : Okp A) (hA : 1 ≤ A.length) {s : ByteArray} {i j : Nat} :
    Mt (oneL 8 A) s ((oneL 8 A).length - 1) i j ↔ ∃ m, Mt A s (A.length - 1) i m ∧ Rt (Mt A s (A.length - 1)) m j := by
  rw [one_step o oA hA, step8 rfl]
theorem opt_law {A : List Pc} (o : Okp (oneL 9 A)) (oA : Okp A) (hA : 1 ≤ A.length) {s : ByteArray} {i j : Nat} :
    Mt (oneL 9 A) s ((oneL 9 A).length - 1) i j ↔ j = i ∨ Mt A s (A.length - 1) i j := by
  rw [one_step o oA hA, step9 rfl]
theorem Rt_plus {R : Nat → Nat → Prop} {i j : Nat} : Rt R i j ↔ i = j ∨ ∃ m, R i m ∧ Rt R m j :=
  ⟨fun h => h.head, fun h => by
    rcases h with rfl | ⟨m, r, t⟩
    · exact .refl _
    · exact (Rt.one r).trans t⟩
/-! ### the drawn texts -/
def txs : List ByteArray := [⟨#[97]⟩, ⟨#[97, 98]⟩, ⟨#[97, 42]⟩, ⟨#[97, 43, 98]⟩, ⟨#[40, 97, 98, 41, 42]⟩, ⟨#[97, 124, 98]⟩, ⟨#[94, 97]⟩, ⟨#[98, 36]⟩, ⟨#[91, 97, 98, 93, 43]⟩, ⟨#[91, 94, 97, 93]⟩, ⟨#[46, 98]⟩, ⟨#[97, 63, 98]⟩, ⟨#[40, 97, 124, 98, 41, 42, 99]⟩, ⟨#[120, 46, 42]⟩, ⟨#[92, 46]⟩, ⟨#[40, 97, 42, 41, 42]⟩, ⟨#[94, 36]⟩, ⟨#[40, 124, 97, 41, 98]⟩, ⟨#[49, 43]⟩, ⟨#[97, 124]⟩, ⟨#[40, 40, 97, 41, 98, 41, 43]⟩]
def altT (a b : ByteArray) : ByteArray := ⟨#[40]⟩ ++ a ++ ⟨#[41, 124, 40]⟩ ++ b ++ ⟨#[41]⟩
def rowT (a b : ByteArray) : ByteArray := ⟨#[40]⟩ ++ a ++ ⟨#[41, 40]⟩ ++ b ++ ⟨#[41]⟩
def oneT (a : ByteArray) (c : UInt8) : ByteArray := ⟨#[40]⟩ ++ a ++ ⟨#[41, c]⟩
def moreT (a : ByteArray) : ByteArray := ⟨#[40]⟩ ++ a ++ ⟨#[41, 40]⟩ ++ a ++ ⟨#[41, 42]⟩
def pcE (x y : Pc) : Bool := x.op == y.op && x.text.data.toList == y.text.data.toList && x.kids == y.kids
theorem pcE_eq {x y : Pc} (h : pcE x y = true) : x = y := by
  obtain ⟨a, ⟨⟨t⟩⟩, k⟩ := x
  obtain ⟨b, ⟨⟨u⟩⟩, l⟩ := y
  simp only [pcE, Bool.and_eq_true, beq_iff_eq] at h
  obtain ⟨⟨rfl, h2⟩, rfl⟩ := h
  subst h2
  rfl
def psE : List Pc → List Pc → Bool
  | [], [] => true
  | x :: r, y :: s => pcE x y && psE r s
  | _, _ => false
theorem psE_eq : ∀ {a b : List Pc}, psE a b = true → a = b
  | [], [], _ => rfl
  | x :: r, y :: s, h => by
    simp only [psE, Bool.and_eq_true] at h
    rw [pcE_eq h.1, psE_eq h.2]
  | [], _ :: _, h => by cases h
  | _ :: _, [], h => by cases h
def rdE' (t : ByteArray) (L : List Pc) : Bool := match readP t with | some o => psE o L | none => false
theorem rdE'_eq {t : ByteArray} {L : List Pc} (h : rdE' t L = true) : readP t = some L := by
  unfold rdE' at h
  split at h
  · rw [‹readP t = _›, psE_eq h]
  · cases h
def oneB (a : ByteArray) : Bool := match readP a with | some A => rdE' (oneT a 42) (oneL 7 A) && rdE' (oneT a 43) (oneL 8 A) && rdE' (oneT a 63) (oneL 9 A) && rdE' (moreT a) (twoL 5 A (oneL 7 A)) | none => false
def twoB (a b : ByteArray) : Bool := match readP a, readP b with | some A, some B => rdE' (altT a b) (twoL 6 A B) && rdE' (rowT a b) (twoL 5 A B) | _, _ => false
theorem one_all : txs.all oneB = true := by decide +kernel
theorem two_all : (txs.all fun a => txs.all fun b => twoB a b) = true := by decide +kernel
theorem txs_small : (txs.all fun a => decide (a.size ≤ 7)) = true := by decide +kernel
end Go.Sim
namespace Go.Proofs.Ytciajhpeikemoaa
open Go Go.Sim Go.Proofs
set_option linter.unusedSimpArgs false
set_option linter.unusedVariables false
set_option maxRecDepth 100000
set_option maxHeartbeats 1000000
theorem nameI (n : Int) {G : Prop} (k : ∀ N, N = n → G) : G := k n rfl
/-- The cursor of a draw: the slice of its bytes, its place, its number. -/
def curO (p : Nat) (S : Value) (i : Nat) (x : Int) : AOb := .cells [S, .int .i64 (i : Nat), .int .i64 x] .solo p
/-- Bytes that are drawn from. -/
structure Bts (p : Nat) (h : AH) (S : Value) (l : List Nat) : Prop where
  sl : ∃ A c, S = .slice A l.length c ∧ ∀ i (hi : i < l.length), ∃ id off, A = some ⟨id, off, none⟩ ∧ id < h.n ∧ id ≠ p ∧ rd h id (off + i * 1) 1 = some [.int .u8 (l[i] : Nat)]
  lt : ∀ n ∈ l, n < 256
  len : l.length ≤ 1048576
/-- A cursor that stands somewhere. -/
def Cur (p : Nat) (S : Value) (l : List Nat) (h : AH) : Prop := ∃ i x, h.ob p = curO p S i x ∧ i ≤ l.length
/-- All that a draw needs. -/
structure Dw (p : Nat) (S : Value) (l : List Nat) (h : AH) : Prop where
  bts : Bts p h S l
  cur : Cur p S l h
  lt : p < h.n
/-- What a draw leaves behind: its cursor moved; all else as it was. -/
structure Dn (p : Nat) (S : Value) (l : List Nat) (h h' : AH) : Prop where
  n : h.n ≤ h'.n
  ob : ∀ j, j < h.n → j ≠ p → h'.ob j = h.ob j
  cur : Cur p S l h'
theorem Dw.refl {p : Nat} {S : Value} {l : List Nat} {h : AH} (d : Dw p S l h) : Dn p S l h h := ⟨Nat.le_refl _, fun _ _ _ => rfl, d.cur⟩
theorem Dn.trans {p : Nat} {S : Value} {l : List Nat} {a b c : AH} (x : Dn p S l a b) (y : Dn p S l b c) : Dn p S l a c := ⟨Nat.le_trans x.n y.n, fun j h1 h2 => (y.ob j (Nat.lt_of_lt_of_le h1 x.n) h2).trans (x.ob j h1 h2), y.cur⟩
theorem Cur.pre {p : Nat} {S : Value} {l : List Nat} {h h' : AH} (d : Cur p S l h) (e : h'.ob p = h.ob p) : Cur p S l h' := by
  obtain ⟨i, x, e', hi⟩ := d
  exact ⟨i, x, e.trans e', hi⟩
theorem Dn.alloc {p : Nat} {S : Value} {l : List Nat} {h h' : AH} (d : Dn p S l h h') (hp : p < h.n) (o : AOb) : Dn p S l h (h'.alloc o) :=
  ⟨Nat.le_trans d.n (le_alloc o), fun j h1 h2 => (alloc_lt o (Nat.lt_of_lt_of_le h1 d.n)).trans (d.ob j h1 h2), d.cur.pre (alloc_lt o (Nat.lt_of_lt_of_le hp d.n))⟩
theorem Dn.set {p : Nat} {S : Value} {l : List Nat} {h h' : AH} (d : Dn p S l h h') (hp : p < h.n) {j : Nat} (hj : h.n ≤ j) (o : AOb) : Dn p S l h (h'.set j o) :=
  ⟨d.n, fun i h1 h2 => (set_ne o (by omega)).trans (d.ob i h1 h2), d.cur.pre (set_ne o (by omega))⟩
theorem Dn.pre {p : Nat} {S : Value} {l : List Nat} {h h' h'' : AH} (d : Dn p S l h h') (hp : p < h.n) (q : Pre h' h'') : Dn p S l h h'' :=
  ⟨Nat.le_trans d.n q.n, fun j h1 h2 => (q.ob j (Nat.lt_of_lt_of_le h1 d.n)).trans (d.ob j h1 h2), d.cur.pre (q.ob p (Nat.lt_of_lt_of_le hp d.n))⟩
theorem Dw.dn {p : Nat} {S : Value} {l : List Nat} {h h' : AH} (d : Dw p S l h) (w : Dn p S l h h') : Dw p S l h' := by
  obtain ⟨A, c, e, r⟩ := d.bts.sl
  refine ⟨⟨⟨A, c, e, fun i hi => ?_⟩, d.bts.lt, d.bts.len⟩, w.cur, Nat.lt_of_lt_of_le d.lt w.n⟩
  obtain ⟨id, off, e1, h1, h2, h3⟩ := r i hi
  exact ⟨id, off, e1, Nat.lt_of_lt_of_le h1 w.n, h2, by rw [← h3, rd_eq, rd_eq, w.ob id h1 h2]⟩
theorem Dw.toDn {p : Nat} {S : Value} {l : List Nat} {h h' : AH} (d : Dw p S l h) (q : Pre h h') : Dn p S l h h' := d.refl.pre d.lt q
theorem Dw.pre {p : Nat} {S : Value} {l : List Nat} {h h' : AH} (d : Dw p S l h) (q : Pre h h') : Dw p S l h' := d.dn (d.toDn q)
def m255 (a : Int) : Nat := (BitVec.ofInt IntKind.i64.bits a &&& BitVec.ofInt IntKind.i64.bits 255).toNat
theorem m255_lt (a : Int) : m255 a < 256 := by
  unfold m255
  rw [BitVec.toNat_and]
  have h2 : (BitVec.ofInt IntKind.i64.bits 255).toNat = 255 := by decide
  rw [h2]
  exact Nat.lt_of_le_of_lt Nat.and_le_right (by omega)
theorem m255_eq (a : Int) : IntKind.i64.wrap (BitVec.ofInt IntKind.i64.bits a &&& BitVec.ofInt IntKind.i64.bits 255).toNat = (m255 a : Nat) := by
  have := m255_lt a
  rw [w64 (by unfold m255 at this; omega) (by unfold m255 at this; omega)]
  rfl
theorem CC.num {f : FuncId} {args : List Value} {h : AH} {p : Nat} {S : Value} {l : List Nat} {Q : Nat → Prop} {K : Value → AH → Prop} (hc : CC Try.prog f args h fun v h' => (∃ y : Nat, v = .int .i64 (y : Nat) ∧ Q y) ∧ Dn p S l h h')
    (hk : ∀ (y : Nat) h', Q y → Dn p S l h h' → K (.int .i64 (y : Nat)) h') : CC Try.prog f args h K := CC.mono hc (fun v h' ⟨⟨y, e, q⟩, d⟩ => by subst e; exact hk y h' q d)
theorem CC.txt {f : FuncId} {args : List Value} {h : AH} {p : Nat} {S : Value} {l : List Nat} {Q : ByteArray → Prop} {K : Value → AH → Prop} (hc : CC Try.prog f args h fun v h' => (∃ y : ByteArray, v = .string y ∧ Q y) ∧ Dn p S l h h')
    (hk : ∀ (y : ByteArray) h', Q y → Dn p S l h h' → K (.string y) h') : CC Try.prog f args h K := CC.mono hc (fun v h' ⟨⟨y, e, q⟩, d⟩ => by subst e; exact hk y h' q d)
theorem l01Byte_c (p : Nat) (S : Value) (l : List Nat) (h : AH) (d : Dw p S l h) :
    CC Try.prog 78 [.pointer (some ⟨p, 0, none⟩)] h (fun v h' => (∃ y : Nat, v = .int .i64 (y : Nat) ∧ y < 256) ∧ Dn p S l h h') := by
  have hp := d.lt
  obtain ⟨⟨A, c, rfl, hR⟩, hlt', hlen⟩ := d.bts
  obtain ⟨i, x, e, hi⟩ := d.cur
  have dd := d.refl
  have key : ∀ i' x', i' ≤ l.length → Dn p (.slice A l.length c) l h (h.set p (curO p (.slice A l.length c) i' x')) := fun i' x' hi' => ⟨Nat.le_refl _, fun j _ h2 => set_ne _ h2, ⟨i', x', set_same _ _, hi'⟩⟩
  simp only [curO] at e
  refine CC.ofN Try.func78 Try.ntmps78 Try.results78 rfl (by decide) (by kernel_rfl) ?_
  simp (maxSteps := 1000000) -implicitDefEqProofs only [push_cast, seval, e, hp, rd_of e, rd1_of e]
  with_reducible refine nameI (IntKind.i64.wrap (IntKind.i64.wrap (x * 6364136223846793005) + 1442695040888963407)) (fun X hX => ?_)
  rw [← hX]
  refine WC.draw' (by kernel_rfl) (by kernel_rfl) (.q 0 (.q 1 (.q 2 (.q 3 (.q 4 (.q 5 (.q 6 (.q 7 (.q 8 (.q 9 (.q 10 (.q 11 (.q 12 (.done)))))))))))))) (by kernel_rfl) ?_
  simp (maxSteps := 1000000) -implicitDefEqProofs only [push_cast, seval, e, hp, rd_of e, rd1_of e, m255_eq]
  with_reducible refine nameN (m255 (IntKind.i64.wrap ((BitVec.ofInt IntKind.i64.bits (X.fdiv (2 ^ min 33 IntKind.i64.bits)) ^^^ BitVec.ofInt IntKind.i64.bits (X.fdiv (2 ^ min 45 IntKind.i64.bits))).toNat : Nat))) (fun Y hY => ?_)
  have hY2 : Y < 256 := by rw [hY]; exact m255_lt _
  rw [← hY]
  clear hY
  refine WC.draw' (by kernel_rfl) (by kernel_rfl) (.q 0 (.q 1 (.q 2 (.q 3 (.q 4 (.q 5 (.q 6 (.q 7 (.q 8 (.q 9 (.done))))))))))) (by kernel_rfl) ?_
  simp (maxSteps := 1000000) -implicitDefEqProofs only [push_cast, seval, e, hp, rd_of e, rd1_of e, m255_eq]
  with_reducible refine bcase_d (fun hb => ?_) (fun hb => ?_)
  · have hi' : i < l.length := by omega
    have hx := hR i hi'
    with_reducible refine Exists.elim hx (fun id hx => ?_)
    with_reducible refine Exists.elim hx (fun off hx => ?_)
    have eA := hx.1
    have hlt := hx.2.1
    have hne := hx.2.2.1
    have hr := hx.2.2.2
    clear hx
    subst eA
    rw [Nat.mul_one] at hr
    have r0 := rd_1 hr
    have r1 : ∀ O, rd1 (h.set p O) id (off + i * 1) = some (.int .u8 (l[i] : Nat)) := fun O => by
      rw [rd1_eq, set_ne _ hne, ← rd1_eq, Nat.mul_one]; exact r0
    have hlt2 := hlt' l[i] (List.getElem_mem hi')
    refine WC.draw' (by kernel_rfl) (by kernel_rfl) (.q 0 (.q 1 (.q 2 (.q 3 (.q 4 (.q 5 (.q 6 (.q 7 (.q 8 (.q 9 (.q 10 (.q 11 (.q 12 (.q 13 (.q 14 (.done)))))))))))))))) (by kernel_rfl) ?_
    simp (maxSteps := 1000000) -implicitDefEqProofs only [push_cast, seval, e, hp, rd_of e, rd1_of e, m255_eq, hr, r0, r1, hlt, hne]
    refine And.intro (by omega) (And.intro (by omega) ?_)
    rw [wrapSucc (by omega)]
    exact ⟨⟨_, rfl, m255_lt _⟩, key (i + 1) X hi'⟩
  · simp (maxSteps := 1000000) -implicitDefEqProofs only [push_cast, seval]
    exact ⟨⟨Y, rfl, hY2⟩, key i X hi⟩
theorem l01Below_c (p : Nat) (S : Value) (l : List Nat) (n : Int) (h : AH) (d : Dw p S l h) :
    CC Try.prog 79 [.pointer (some ⟨p, 0, none⟩), .int .i64 n] h (fun v h' => (∃ y : Nat, v = .int .i64 (y : Nat) ∧ (0 < n → (y : Int) < n) ∧ (n ≤ 0 → y = 0)) ∧ Dn p S l h h') := by
  refine CC.ofN Try.func79 Try.ntmps79 Try.results79 rfl (by decide) (by kernel_rfl) ?_
  simp (maxSteps := 1000000) -implicitDefEqProofs only [push_cast, seval]
  with_reducible refine bcase_d (fun hb => ?_) (fun hb => ?_)
  · simp (maxSteps := 1000000) -implicitDefEqProofs only [push_cast, seval]
    exact ⟨⟨0, rfl, fun e => by omega, fun _ => rfl⟩, d.refl⟩
  have md : ∀ a : Nat, ∃ y : Nat, (a : Int).tmod n = (y : Nat) ∧ (y : Int) < n := fun a => by
    obtain ⟨m, rfl⟩ := Int.eq_ofNat_of_zero_le (show 0 ≤ n by omega)
    refine ⟨a % m, ?_, ?_⟩
    · rw [Int.tmod_eq_emod_of_nonneg (by omega)]; rfl
    · have := Nat.mod_lt a (show 0 < m by omega); omega
  have hn0 : n ≠ 0 := by omega
  simp (maxSteps := 1000000) -implicitDefEqProofs only [push_cast, seval]
  with_reducible refine bcase_d (fun hb2 => ?_) (fun hb2 => ?_)
  · simp (maxSteps := 1000000) -implicitDefEqProofs only [push_cast, seval]
    with_reducible refine CC.num (l01Byte_c p S l _ d) (fun y h1 hy d1 => ?_)
    simp (maxSteps := 1000000) -implicitDefEqProofs only [push_cast, seval]
    refine And.intro hn0 ?_
    obtain ⟨z, ez, hz⟩ := md y
    rw [ez]
    exact ⟨⟨z, rfl, fun _ => hz, fun e => by omega⟩, d1⟩
  · simp (maxSteps := 1000000) -implicitDefEqProofs only [push_cast, seval]
    with_reducible refine CC.num (l01Byte_c p S l _ d) (fun y1 h1 q1 d1 => ?_)
    simp (maxSteps := 1000000) -implicitDefEqProofs only [push_cast, seval]
    with_reducible refine CC.num (l01Byte_c p S l _ (d.dn d1)) (fun y2 h2 q2 d2 => ?_)
    simp (maxSteps := 1000000) -implicitDefEqProofs only [push_cast, seval]
    with_reducible refine CC.num (l01Byte_c p S l _ ((d.dn d1).dn d2)) (fun y3 h3 q3 d3 => ?_)
    simp (maxSteps := 1000000) -implicitDefEqProofs only [push_cast, seval]
    with_reducible refine CC.num (l01Byte_c p S l _ (((d.dn d1).dn d2).dn d3)) (fun y4 h4 q4 d4 => ?_)
    with_reducible refine nameN (y1 * 16777216 + y2 * 65536 + y3 * 256 + y4) (fun Z hZ => ?_)
    have w : IntKind.i64.wrap (IntKind.i64.wrap (IntKind.i64.wrap (IntKind.i64.wrap ((y1 : Int) * 16777216) + IntKind.i64.wrap ((y2 : Int) * 65536)) + IntKind.i64.wrap ((y3 : Int) * 256)) + y4) = (Z : Int) := by
      rw [hZ, w64 (n := (y1 : Int) * 16777216) (by omega) (by omega), w64 (n := (y2 : Int) * 65536) (by omega) (by omega), w64 (n := (y3 : Int) * 256) (by omega) (by omega), w64 (n := (y1 : Int) * 16777216 + (y2 : Int) * 65536) (by omega) (by omega), w64 (n := (y1 : Int) * 16777216 + (y2 : Int) * 65536 + (y3 : Int) * 256) (by omega) (by omega), w64 (by omega) (by omega)]
      omega
    obtain ⟨z, ez, hz⟩ := md Z
    simp (maxSteps := 1000000) -implicitDefEqProofs only [push_cast, seval, w, ez]
    exact And.intro hn0 ⟨⟨z, rfl, fun _ => hz, fun e => by omega⟩, ((d1.trans d2).trans d3).trans d4⟩
theorem CC.bol {f : FuncId} {args : List Value} {h : AH} {p : Nat} {S : Value} {l : List Nat} {K : Value → AH → Prop} (hc : CC Try.prog f args h fun v h' => (∃ y : Bool, v = .bool y) ∧ Dn p S l h h')
    (hk : ∀ (y : Bool) h', Dn p S l h h' → K (.bool y) h') : CC Try.prog f args h K := CC.mono hc (fun v h' ⟨⟨y, e⟩, d⟩ => by subst e; exact hk y h' d)
theorem l01Once_c (p : Nat) (S : Value) (l : List Nat) (n : Int) (h : AH) (d : Dw p S l h) :
    CC Try.prog 131 [.pointer (some ⟨p, 0, none⟩), .int .i64 n] h (fun v h' => (∃ y : Bool, v = .bool y) ∧ Dn p S l h h') := by
  refine CC.ofN Try.func131 Try.ntmps131 Try.results131 rfl (by decide) (by kernel_rfl) ?_
  simp (maxSteps := 1000000) -implicitDefEqProofs only [push_cast, seval]
  with_reducible refine CC.num (l01Below_c p S l _ _ d) (fun y h1 q d1 => ?_)
  simp (maxSteps := 1000000) -implicitDefEqProofs only [push_cast, seval]
  exact ⟨⟨_, rfl⟩, d1⟩
def strs (Q : ByteArray → Prop) : List Value → Prop
  | [] => True
  | .string y :: r => Q y ∧ strs Q r
  | _ => False
theorem strs_at {Q : ByteArray → Prop} : ∀ {cs : List Value} {i : Nat}, strs Q cs → i < cs.length → ∃ y, cs[i]? = some (.string y) ∧ Q y
  | .string y :: r, 0, h, _ => ⟨y, rfl, h.1⟩
  | .string y :: r, i + 1, h, hi => strs_at (cs := r) h.2 (by simpa using hi)
theorem l01Pick_c (p : Nat) (S : Value) (l : List Nat) (id n : Nat) (Q : ByteArray → Prop) (cs : List Value) (h : AH) (d : Dw p S l h) (e : h.ob id = .cells cs .solo id) (hc : strs Q cs) (hn : cs.length = n) (h0 : 0 < n) (hlt : id < h.n) :
    CC Try.prog 98 [.pointer (some ⟨p, 0, none⟩), .slice (some ⟨id, 0, none⟩) n 1] h (fun v h' => (∃ y : ByteArray, v = .string y ∧ Q y) ∧ Dn p S l h h') := by
  subst hn
  have hne : id ≠ p := fun e' => by
    subst e'
    obtain ⟨i, x, e2, _⟩ := d.cur
    rw [e] at e2
    obtain ⟨A, c, rfl, _⟩ := d.bts.sl
    simp only [curO, AOb.cells.injEq] at e2
    rw [e2.1] at hc
    exact hc
  refine CC.ofN Try.func98 Try.ntmps98 Try.results98 rfl (by decide) (by kernel_rfl) ?_
  simp (maxSteps := 1000000) -implicitDefEqProofs only [push_cast, seval]
  with_reducible refine CC.num (l01Below_c p S l _ _ d) (fun y h1 q d1 => ?_)
  have hy : (y : Int) < cs.length := q.1 (by omega)
  have hy' : y < cs.length := by omega
  have e1 : h1.ob id = _ := (d1.ob id hlt hne).trans e
  have l1 : id < h1.n := Nat.lt_of_lt_of_le hlt d1.n
  have hz := strs_at hc hy'
  with_reducible refine Exists.elim hz (fun z hz => ?_)
  have g1 : rd1 h1 id (y * 1) = some (.string z) := by rw [rd1_of e1, rd1O_cells, Nat.mul_one]; exact hz.1
  have hQ := hz.2
  simp (maxSteps := 1000000) -implicitDefEqProofs only [push_cast, seval, l1, g1]
  refine And.intro (by omega) (And.intro (by omega) ?_)
  exact ⟨⟨z, rfl, hQ⟩, d1⟩
def byV (n : Nat) : List Value := [.int .u8 (n : Nat)]
theorem byte_wf {n : Int} (h : (Lit.int .u8 n).wf = true) : 0 ≤ n ∧ n < 256 := by
  have e1 : IntKind.u8.min = 0 := by decide
  have e2 : IntKind.u8.max = 255 := by decide
  simp [Lit.wf, e1, e2] at h
  omega
theorem big_c (A : Option Addr) (n c : Nat) (h : AH) : CD Try.prog 12 [.slice A n c] h (.bool (decide ((1048576 : Int) < n))) h := by
  refine CD.quiet ?_ (low_bool _ _)
  refine CC.ofN Try.func12 Try.ntmps12 Try.results12 rfl (by decide) (by kernel_rfl) ?_
  simp (maxSteps := 1000000) -implicitDefEqProofs only [push_cast, seval]
  repeat' (first | with_reducible (first | exact Keep.refl _ _ | assumption | exact byte_lt _ _ | apply Keep.alloc | (refine Keep.set ?_ ?_; rotate_left; · omega) | apply Pre.alloc | apply Pre.set | exact Pre.refl _ | exact le_alloc _ | (refine Pre.keep ?_; assumption) | (refine Pre.n ?_; assumption)) | ((with_reducible (first | refine bcase_d (fun hb => ?_) (fun hb => ?_) | refine bcase_mk (fun hb => ?_) (fun hb => ?_))) <;> try simp (maxSteps := 1000000) -implicitDefEqProofs only [push_cast, seval]) | with_reducible refine And.intro ?_ ?_ | omega | (simp only [alloc_n, set_n, kill_n]; omega) | (exfalso; omega))
theorem l01New_c (A : Option Addr) (c : Nat) (l : List Nat) (h : AH) (hR : RdE h A 1 byV l) (big : Big h) (hl : ∀ n ∈ l, n < 256) (hn : l.length ≤ 1048576) :
    CC Try.prog 42 [.slice A l.length c] h (fun v h' => v = .pointer (some ⟨h.n, 0, none⟩) ∧ Dw h.n (.slice A l.length c) l h' ∧ Pre h h') := by
  refine CC.ofN Try.func42 Try.ntmps42 Try.results42 rfl (by decide) (by kernel_rfl) ?_
  simp (maxSteps := 1000000) -implicitDefEqProofs only [push_cast, seval]
  refine WC.loopA (by kernel_rfl) [3, 4] [8, 9, 10, 11, 12, 13, 14, 15, 16, 17, 18, 19, 20, 21, 22, 23, 24, 25, 26, 27] (fun a : Nat × Int => [.int .i64 a.2, .int .i64 (a.1 : Nat)]) (fun a h' => a.1 ≤ l.length ∧ h' = h) (fun a => l.length - a.1) (0, IntKind.i64.wrap (38001 + (l.length : Int))) (by kernel_rfl) ⟨Nat.zero_le _, rfl⟩ ?_
  intro a g h1 hJ
  have hi := hJ.1
  have hh := hJ.2
  clear hJ
  subst hh
  have fin : ∀ x : Int, Dw h1.n (.slice A l.length c) l (h1.alloc (.cells [.slice A l.length c, .int .i64 0, .int .i64 x] .solo h1.n)) := fun x =>
    ⟨⟨⟨A, c, rfl, fun i hi => by
      obtain ⟨id, off, e, hr⟩ := hR i hi
      have hlt := big.lt hr
      exact ⟨id, off, e, Nat.lt_of_lt_of_le hlt (le_alloc _), by omega, by rw [rd_alloc_lt _ hlt]; exact hr⟩⟩, hl, hn⟩, ⟨0, x, alloc_same _, Nat.zero_le _⟩, lt_alloc _⟩
  simp (maxSteps := 1000000) -implicitDefEqProofs only [push_cast, seval]
  with_reducible refine bcase_d (fun hb => ?_) (fun hb => ?_)
  · simp (maxSteps := 1000000) -implicitDefEqProofs only [push_cast, seval]
    with_reducible refine bcase_d (fun hb2 => ?_) (fun hb2 => ?_)
    · have hi' : a.1 < l.length := by omega
      with_reducible refine hR.use big (Pre.refl _) hi' (fun id off eA hlt hr => ?_)
      subst eA
      simp only [byV] at hr
      have r0 := rd_1 hr
      simp (maxSteps := 1000000) -implicitDefEqProofs only [push_cast, seval, hr, r0, hlt]
      refine And.intro (by omega) (And.intro (by omega) ?_)
      rw [wrapSucc (by omega)]
      refine ⟨(a.1 + 1, IntKind.i64.wrap (BitVec.ofInt IntKind.i64.bits (IntKind.i64.wrap (IntKind.i64.wrap (IntKind.i64.wrap (a.2 * 131) + IntKind.i64.wrap (l[a.1] : Nat)) + 7)) &&& BitVec.ofInt IntKind.i64.bits 1073741823).toNat), by kernel_rfl, by show a.1 + 1 ≤ l.length; omega, by show l.length - (a.1 + 1) < l.length - a.1; omega⟩
    · simp (maxSteps := 1000000) -implicitDefEqProofs only [push_cast, seval]
      exact ⟨fin _, (Pre.refl _).alloc _⟩
  · simp (maxSteps := 1000000) -implicitDefEqProofs only [push_cast, seval]
    exact ⟨fin _, (Pre.refl _).alloc _⟩
end Go.Proofs.Ytciajhpeikemoaa
namespace Go.Proofs.Ytciajhpeikemoaa
open Go Go.Sim Go.Proofs
set_option linter.unusedSimpArgs false
set_option linter.unusedVariables false
set_option maxRecDepth 100000
set_option maxHeartbeats 4000000
theorem within_c (n lo hi : Int) (h : AH) : CD Try.prog 48 [.int .i64 n, .int .i64 lo, .int .i64 hi] h (.bool (inB n lo hi)) h := by
  refine CD.quiet ?_ (low_bool _ _)
  refine CC.ofN Try.func48 Try.ntmps48 Try.results48 rfl (by decide) (by kernel_rfl) ?_
  simp (maxSteps := 1000000) -implicitDefEqProofs only [push_cast, seval]
  repeat' (first | with_reducible (first | exact Keep.refl _ _ | assumption | exact byte_lt _ _ | apply Keep.alloc | (refine Keep.set ?_ ?_; rotate_left; · omega) | apply Pre.alloc | apply Pre.set | exact Pre.refl _ | exact le_alloc _ | (refine Pre.keep ?_; assumption) | (refine Pre.n ?_; assumption)) | ((with_reducible (first | refine bcase_d (fun hb => ?_) (fun hb => ?_) | refine bcase_mk (fun hb => ?_) (fun hb => ?_))) <;> try simp (maxSteps := 1000000) -implicitDefEqProofs only [push_cast, seval]) | with_reducible refine And.intro ?_ ?_ | omega | (simp only [alloc_n, set_n, kill_n]; omega) | (exfalso; omega))
  all_goals simp [hb, inB]
theorem l01In_c (n lo hi : Int) (h : AH) : CD Try.prog 46 [.int .i64 n, .int .i64 lo, .int .i64 hi] h (.bool (inB n lo hi)) h := by
  refine CD.quiet ?_ (low_bool _ _)
  refine CC.ofN Try.func46 Try.ntmps46 Try.results46 rfl (by decide) (by kernel_rfl) ?_
  simp (maxSteps := 1000000) -implicitDefEqProofs only [push_cast, seval]
  repeat' (first | with_reducible (first | exact Keep.refl _ _ | assumption | exact byte_lt _ _ | apply Keep.alloc | (refine Keep.set ?_ ?_; rotate_left; · omega) | apply Pre.alloc | apply Pre.set | exact Pre.refl _ | exact le_alloc _ | (refine Pre.keep ?_; assumption) | (refine Pre.n ?_; assumption)) | ((with_reducible (first | refine bcase_d (fun hb => ?_) (fun hb => ?_) | refine bcase_mk (fun hb => ?_) (fun hb => ?_))) <;> try simp (maxSteps := 1000000) -implicitDefEqProofs only [push_cast, seval]) | with_reducible refine And.intro ?_ ?_ | omega | (simp only [alloc_n, set_n, kill_n]; omega) | (exfalso; omega))
  all_goals simp [hb, inB]
theorem isLetter_c (c : Int) (h0 : 0 ≤ c) (h1 : c < 256) (h : AH) : CD Try.prog 143 [.int .u8 c] h (.bool (letter c)) h := by
  refine CD.quiet ?_ (low_bool _ _)
  refine CC.ofN Try.func143 Try.ntmps143 Try.results143 rfl (by decide) (by kernel_rfl) ?_
  simp (maxSteps := 1000000) -implicitDefEqProofs only [push_cast, seval]
  rw [w64 (by omega) (by omega)]
  repeat' (first | with_reducible (first | exact Keep.refl _ _ | assumption | exact byte_lt _ _ | apply Keep.alloc | (refine Keep.set ?_ ?_; rotate_left; · omega) | apply Pre.alloc | apply Pre.set | exact Pre.refl _ | exact le_alloc _ | (refine Pre.keep ?_; assumption) | (refine Pre.n ?_; assumption)) | ((with_reducible (first | refine CD.to (within_c _ _ _ _) ?_ | refine CQ.pure (fun _ => within_c _ _ _ _) ?_ | refine bcase_d (fun hb => ?_) (fun hb => ?_) | refine bcase_mk (fun hb => ?_) (fun hb => ?_))) <;> try simp (maxSteps := 1000000) -implicitDefEqProofs only [push_cast, seval]) | with_reducible refine And.intro ?_ ?_ | omega | (simp only [alloc_n, set_n, kill_n]; omega) | (exfalso; omega))
  · simp [letter, hb]
  · rw [w64 (by omega) (by omega)]; simp [letter, hb]
theorem l05Letter_c (c : Int) (h : AH) : CD Try.prog 137 [.int .u8 c] h (.bool (letter c)) h := by
  refine CD.quiet ?_ (low_bool _ _)
  refine CC.ofN Try.func137 Try.ntmps137 Try.results137 rfl (by decide) (by kernel_rfl) ?_
  simp (maxSteps := 1000000) -implicitDefEqProofs only [push_cast, seval]
  repeat' (first | with_reducible (first | exact Keep.refl _ _ | assumption | exact byte_lt _ _ | apply Keep.alloc | (refine Keep.set ?_ ?_; rotate_left; · omega) | apply Pre.alloc | apply Pre.set | exact Pre.refl _ | exact le_alloc _ | (refine Pre.keep ?_; assumption) | (refine Pre.n ?_; assumption)) | ((with_reducible (first | refine bcase_d (fun hb => ?_) (fun hb => ?_) | refine bcase_mk (fun hb => ?_) (fun hb => ?_))) <;> try simp (maxSteps := 1000000) -implicitDefEqProofs only [push_cast, seval]) | with_reducible refine And.intro ?_ ?_ | omega | (simp only [alloc_n, set_n, kill_n]; omega) | (exfalso; omega))
  all_goals simp [letter, inB, *]
theorem isLetters_c (s : ByteArray) (hs : s.size ≤ maxLen) (h : AH) : CD Try.prog 92 [.string s] h (.bool (letters s)) h := by
  refine CD.quiet ?_ (low_bool _ _)
  refine CC.ofN Try.func92 Try.ntmps92 Try.results92 rfl (by decide) (by kernel_rfl) ?_
  simp (maxSteps := 1000000) -implicitDefEqProofs only [push_cast, seval]
  rw [maxLen_eq] at hs
  refine WC.loopA (by kernel_rfl) [6] [2, 3, 7, 8, 9, 10, 11, 12, 13, 14] (fun i : Nat => [.int .i64 i]) (fun i h' => (i ≤ s.size ∧ ∀ j, j < i → letter (byteAt s j).toNat = true) ∧ h' = h) (fun i => s.size - i) 0 (by kernel_rfl) ⟨⟨Nat.zero_le _, by omega⟩, rfl⟩ ?_
  intro i g h' hJ
  have hi := hJ.1.1
  have hj := hJ.1.2
  have e := hJ.2
  clear hJ
  subst e
  simp (maxSteps := 1000000) -implicitDefEqProofs only [push_cast, seval]
  repeat' (first | with_reducible (first | exact Keep.refl _ _ | assumption | exact byte_lt _ _ | apply Keep.alloc | (refine Keep.set ?_ ?_; rotate_left; · omega) | apply Pre.alloc | apply Pre.set | exact Pre.refl _ | exact le_alloc _ | (refine Pre.keep ?_; assumption) | (refine Pre.n ?_; assumption)) | ((with_reducible (first | refine CD.to (isLetter_c _ ?_ ?_ _) ?_ | refine CQ.pure (fun _ => isLetter_c _ ?_ ?_ _) ?_ | refine CD.to (within_c _ _ _ _) ?_ | refine CQ.pure (fun _ => within_c _ _ _ _) ?_ | refine bcase_d (fun hb => ?_) (fun hb => ?_) | refine bcase_mk (fun hb => ?_) (fun hb => ?_))) <;> try simp (maxSteps := 1000000) -implicitDefEqProofs only [push_cast, seval]) | with_reducible refine And.intro ?_ ?_ | omega | (simp only [alloc_n, set_n, kill_n]; omega) | (exfalso; omega))
  · rw [wrapSucc (by omega)]
    exact ⟨i + 1, by kernel_rfl, ⟨by omega, fun j hj' => (Nat.lt_succ_iff_lt_or_eq.1 hj').elim (hj j) (fun e => by subst e; exact hb)⟩, by omega⟩
  · simp only [letters, allAt_false (s := s) (i := i) (by omega) hb]; rfl
  · have : allAt s letter = true := allAt_iff.2 (fun j hj' => hj j (by omega))
    simp [letters, this]
end Go.Proofs.Ytciajhpeikemoaa
/- Regions that draw their order: a write that comes behind all that was read. Conditions: those that each theorem names. -/
set_option linter.unusedVariables false
set_option linter.unusedSimpArgs false
namespace Go.Sim
variable {P : Program} {FB : Nat → Prop} {w0 : World} {μ : Nat → Option Loc} {h : AH} {w : World} {ops : Array Oper}
/-- What reads memory. -/
def reads : Op → Bool
  | .load .. | .convert .. | .call _ => true
  | _ => false
theorem qid_reads {ρ : Operand → Value} {o : Op} {id : Nat} (e : qid ρ o = some id) : reads o = true := by
  cases o <;> first | rfl | (simp [qid] at e)
theorem ccall_reads {o : Op} {t : List Value} {X : Value → List Nat → Prop} (hk : ccall P o t h X) : reads o = true := by
  cases o <;> first | rfl | exact hk.elim
theorem cstep_reads {ds : List (Option Tmp)} {o : Oper} {t : List Value} {X : List Value → Value → List Nat → Prop} (hr : reads o.op = false) (hk : cstep P ds o t h X) : ∃ v, X t v [] := by
  unfold cstep at hk
  split at hk
  · exact absurd (ccall_reads hk) (by rw [hr]; decide)
  · rename_i j want hg
    rcases ag_cases hg hk with ⟨hw, hx⟩ | ⟨hw, hx⟩
    · exact absurd (ccall_reads hx) (by rw [hr]; decide)
    · exact ⟨_, hx⟩
/-- An operation that waits for all that read. -/
def lastR (ops : Array Oper) (i : Nat) : Bool :=
  match ops[i]? with
  | some o => (List.range ops.size).all fun k => k == i || !(match ops[k]? with | some x => reads x.op | none => false) || o.after.any fun e => Region.binds .any e && e.on == k
  | none => false
def planR (ops : Array Oper) : Nat → Plan → Array Bool → Bool
  | _, .done, l => (Region.ready .any ops l).isEmpty
  | n + 1, .q i p, l => (Region.ready .any ops l).contains i && Region.free .any ops l i && planR ops n p (l.setIfInBounds i true)
  | n + 1, .c i p, l => (Region.ready .any ops l).contains i && Region.free .any ops l i && (match ops[i]? with | some x => reads x.op | none => false) && planR ops n p (l.setIfInBounds i true)
  | n + 1, .a i fl p, l => (Region.ready .any ops l == [i]) && (!fl || lastR ops i) && planR ops n p (l.setIfInBounds i true)
  | n + 1, .b i p j p', l => (Region.ready .any ops l == [i, j]) && planR ops n p (l.setIfInBounds i true) && planR ops n p' (l.setIfInBounds j true)
  | 0, _, _ => false
def rdsAt (ops : Array Oper) (k : Nat) : Bool := match ops[k]? with | some x => reads x.op | none => false
theorem lastR_keep {i : Nat} {o : Oper} (ho : ops[i]? = some o) (hl : lastR ops i = true) (S : List (Nat × Nat)) (hS : ∀ p ∈ S, p.1 < ops.size ∧ p.1 ≠ i ∧ rdsAt ops p.1 = true) (h h' : AH) : keepS S o h h' := by
  intro p hp hn
  obtain ⟨h1, h2, h3⟩ := hS p hp
  simp only [lastR, ho, List.all_eq_true, List.mem_range, Bool.or_eq_true, beq_iff_eq] at hl
  rcases hl p.1 h1 with (e | e) | e
  · exact absurd e h2
  · exact absurd h3 (by unfold rdsAt; simpa using e)
  · obtain ⟨e, he, hb⟩ := Array.any_eq_true'.1 e
    simp only [Bool.and_eq_true, beq_iff_eq] at hb
    exact absurd ⟨e, he, hb.1, hb.2⟩ hn

theorem walk_treeR {Q : List Value → AH → Prop} : ∀ (n : Nat) (p : Plan) (listed : Array Bool) (S : List (Nat × Nat)) (t : List Value) (h : AH), planR ops n p listed = true → (∀ q ∈ S, q.1 < ops.size ∧ listed.getD q.1 true = true ∧ rdsAt ops q.1 = true) →
    walk P ops.toList (dsOf ops) p S t h Q → tree P ops S Q n listed t h
  | 0, .done, listed, S, t, h, hp, _, hw => by
    simp only [planR, List.isEmpty_iff] at hp
    exact ⟨hp, hw⟩
  | n + 1, .done, listed, S, t, h, hp, _, hw => by
    simp only [planR, List.isEmpty_iff] at hp
    exact ⟨fun _ => hw, fun i hi => by rw [hp] at hi; cases hi⟩
  | 0, .q .., listed, S, t, h, hp, _, hw => by simp [planR] at hp
  | 0, .a .., listed, S, t, h, hp, _, hw => by simp [planR] at hp
  | 0, .b .., listed, S, t, h, hp, _, hw => by simp [planR] at hp
  | n + 1, .q i p, listed, S, t, h, hp, hS, hw => by
    simp only [planR, Bool.and_eq_true] at hp
    obtain ⟨⟨hr, hf⟩, hp⟩ := hp
    have hr : i ∈ Region.ready .any ops listed := by simpa using hr
    obtain ⟨o, ho, hq, hv, hk⟩ := opAt_some hw
    have ho' : ops[i]? = some o := by simpa using ho
    have hk := one_a1 hk
    have hS' : ∀ q ∈ watch i o.op (aev t) S, q.1 < ops.size ∧ (listed.setIfInBounds i true).getD q.1 true = true ∧ rdsAt ops q.1 = true := by
      have old : ∀ q ∈ S, q.1 < ops.size ∧ (listed.setIfInBounds i true).getD q.1 true = true ∧ rdsAt ops q.1 = true := fun q hq => by
        refine ⟨(hS q hq).1, ?_, (hS q hq).2.2⟩
        by_cases e : i = q.1
        · subst e
          by_cases hlt : q.1 < listed.size <;> simp [hlt]
        · rw [getD_set_ne true e]; exact (hS q hq).2.1
      intro q hq
      unfold watch at hq
      split at hq
      · rcases List.mem_cons.1 hq with rfl | hq
        · refine ⟨(Array.getElem?_eq_some_iff.1 ho').1, ?_, by unfold rdsAt; rw [ho']; exact qid_reads (by assumption)⟩
          by_cases hlt : i < listed.size <;> simp [hlt]
        · exact old q hq
      · exact old q hq
    have main : ∃ v, walk P ops.toList (dsOf ops) p (watch i o.op (aev t) S) (put t o.dst v) h Q ∧ Qt P (dsOf ops) o t v (Kept (qid (aev t) o.op) h) := by
      unfold a1 at hk
      split at hk
      · rename_i hwant
        obtain ⟨v, hv1, hv2⟩ := aop_quiet hq hv hk
        exact ⟨v, hv1, by unfold Qt; rw [if_pos hwant]; exact fun h' hC K hK => aop_sound (hv2 h' hC K hK)⟩
      · rename_i hwant
        exact ⟨undef, hk, by unfold Qt; rw [if_neg hwant]⟩
    obtain ⟨v, hk', hqt⟩ := main
    refine tree_first (S2 := watch i o.op (aev t) S) (C := Kept (qid (aev t) o.op) h) ho' (fun p hp => ?_) (fun oj hnp h1 h2 hc hkeep id hid => ?_) n listed t h (Region.free_spec ho' hf) hr hqt (fun _ _ => rfl) (walk_treeR n p _ _ _ h hp hS' hk')
    · unfold watch; split
      · exact List.mem_cons_of_mem _ hp
      · exact hp
    · rw [← hc id hid]
      refine hkeep (i, id) ?_ hnp
      unfold watch; rw [hid]; simp
  | 0, .c .., listed, S, t, h, hp, _, hw => by simp [planR] at hp
  | n + 1, .c i p, listed, S, t, h, hp, hS, hw => by
    simp only [planR, Bool.and_eq_true] at hp
    obtain ⟨⟨⟨hr, hf⟩, hrd⟩, hp⟩ := hp
    have hr : i ∈ Region.ready .any ops listed := by simpa using hr
    obtain ⟨o, ho, hk⟩ := opAt_some hw
    have ho' : ops[i]? = some o := by simpa using ho
    obtain ⟨v, ids, hk', hqt⟩ := cstep_spec hk
    have hS' : ∀ q ∈ watchAll i ids S, q.1 < ops.size ∧ (listed.setIfInBounds i true).getD q.1 true = true ∧ rdsAt ops q.1 = true := by
      have old : ∀ q ∈ S, q.1 < ops.size ∧ (listed.setIfInBounds i true).getD q.1 true = true ∧ rdsAt ops q.1 = true := fun q hq => by
        refine ⟨(hS q hq).1, ?_, (hS q hq).2.2⟩
        by_cases e : i = q.1
        · subst e
          by_cases hlt : q.1 < listed.size <;> simp [hlt]
        · rw [getD_set_ne true e]; exact (hS q hq).2.1
      intro q hq
      unfold watchAll at hq
      rcases List.mem_append.1 hq with hq | hq
      · obtain ⟨id, _, rfl⟩ := List.mem_map.1 hq
        refine ⟨(Array.getElem?_eq_some_iff.1 ho').1, ?_, hrd⟩
        by_cases hlt : i < listed.size <;> simp [hlt]
      · exact old q hq
    refine tree_first (S2 := watchAll i ids S) (C := fun h' => ∀ id ∈ ids, h'.ob id = h.ob id) ho' (fun p hp => ?_) (fun oj hnp h1 h2 hc hkeep id hid => ?_) n listed t h (Region.free_spec ho' hf) hr hqt (fun _ _ => rfl) (walk_treeR n p _ _ _ h hp hS' hk')
    · exact List.mem_append_right _ hp
    · rw [← hc id hid]
      exact hkeep (i, id) (List.mem_append_left _ (List.mem_map.2 ⟨id, hid, rfl⟩)) hnp
  | n + 1, .a i fl p, listed, S, t, h, hp, hS, hw => by
    simp only [planR, Bool.and_eq_true, beq_iff_eq] at hp
    obtain ⟨⟨hr, hl⟩, hp⟩ := hp
    refine ⟨fun e => (by rw [e] at hr; cases hr), fun j hj oj hoj => ?_⟩
    have hjr := hj
    rw [hr] at hj
    obtain rfl : j = i := by simpa using hj
    obtain ⟨o, ho, hk⟩ := opAt_some hw
    have ho' : ops[j]? = some o := by simpa using ho
    obtain rfl : oj = o := by rw [hoj] at ho'; exact Option.some.inj ho'
    have hun := (mem_ready.1 hjr).1
    refine q1_mono (a1_q1 (one_a1 hk)) (fun t' h' q => ⟨?_, walk_treeR n p _ S t' h' hp (fun q hq => ⟨(hS q hq).1, ?_, (hS q hq).2.2⟩) q.2⟩)
    · cases fl with
      | true =>
        refine lastR_keep hoj (by simpa using hl) S (fun p hp => ⟨(hS p hp).1, (fun e => ?_), (hS p hp).2.2⟩) h h'
        have := (hS p hp).2.1
        rw [e, hun] at this; cases this
      | false => exact fun p hp _ => allKept_mem (by simpa using q.1) p hp
    · by_cases e : j = q.1
      · subst e
        by_cases hlt : q.1 < listed.size <;> simp [hlt]
      · rw [getD_set_ne true e]; exact (hS q hq).2.1
  | n + 1, .b i p j p', listed, S, t, h, hp, hS, hw => by
    simp only [planR, Bool.and_eq_true, beq_iff_eq] at hp
    obtain ⟨⟨hr, hp1⟩, hp2⟩ := hp
    have side : ∀ (k : Nat) (q : Plan), planR ops n q (listed.setIfInBounds k true) = true → (opAt ops.toList k fun o => aops P (dsOf ops) [o] t h fun t' h' => allKept S h h' ∧ walk P ops.toList (dsOf ops) q S t' h' Q) →
        ∀ o, ops[k]? = some o → q1 P (dsOf ops) o t h fun t' h' => keepS S o h h' ∧ tree P ops S Q n (listed.setIfInBounds k true) t' h' := by
      intro k q hq hk o ho
      obtain ⟨o', ho', hk⟩ := opAt_some hk
      have ho' : ops[k]? = some o' := by simpa using ho'
      obtain rfl : o = o' := by rw [ho] at ho'; exact Option.some.inj ho'
      refine q1_mono (a1_q1 (one_a1 hk)) (fun t' h' x => ⟨fun p hp _ => allKept_mem x.1 p hp, walk_treeR n q _ S t' h' hq (fun y hy => ⟨(hS y hy).1, ?_, (hS y hy).2.2⟩) x.2⟩)
      by_cases e : k = y.1
      · subst e
        by_cases hlt : y.1 < listed.size <;> simp [hlt]
      · rw [getD_set_ne true e]; exact (hS y hy).2.1
    refine ⟨fun e => (by rw [e] at hr; cases hr), fun k hk o ho => ?_⟩
    rw [hr] at hk
    simp only [List.mem_cons, List.not_mem_nil, or_false] at hk
    rcases hk with rfl | rfl
    · exact side _ p hp1 hw.1 o ho
    · exact side _ p' hp2 hw.2 o ho

/-- A region that draws its order: one walk by a plan. -/
theorem WC.drawR {id : Nat} {l : List Oper} {t : List Value} {Q : Exit → List Value → AH → Prop} (hm : P.follows .mixedOrders = true) (hok : codeOK P.globals.size (.region id l.toArray true) = true) (p : Plan)
    (hp : planR l.toArray l.toArray.size p (Array.replicate l.toArray.size false) = true) (hw : walk P l (dsts l) p [] t h (Q .normal)) : WC P (.region id l.toArray true) Q t h := by
  intro FB w0 μ a w Q' s ht hd hq
  have s' := s.drew
  refine wp_region_any hm (tree_sound (codeOK_ops hok) l.toArray.size _ t h μ a _ (walk_treeR l.toArray.size p _ [] t h hp (fun q hq => by cases hq) hw) s' ht hd (fun t' h' μ' a' w' q p' => hq .normal t' h' μ' a' w' q ⟨p'.sim, p'.ext, p'.unt⟩))
end Go.Sim
namespace Go.Proofs.Ytciajhpeikemoaa
open Go Go.Sim Go.Proofs
set_option linter.unusedSimpArgs false
set_option linter.unusedVariables false
set_option maxRecDepth 100000
set_option maxHeartbeats 1000000
/-- The cells of the program's reader. -/
def cI (s : ByteArray) (k : Nat) (bad : Bool) (v : Value) : List Value := [.string (s.extract k s.size), v, .bool bad]
theorem ext_size (s : ByteArray) (k : Nat) : (s.extract k s.size).size = s.size - k := by rw [ByteArray.size_extract]; omega
theorem ext_byte (s : ByteArray) (k i : Nat) (hi : k + i < s.size) : byteAt (s.extract k s.size) i = byteAt s (k + i) := by
  unfold byteAt
  simp only [Array.getD_eq_getD_getElem?, ByteArray.data_extract]
  congr 1
  rw [Array.getElem?_extract]
  have : s.data.size = s.size := rfl
  rw [if_pos (by omega)]
theorem ext_ext (s : ByteArray) (k i : Nat) (hi : k + i ≤ s.size) : (s.extract k s.size).extract i (s.size - k) = s.extract (k + i) s.size := by
  rw [ByteArray.extract_extract]
  congr 1
  omega
/-- The text that is left. -/
structure Txt (s : ByteArray) (k : Nat) (T : ByteArray) : Prop where
  eq : T = s.extract k s.size
  size : T.size = s.size - k
  emp : (T = ⟨#[]⟩) = (s.size ≤ k)
  byte : ∀ i, k + i < s.size → byteAt T i = byteAt s (k + i)
  rest : ∀ i, k + i ≤ s.size → T.extract i (s.size - k) = s.extract (k + i) s.size
  mid : ∀ i, k + i ≤ s.size → T.extract 0 i = s.extract k (k + i)
theorem Txt.of (s : ByteArray) (k : Nat) (hk : k ≤ s.size) : Txt s k (s.extract k s.size) := by
  refine ⟨rfl, ext_size s k, propext ⟨fun e => ?_, fun e => ?_⟩, ext_byte s k, ext_ext s k, fun i hi => ?_⟩
  · have := congrArg ByteArray.size e
    rw [ext_size] at this
    have e0 : (⟨#[]⟩ : ByteArray).size = 0 := rfl
    omega
  · have e1 := ext_size s k
    apply ByteArray.ext
    have : (s.extract k s.size).data.size = 0 := by show (s.extract k s.size).size = 0; omega
    exact Array.eq_empty_of_size_eq_zero this
  · rw [ByteArray.extract_extract]
    congr 1 <;> omega
theorem isAt_of {s : ByteArray} {k c : Nat} (hk : k < s.size) : isAt s k c = ((byteAt s k).toNat == c) := by simp [isAt, hk]
theorem isAt_no {s : ByteArray} {k c : Nat} (hk : s.size ≤ k) : isAt s k c = false := by simp [isAt]; omega
theorem rdv_cells {α : Type} {h : AH} {v : Value} {k : Nat} {enc : α → List Value} {l : List α} (r : RdV h v k enc l) : v.cells = #[v] := by
  rcases r with ⟨c, rfl, _⟩ | ⟨id, off, c, rfl, _⟩ <;> rfl
theorem decide_cast (a c : Nat) : Value.bool (decide ((a : Int) = (c : Int))) = Value.bool (a == c) := by
  congr 1
  rw [Bool.eq_iff_iff, decide_eq_true_eq, beq_iff_eq]
  omega
theorem copyInts_c (x : Value) (l : List Nat) (h : AH) (r : RdV h x 1 encNa l) (hl : l.length ≤ 1000) :
    CC Try.prog 99 [x] h (fun v h' => RdV h' v 1 encNa l ∧ (∀ i, atBlock v i → h.n ≤ i) ∧ Pre h h') := by
  refine CC.ofN Try.func99 Try.ntmps99 Try.results99 rfl (by decide) (by kernel_rfl) ?_
  simp (maxSteps := 1000000) -implicitDefEqProofs only [push_cast, seval]
  refine app_copy si26 (by decide) (by decide) (notInt_sl und26) (alloc_same _) (by show h.n < h.n + 1; omega) (r.pre ((Pre.refl h).alloc _)) encI_len (by omega) (fun h1 a1 n1 f1 => ?_)
  simp (maxSteps := 1000000) -implicitDefEqProofs only [push_cast, seval]
  refine ⟨.inr ⟨_, _, _, rfl, a1.rdAll, a1.lt⟩, fun i hi => ?_, ⟨by rw [n1]; show h.n ≤ h.n + 1 + 1; omega, fun i hi => (f1 i (by show i < h.n + 1; omega) (by omega)).trans (alloc_lt _ hi)⟩⟩
  have : h.n + 1 = i := hi
  omega
theorem is_c (p : Nat) (s : ByteArray) (k : Nat) (bad : Bool) (v : Value) (c : Nat) (h : AH) (e : h.ob p = .cells (cI s k bad v) .solo p) (hp : p < h.n) (hk : k ≤ s.size) (hs : s.size ≤ 24) :
    CD Try.prog 151 [.pointer (some ⟨p, 0, none⟩), .int .u8 (c : Nat)] h (.bool (isAt s k c)) h := by
  refine CD.quiet ?_ (low_bool _ _)
  have e : h.ob p = .cells [.string (s.extract k s.size), v, .bool bad] .solo p := e
  have hT := Txt.of s k hk
  generalize s.extract k s.size = T at e hT
  have tE := hT.emp
  have tS := hT.size
  refine CC.ofN Try.func151 Try.ntmps151 Try.results151 rfl (by decide) (by kernel_rfl) ?_
  simp (maxSteps := 1000000) -implicitDefEqProofs only [push_cast, seval, e, rd_of e, rd1_of e, hp, tE]
  with_reducible refine bcase_d (fun hb => ?_) (fun hb => ?_)
  · simp (maxSteps := 1000000) -implicitDefEqProofs only [push_cast, seval, e, rd_of e, rd1_of e, hp, tE]
    rw [isAt_no hb]
    exact ⟨rfl, Keep.refl _ _⟩
  · have hB := hT.byte 0 (by omega)
    rw [Nat.add_zero] at hB
    simp (maxSteps := 1000000) -implicitDefEqProofs only [push_cast, seval, e, rd_of e, rd1_of e, hp, tE, hB]
    refine ⟨by omega, ?_, Keep.refl _ _⟩
    rw [isAt_of (by omega), decide_cast]
theorem take_c (p : Nat) (s : ByteArray) (k : Nat) (bad : Bool) (v : Value) (c : Nat) (h : AH) (e : h.ob p = .cells (cI s k bad v) .solo p) (hp : p < h.n) (hk : k ≤ s.size) (hs : s.size ≤ 24) :
    CC Try.prog 104 [.pointer (some ⟨p, 0, none⟩), .int .u8 (c : Nat)] h (fun y h' => y = .bool (isAt s k c) ∧ h' = (if isAt s k c then h.set p (.cells (cI s (k + 1) bad v) .solo p) else h)) := by
  have e : h.ob p = .cells [.string (s.extract k s.size), v, .bool bad] .solo p := e
  have hT := Txt.of s k hk
  have hi := is_c p s k bad v c h e hp hk hs
  generalize s.extract k s.size = T at e hT
  have tE := hT.emp
  have tS := hT.size
  refine CC.ofN Try.func104 Try.ntmps104 Try.results104 rfl (by decide) (by kernel_rfl) ?_
  simp (maxSteps := 1000000) -implicitDefEqProofs only [push_cast, seval, e, rd_of e, rd1_of e, hp]
  refine CD.to hi ?_
  simp (maxSteps := 1000000) -implicitDefEqProofs only [push_cast, seval, e, rd_of e, rd1_of e, hp]
  cases hc : isAt s k c with
  | false =>
    simp (maxSteps := 1000000) -implicitDefEqProofs only [push_cast, seval, e, rd_of e, rd1_of e, hp]
  | true =>
    have := isAt_lt hc
    have hR := hT.rest 1 (by omega)
    simp (maxSteps := 1000000) -implicitDefEqProofs only [push_cast, seval, e, rd_of e, rd1_of e, hp, tS, hR]
    exact ⟨by omega, by omega, rfl⟩
theorem put_c (n0 p : Nat) (s : ByteArray) (k : Nat) (bad : Bool) (v x : Value) (op : Nat) (text : ByteArray) (kids : List Nat) (cs : List Value) (j : Nat) (h : AH) (e : h.ob p = .cells (cI s k bad v) .solo p) (hp : p < h.n) (hn : n0 ≤ p) (g : Gr n0 h v 3 cs) (hc : cs.length = j * 3) (hj : j ≤ 1000) (vp : ∀ i, atBlock v i → i ≠ p) (r : RdV h x 1 encNa kids) (hl : kids.length ≤ 1000) :
    CC Try.prog 105 [.pointer (some ⟨p, 0, none⟩), .int .i64 (op : Nat), .string text, x] h (fun y h' => y = .int .i64 (j : Nat) ∧ ∃ v' kv, Put n0 p h h' v v' kv cs op text kids ∧ h'.ob p = .cells (cI s k bad v') .solo p) := by
  have e : h.ob p = .cells [.string (s.extract k s.size), v, .bool bad] .solo p := e
  refine CC.ofN Try.func105 Try.ntmps105 Try.results105 rfl (by decide) (by kernel_rfl) ?_
  simp (maxSteps := 1000000) -implicitDefEqProofs only [push_cast, seval, e, rd_of e, rd1_of e, hp]
  refine WC.drawR (by kernel_rfl) (by kernel_rfl) (.q 0 (.q 1 (.q 2 (.q 3 (.q 4 (.q 5 (.q 6 (.q 7 (.q 8 (.a 9 false (.q 10 (.a 11 false (.a 12 true (.q 13 (.q 14 (.q 15 (.a 16 true (.done)))))))))))))))))) (by kernel_rfl) ?_
  simp (maxSteps := 1000000) -implicitDefEqProofs only [push_cast, seval, e, rd_of e, rd1_of e, hp]
  with_reducible refine CC.mono (copyInts_c x kids h r hl) (fun kv h1 hv => ?_)
  have kr := hv.1
  have kn := hv.2.1
  have p1 := hv.2.2
  clear hv
  have y1 := kr.one
  have y2 := rdv_cells kr
  have e1 : h1.ob p = _ := (p1.ob _ hp).trans e
  have hp1 : p < h1.n := Nat.lt_of_lt_of_le hp p1.n
  have g1 := g.pre p1
  have n1 := p1.n
  simp (maxSteps := 1000000) -implicitDefEqProofs only [push_cast, seval, e1, rd_of e1, rd1_of e1, hp1, e, y1, y2]
  repeat (with_reducible refine And.intro ?_ ?_; · (first | omega | decide))
  have gl : ∀ i, atBlock v i → i < h.n := fun i hi => (g.range hi).2
  refine Gr.app1 (h0 := ⟨n0, h1.ob⟩) si28 (by decide) (by decide) (notInt_sl und28) g1 ⟨by show n0 ≤ h1.n; omega, fun _ _ => rfl⟩ (m := 1) rfl (by omega) (by decide) (fun h2 gr2 ow2 _ n2 f2 => ?_)
  have e2 : h2.ob p = _ := (f2 p hp1 (fun hi => vp p hi rfl)).trans e1
  have hp2 : p < h2.n := by omega
  simp (maxSteps := 1000000) -implicitDefEqProofs only [push_cast, seval, e2, rd_of e2, rd1_of e2, hp2, e1, e, y1, y2]
  rw [show IntKind.i64.wrap ((cs.length : Int) / 3 + 1 - 1) = (j : Nat) by rw [w64 (by omega) (by omega)]; omega]
  refine ⟨rfl, _, kv, ⟨by show h.n ≤ h2.n; omega, gr2.keep (Nat.le_refl _) (fun i hi => ?_), fun i hi => ?_, kr.keep (by show h1.n ≤ h2.n; omega) (fun i hi => ?_), fun i hi => ⟨?_, ?_, fun hi2 => ?_⟩, fun i hi hip hv => ?_⟩, rfl⟩
  · have : h1.n + 1 = i := hi
    exact set_ne _ (by omega)
  · have : h1.n + 1 = i := hi
    omega
  · have := kn i hi
    exact (set_ne _ (by omega)).trans (f2 i (kr.lt hi) (fun e' => by have := gl i e'; omega))
  · have := kn i hi
    omega
  · have := kn i hi
    omega
  · have := kr.lt hi
    have : h1.n + 1 = i := hi2
    omega
  · exact (set_ne _ hip).trans ((f2 i (by omega) hv).trans (p1.ob i hi))
end Go.Proofs.Ytciajhpeikemoaa
/- Patterns: what a reader's steps leave. Conditions: those that each theorem names. -/
set_option linter.unusedSimpArgs false
set_option linter.unusedVariables false
namespace Go.Sim
variable {P : Program} {h : AH} {C : Nat → Bool → Value → List Value} {s : ByteArray} {n0 p k : Nat} {out : List Pc}
theorem Rg.pre {h' : AH} (G : Rg C s n0 p h k out) (q : Pre h h') : Rg C s n0 p h' k out := by
  obtain ⟨v, L, e, w, hL⟩ := G.ex
  exact ⟨Nat.lt_of_lt_of_le G.lt q.n, G.le, G.hi, v, L, (q.ob p G.lt).trans e, w.keep q.n (fun i hi _ => q.ob i hi), hL⟩
theorem Rb.pre {h' : AH} {m : Nat} (G : Rb C s n0 p h m) (q : Pre h h') : Rb C s n0 p h' m := by
  obtain ⟨k, v, cs, j, a, b, c, d, e, f⟩ := G.ex
  exact ⟨Nat.lt_of_lt_of_le G.lt q.n, G.le, k, v, cs, j, a, (q.ob p G.lt).trans b, c.pre q, d, e, f⟩
theorem Rg.at {v : Value} {L : List (Pc × Value)} {k' : Nat} (hp : p < h.n) (hn : n0 ≤ p) (w : Pcs n0 p h v L) (hk : k' ≤ s.size) : Rg C s n0 p (h.set p (.cells (C k' false v) .solo p)) k' (L.map Prod.fst) :=
  ⟨hp, hn, hk, v, L, set_same _ _, w.keep (Nat.le_refl _) (fun i _ hi => set_ne _ hi), rfl⟩
theorem Rb.at {v : Value} {cs : List Value} {j m k' : Nat} (hp : p < h.n) (hn : n0 ≤ p) (g : Gr n0 h v 3 cs) (hc : cs.length = j * 3) (hj : j ≤ m) (vp : ∀ i, atBlock v i → i ≠ p) (hk : k' ≤ s.size) : Rb C s n0 p (h.set p (.cells (C k' true v) .solo p)) m :=
  ⟨hp, hn, k', v, cs, j, hk, set_same _ _, g.keep (Nat.le_refl _) (fun i hi => set_ne _ (vp i hi)), hc, hj, vp⟩
theorem flatP_len (L : List (Pc × Value)) : (L.map encP).flatten.length = L.length * 3 := flat_len (k := 3) L (fun _ => rfl)
theorem Rb.atP {v : Value} {L : List (Pc × Value)} {m k' : Nat} (hp : p < h.n) (hn : n0 ≤ p) (w : Pcs n0 p h v L) (hj : L.length ≤ m) (hk : k' ≤ s.size) : Rb C s n0 p (h.set p (.cells (C k' true v) .solo p)) m :=
  Rb.at hp hn w.gr (flatP_len L) hj w.vp hk
theorem Put.fr {h' : AH} {v v' kv : Value} {cs : List Value} {op : Nat} {text : ByteArray} {kids : List Nat} (q : Put n0 p h h' v v' kv cs op text kids) (hp : p < h.n) (hn : n0 ≤ p) (g : Gr n0 h v 3 cs) : Fr n0 h h' :=
  ⟨q.n, fun i hi => q.ob i (by omega) (by omega) (g.not_low hi)⟩
theorem Put.good {h' : AH} {v v' kv : Value} {L : List (Pc × Value)} {op : Nat} {text : ByteArray} {kids : List Nat} (q : Put n0 p h h' v v' kv (L.map encP).flatten op text kids) (hp : p < h.n) (hn : n0 ≤ p) (hk : k ≤ s.size) (w : Pcs n0 p h v L) (e : h'.ob p = .cells (C k false v') .solo p) :
    Rg C s n0 p h' k (L.map Prod.fst ++ [⟨op, text, kids⟩]) :=
  ⟨Nat.lt_of_lt_of_le hp q.n, hn, hk, v', _, e, w.put hp q, by simp⟩
theorem Put.bad {h' : AH} {v v' kv : Value} {cs : List Value} {j m : Nat} {op : Nat} {text : ByteArray} {kids : List Nat} (q : Put n0 p h h' v v' kv cs op text kids) (hp : p < h.n) (hn : n0 ≤ p) (hk : k ≤ s.size) (hc : cs.length = j * 3) (hj : j ≤ m) (e : h'.ob p = .cells (C k true v') .solo p) :
    Rb C s n0 p h' (m + 1) :=
  ⟨Nat.lt_of_lt_of_le hp q.n, hn, k, v', _, j + 1, hk, e, q.gr, by simp; omega, by omega, fun i hi => by have := q.new i hi; omega⟩
theorem Rg.cell {X : Prop} (G : Rg C s n0 p h k out) (f : ∀ v L, h.ob p = .cells (C k false v) .solo p → Pcs n0 p h v L → L.map Prod.fst = out → L.length = out.length → X) : X := by
  obtain ⟨v, L, e, w, hL⟩ := G.ex
  exact f v L e w hL (by rw [← hL]; simp)
theorem Rb.cell {X : Prop} {m : Nat} (G : Rb C s n0 p h m) (f : ∀ k v cs j, k ≤ s.size → h.ob p = .cells (C k true v) .solo p → Gr n0 h v 3 cs → cs.length = j * 3 → j ≤ m → (∀ i, atBlock v i → i ≠ p) → X) : X := by
  obtain ⟨k, v, cs, j, a, b, c, d, e, g⟩ := G.ex
  exact f k v cs j a b c d e g
theorem Ro.cases {X : Prop} {m : Nat} {res : PRes} {y : Value} {h' : AH} (R : Ro C s n0 p h m res y h') (good : ∀ k' o' (r : Nat), res = some (k', o', r) → y = .int .i64 (r : Nat) → Fr n0 h h' → Rg C s n0 p h' k' o' → X) (bad : res = none → ∀ r : Nat, y = .int .i64 (r : Nat) → Fr n0 h h' → Rb C s n0 p h' m → X) : X := by
  obtain ⟨f, ⟨k', o', r, a, b, c⟩ | ⟨a, ⟨r, b⟩, c⟩⟩ := R
  · exact good k' o' r a b f c
  · exact bad a r b f c
theorem Ro.some {m : Nat} {h' : AH} {k' : Nat} {o' : List Pc} {r : Nat} (f : Fr n0 h h') (g : Rg C s n0 p h' k' o') : Ro C s n0 p h m (some (k', o', r)) (.int .i64 (r : Nat)) h' := ⟨f, .inl ⟨_, _, _, rfl, rfl, g⟩⟩
theorem Ro.none {m : Nat} {h' : AH} {r : Nat} (f : Fr n0 h h') (g : Rb C s n0 p h' m) : Ro C s n0 p h m none (.int .i64 (r : Nat)) h' := ⟨f, .inr ⟨rfl, ⟨_, rfl⟩, g⟩⟩
theorem Ro.from {m m' : Nat} {h1 h' : AH} {res : PRes} {y : Value} (f : Fr n0 h h1) (R : Ro C s n0 p h1 m' res y h') (hm : m' ≤ m) : Ro C s n0 p h m res y h' :=
  R.cases (fun k' o' r a b c d => ⟨f.trans c, .inl ⟨k', o', r, a, b, d⟩⟩) (fun a r b c d => ⟨f.trans c, .inr ⟨a, ⟨r, b⟩, d.mono hm⟩⟩)
/-- Kids, laid down. -/
theorem RdV.lit (l : List Nat) (c : Nat) : RdV (h.alloc (.cells (l.map encNa).flatten .solo h.n)) (.slice (some ⟨h.n, 0, none⟩) l.length c) 1 encNa l := by
  have o : Own (h.alloc (.cells (l.map encNa).flatten .solo h.n)) h.n 0 l.length 1 (l.map encNa).flatten := Own.new _ _ _ (flat_len (k := 1) l (fun _ => rfl))
  exact .inr ⟨_, _, _, rfl, o.rdAll, o.lt⟩
/-- A pattern's pieces, read. -/
structure RdPat (h : AH) (v : Value) (L : List (Pc × Value)) : Prop where
  r : RdV h v 3 encP L
  kids : ∀ x ∈ L, RdV h x.2 1 encNa x.1.kids
theorem RdPat.pre {h' : AH} {v : Value} {L : List (Pc × Value)} (w : RdPat h v L) (q : Pre h h') : RdPat h' v L := ⟨w.r.pre q, fun x hx => (w.kids x hx).pre q⟩
theorem Pcs.pat {v : Value} {L : List (Pc × Value)} (w : Pcs n0 p h v L) : RdPat h v L := ⟨w.gr.rdv (by decide) encP_len, w.kids⟩
theorem brk_no (b : Nat) (hb : b ≤ s.size) (hn : ∀ i, b ≤ i → i < s.size → (byteAt s i).toNat ≠ 93) : brk s b = s.size := by
  induction e : s.size - b generalizing b with
  | zero => rw [brk, if_neg (by omega)]
  | succ n ih => rw [brk, if_pos (by omega), if_neg (hn b (by omega) (by omega))]; exact ih (b + 1) (by omega) (fun i h1 h2 => hn i (by omega) h2) (by omega)
theorem brk_yes (b e : Nat) (hb : b ≤ e) (he : e < s.size) (h93 : (byteAt s e).toNat = 93) (hn : ∀ i, b ≤ i → i < e → (byteAt s i).toNat ≠ 93) : brk s b = e := by
  induction ee : e - b generalizing b with
  | zero => rw [brk, if_pos (by omega), if_pos (by rw [show b = e by omega]; exact h93)]; omega
  | succ n ih => rw [brk, if_pos (by omega), if_neg (hn b (by omega) (by omega))]; exact ih (b + 1) (by omega) (fun i h1 h2 => hn i (by omega) h2) (by omega)
end Go.Sim
namespace Go.Sim
variable {P : Program} {h : AH}
@[congr] theorem acopy_congr {tk : Prop} (_ : tick = tk) {h h2 : AH} {t t2 : TypeId} {x x2 y y2 : Value} {K : Value → AH → Prop} (eh : h = h2) (et : t = t2) (ex : x = x2) (ey : y = y2) : acopy P h t x y K = acopy P h2 t2 x2 y2 K := by subst eh; subst et; subst ex; subst ey; rfl
theorem abuiltin_copy (t u : TypeId) (x y : Value) (K : Value → AH → Prop) : abuiltin P h .copy [t, u] [x, y] K = acopy P h t x y K := rfl
theorem acopy_sl (t : TypeId) (id off n k id2 off2 m k2 : Nat) (K : Value → AH → Prop) : acopy P h t (.slice (some ⟨id, off, none⟩) n k) (.slice (some ⟨id2, off2, none⟩) m k2) K =
    onS (si P t) fun p => p.2.size = 1 ∧ 0 < n ∧ 0 < m ∧ onS (rd h id2 off2 (Nat.min m n)) fun vs => onS (wr h id off vs) fun h' => K (.int .i64 (Nat.min m n : Nat)) h' := by
  unfold acopy onS
  cases si P t with
  | none => rfl
  | some p =>
    obtain ⟨e, i⟩ := p
    simp only
    cases rd h id2 off2 (Nat.min m n) with
    | none => rfl
    | some vs => dsimp only; cases wr h id off vs <;> rfl
attribute [push_cast] abuiltin_copy acopy_sl
end Go.Sim
/- Decoding at bytes above 127; strings.IndexRune and strings.IndexAny there. Conditions: those that each theorem names. -/
namespace Go.Proofs
open Go Go.Shelf Go.RowKit Go.Lib
set_option linter.unusedVariables false
set_option linter.unusedSimpArgs false
set_option maxRecDepth 100000
theorem get_at (s : ByteArray) (i : Nat) (h : i < s.size) : s.get! i = s[i]'h := by
  simp [ByteArray.get!, getElem!_pos, h]
  rfl
def dec (b0 b1 b2 b3 : Nat) (c1 c2 c3 : Bool) : Nat × Nat :=
  if b0 < 0x80 then (b0, 1)
  else if b0 / 32 == 6 && c1 then (if (b0 % 32) * 64 + b1 % 64 ≥ 0x80 then ((b0 % 32) * 64 + b1 % 64, 2) else (Utf8.runeError, 1))
  else if b0 / 16 == 14 && c1 && c2 then (if (b0 % 16) * 4096 + (b1 % 64) * 64 + b2 % 64 ≥ 0x800 && Utf8.valid ((b0 % 16) * 4096 + (b1 % 64) * 64 + b2 % 64 : Nat) then ((b0 % 16) * 4096 + (b1 % 64) * 64 + b2 % 64, 3) else (Utf8.runeError, 1))
  else if b0 / 8 == 30 && c1 && c2 && c3 then (if (b0 % 8) * 262144 + (b1 % 64) * 4096 + (b2 % 64) * 64 + b3 % 64 ≥ 0x10000 && Utf8.valid ((b0 % 8) * 262144 + (b1 % 64) * 4096 + (b2 % 64) * 64 + b3 % 64 : Nat) then ((b0 % 8) * 262144 + (b1 % 64) * 4096 + (b2 % 64) * 64 + b3 % 64, 4) else (Utf8.runeError, 1))
  else (Utf8.runeError, 1)
theorem decode_dec (s : ByteArray) (i : Nat) : Utf8.decode s i = dec (s.get! (i + 0)).toNat (s.get! (i + 1)).toNat (s.get! (i + 2)).toNat (s.get! (i + 3)).toNat (decide (i + 1 < s.size) && (s.get! (i + 1)).toNat / 64 == 2) (decide (i + 2 < s.size) && (s.get! (i + 2)).toNat / 64 == 2) (decide (i + 3 < s.size) && (s.get! (i + 3)).toNat / 64 == 2) := rfl
theorem dec_cases (b0 b1 b2 b3 : Nat) (c1 c2 c3 : Bool) (h : 128 ≤ b0) : ∃ r k, dec b0 b1 b2 b3 c1 c2 c3 = (r, k) ∧ 128 ≤ r ∧ r < 2147483648 ∧ 1 ≤ k ∧ k ≤ 4 ∧ (2 ≤ k → c1 = true) ∧ (3 ≤ k → c2 = true) ∧ (4 ≤ k → c3 = true) := by
  have m1 : b1 % 64 < 64 := Nat.mod_lt _ (by omega)
  have m2 : b2 % 64 < 64 := Nat.mod_lt _ (by omega)
  have m3 : b3 % 64 < 64 := Nat.mod_lt _ (by omega)
  have e : Utf8.runeError = 65533 := rfl
  have bad : ∃ r k, (Utf8.runeError, 1) = (r, k) ∧ 128 ≤ r ∧ r < 2147483648 ∧ 1 ≤ k ∧ k ≤ 4 ∧ (2 ≤ k → c1 = true) ∧ (3 ≤ k → c2 = true) ∧ (4 ≤ k → c3 = true) := ⟨_, _, rfl, by omega, by omega, by omega, by omega, fun x => by omega, fun x => by omega, fun x => by omega⟩
  unfold dec
  rw [if_neg (by omega)]
  split
  · rename_i c
    simp only [Bool.and_eq_true, beq_iff_eq] at c
    split
    · exact ⟨_, _, rfl, by omega, by omega, by omega, by omega, fun _ => c.2, fun x => by omega, fun x => by omega⟩
    · exact bad
  split
  · rename_i c
    simp only [Bool.and_eq_true, beq_iff_eq] at c
    split
    · rename_i d
      simp only [ge_iff_le, Bool.and_eq_true, decide_eq_true_eq] at d
      exact ⟨_, _, rfl, by omega, by omega, by omega, by omega, fun _ => c.1.2, fun _ => c.2, fun x => by omega⟩
    · exact bad
  split
  · rename_i c
    simp only [Bool.and_eq_true, beq_iff_eq] at c
    split
    · rename_i d
      simp only [ge_iff_le, Bool.and_eq_true, decide_eq_true_eq] at d
      exact ⟨_, _, rfl, by omega, by omega, by omega, by omega, fun _ => c.1.1.2, fun _ => c.1.2, fun _ => c.2⟩
    · exact bad
  · exact bad
theorem dec_hi (s : ByteArray) (pos : Nat) (h : pos < s.size) (ha : 128 ≤ (s[pos]'h).toNat) :
    ∃ r k, Utf8.decode s pos = (r, k) ∧ 128 ≤ r ∧ r < 2147483648 ∧ 1 ≤ k ∧ pos + k ≤ s.size ∧ ∀ j, j < k → ∀ b, s.data.toList[pos + j]? = some b → 128 ≤ b.toNat := by
  have e0 : (s.get! (pos + 0)).toNat = (s[pos]'h).toNat := by rw [Nat.add_zero, get_at s pos h]
  have hb : ∀ j b, s.data.toList[pos + j]? = some b → b.toNat = (s.get! (pos + j)).toNat := fun j b hj => by
    have hl : pos + j < s.size := by
      have := (List.getElem?_eq_some_iff.1 hj).1
      rw [Lib.size_eq]; exact this
    have := Lib.data_getElem? s (pos + j) hl
    rw [this] at hj
    rw [get_at s (pos + j) hl, Option.some.inj hj]
  have hcont : ∀ k, (decide (pos + k < s.size) && (s.get! (pos + k)).toNat / 64 == 2) = true → pos + k < s.size ∧ 128 ≤ (s.get! (pos + k)).toNat := fun k e => by
    simp only [Bool.and_eq_true, decide_eq_true_eq, beq_iff_eq] at e
    omega
  obtain ⟨r, k, e, h1, h2, h3, h4, k1, k2, k3⟩ := dec_cases (s.get! (pos + 0)).toNat (s.get! (pos + 1)).toNat (s.get! (pos + 2)).toNat (s.get! (pos + 3)).toNat (decide (pos + 1 < s.size) && (s.get! (pos + 1)).toNat / 64 == 2) (decide (pos + 2 < s.size) && (s.get! (pos + 2)).toNat / 64 == 2) (decide (pos + 3 < s.size) && (s.get! (pos + 3)).toNat / 64 == 2) (by rw [e0]; exact ha)
  have g1 := fun x => hcont 1 (k1 x)
  have g2 := fun x => hcont 2 (k2 x)
  have g3 := fun x => hcont 3 (k3 x)
  refine ⟨r, k, by rw [decode_dec]; exact e, h1, h2, h3, ?_, fun j hj b hjb => ?_⟩
  · rcases (show k = 1 ∨ k = 2 ∨ k = 3 ∨ k = 4 by omega) with rfl | rfl | rfl | rfl
    · omega
    · have := g1 (by omega); omega
    · have := g2 (by omega); omega
    · have := g3 (by omega); omega
  · rw [hb j b hjb]
    rcases (show j = 0 ∨ j = 1 ∨ j = 2 ∨ j = 3 by omega) with rfl | rfl | rfl | rfl
    · rw [e0]; exact ha
    · exact (g1 (by omega)).2
    · exact (g2 (by omega)).2
    · exact (g3 (by omega)).2
/-- A world with an iterator over s at block n. -/
theorem run_next_at {P : Program} (w : World) (n : Nat) (s : ByteArray) (pos : Nat) (ty : TypeId) (hw : w.heap[n]? = some (.stringIter s pos)) (h : pos < s.size) :
    (Instr.next (.pointer (some ⟨n, 0, none⟩)) true ty).run P w = .ok (.tuple #[.bool true, .int .i64 pos, .int .i32 (Utf8.decode s pos).1]) { w with heap := w.heap.setIfInBounds n (.stringIter s (pos + (Utf8.decode s pos).2)) } := by
  have hn : n < w.heap.size := (Array.getElem?_eq_some_iff.1 hw).1
  simp only [Instr.next, getObj, setObj, Sem.run_bind, Sem.run, hw, Result.andThen, h, if_true]
  simp [goInt, Sem.run, hw]
theorem run_next_over {P : Program} (w : World) (n : Nat) (s : ByteArray) (pos : Nat) (ty : TypeId) (hw : w.heap[n]? = some (.stringIter s pos)) (h : ¬ pos < s.size) :
    (Instr.next (.pointer (some ⟨n, 0, none⟩)) true ty).run P w = .ok (.tuple #[.bool false]) w := by
  simp [Instr.next, getObj, Sem.run, hw, h]
end Go.Proofs
/- strings.IndexRune at a rune above 127 in two ASCII bytes. Conditions: those that each theorem names. -/
namespace Go.Proofs
open Go Go.Shelf Go.RowKit Go.Lib
set_option linter.unusedVariables false
set_option linter.unusedSimpArgs false
variable {P : Program} {ρ : Ren}
def encB (c : Nat) : ByteArray :=
  if c < 0x80 then ⟨#[UInt8.ofNat c]⟩
  else if c < 0x800 then ⟨#[UInt8.ofNat (0xC0 + c / 64), UInt8.ofNat (0x80 + c % 64)]⟩
  else if c < 0x10000 then ⟨#[UInt8.ofNat (0xE0 + c / 4096), UInt8.ofNat (0x80 + c / 64 % 64), UInt8.ofNat (0x80 + c % 64)]⟩
  else ⟨#[UInt8.ofNat (0xF0 + c / 262144), UInt8.ofNat (0x80 + c / 4096 % 64), UInt8.ofNat (0x80 + c / 64 % 64), UInt8.ofNat (0x80 + c % 64)]⟩
theorem encode_encB (r : Int) : Utf8.encode r = encB (if Utf8.valid r then r.toNat else Utf8.runeError) := rfl
theorem ofNat_hi {n : Nat} (h : 128 ≤ n) (h2 : n < 256) : 128 ≤ (UInt8.ofNat n).toNat := by
  rw [UInt8.toNat_ofNat']; omega
theorem encB_hi (c : Nat) (h : 128 ≤ c) (h2 : c ≤ 1114111) : ((encB c).size = 2 ∧ ∃ a b, encB c = ⟨#[a, b]⟩ ∧ 128 ≤ b.toNat) ∨ (encB c).size = 3 ∨ (encB c).size = 4 := by
  unfold encB
  rw [if_neg (by omega)]
  split
  · exact .inl ⟨rfl, _, _, rfl, ofNat_hi (by omega) (by have : c % 64 < 64 := Nat.mod_lt _ (by omega); omega)⟩
  split
  · exact .inr (.inl rfl)
  · exact .inr (.inr rfl)
theorem enc_hi (r : Int) (h : 128 ≤ r) : ((Utf8.encode r).size = 2 ∧ ∃ a b, Utf8.encode r = ⟨#[a, b]⟩ ∧ 128 ≤ b.toNat) ∨ (Utf8.encode r).size = 3 ∨ (Utf8.encode r).size = 4 := by
  rw [encode_encB]
  have e : Utf8.runeError = 65533 := rfl
  split
  · rename_i hv
    simp only [Utf8.valid, Bool.or_eq_true, Bool.and_eq_true, decide_eq_true_eq] at hv
    exact encB_hi _ (by omega) (by omega)
  · exact encB_hi _ (by omega) (by omega)
theorem below_drew (w : World) : Below w.heap.size w w.drew.drew := ⟨rfl, rfl, rfl, Nat.le_refl _, fun _ _ => rfl⟩
set_option maxHeartbeats 8000000 in
set_option maxRecDepth 1000000 in
theorem Any.IndexRune_hi (L : Lays.n152 P ρ) (s : ByteArray) (r : Int) (w : World) (h0 : 128 ≤ r) (h1 : r < 2147483648) (hs : s.size = 2) (ha : ∀ j (hj : j < s.size), (s[j]'hj).toNat < 128) :
    Calls P (ρ.f 152) #[.string s, .int .i32 r] w fun e w' => e = .returned (.int .i64 (-1)) ∧ Below w.heap.size w w' := by
  have mixed := L.mixed
  have t3 := L.t3; have a3 := L.a3; have z3 := L.z3; have v3 := L.v3
  have t4 := L.t4; have a4 := L.a4; have z4 := L.z4; have v4 := L.v4
  have t5 := L.t5; have a5 := L.a5; have z5 := L.z5; have v5 := L.v5
  have t9 := L.t9; have a9 := L.a9; have z9 := L.z9; have v9 := L.v9
  have t21 := L.t21; have a21 := L.a21; have z21 := L.z21; have v21 := L.v21
  have t46 := L.t46; have a46 := L.a46; have z46 := L.z46; have v46 := L.v46
  have e119 : ∀ args w, (callFunc (ρ.f 119) args).run P w = .ok (.enter (ρ.f 119) args) w := enters_of L.f119 (by kernel_rfl) rfl
  have e137 : ∀ args w, (callFunc (ρ.f 137) args).run P w = .ok (.enter (ρ.f 137) args) w := enters_of L.f137 (by kernel_rfl) rfl
  have hr0 : (0 : Int) ≤ r := by omega
  have hr1 : ¬ (r < 128) := by omega
  by_cases hE : r = 65533
  · subst hE
    have HA : Aside (∀ j (hj : j < s.size), (s[j]'hj).toNat < 128) := ha
    clear ha hs
    go_enter L.f152, Body.n152_ntmps ρ
    go_wp2
    go_loopg [5, 6] s.size (fun g _ _ wx => ∃ i : Nat, i + g = s.size ∧ wx = w.iter s i)
    case atStart => exact ⟨0, by omega, rfl⟩
    case round =>
      obtain ⟨i, hig, rfl⟩ := hrel
      cases gk with
      | zero =>
        obtain rfl : i = s.size := by omega
        have hnx := run_next_end (P := P) w s s.size
        go_wp2
        go_ret
        exact ⟨rfl, (Below.refl _ _).alloc (Nat.le_refl _) _⟩
      | succ g =>
        have hi : i < s.size := by omega
        have hx := HA.out i hi
        have hnx := fun ty => run_next_ascii (P := P) w s i ty hi hx
        obtain ⟨x, hx2⟩ : ∃ x : UInt8, s[i]'hi = x := ⟨_, rfl⟩
        rw [hx2] at hnx hx
        have hne : ((x.toNat : Int) == 65533) = false := by
          rw [beq_eq_false_iff_ne]; omega
        go_wp2
        go_roundg g
        case measure => omega
        case rel => exact ⟨i + 1, by omega, rfl⟩
  have hE' : (r == 65533) = false := by simpa using hE
  have HA : Aside (∀ j (hj : j < s.size), (s[j]'hj).toNat < 128) := ha
  have HS : Aside (s.size = 2) := hs
  clear ha hs
  rcases enc_hi r h0 with ⟨e2, a, b, eab, hb⟩ | en | en
  · rw [eab] at e2
    go_enter L.f152, Body.n152_ntmps ρ
    go_wp2_with (go_at_fn (ρ.f 119); refine (Any.utf8_ValidRune { L with } _ _).mono ?_; rintro e w' ⟨rfl, hw⟩; rw [hw])
    · go_ret
      exact ⟨rfl, hw ▸ Below.refl _ _⟩
    subst hw
    go_step3
    go_wp2
    have hs1 : 1 < s.size := by rw [HS.out]; decide
    obtain ⟨x, hx⟩ : ∃ x : UInt8, s[1]'hs1 = x := ⟨_, rfl⟩
    have hx1 : x.toNat < 128 := by rw [← hx]; exact HA.out 1 hs1
    have hne : ((x.toNat : Int) != (b.toNat : Int)) = true := by
      rw [bne_iff_ne]; omega
    have hz1 : (1 : Int) < (s.size : Int) := by omega
    have hz2 : 0 ≤ IntKind.i64.wrap 2 ∧ IntKind.i64.wrap 2 ≤ (s.size : Int) := by rw [HS.out]; decide
    have hix : ∀ c, Lib.indexByte (List.take (s.size - 2) (List.drop 2 s.data.toList)) c = -1 := fun c => by rw [HS.out]; rfl
    have hz3 : (IntKind.i64.wrap 2).toNat = 2 := by decide
    go_loopg [9, 10, 11, 12] 1 (fun g s9 s10 s11 s12 wx => s9 = .int .i64 1 ∧ wx = w')
    case atStart => exact ⟨rfl, rfl⟩
    case round =>
      obtain ⟨rfl, rfl⟩ := hrel
      go_wp2
      go_step3
      go_wp2_with (go_at_fn (ρ.f 137); refine (Any.strings_IndexByte { L with } _ _ _).mono ?_; rintro e w' ⟨rfl, hw⟩; rw [hw])
      go_region_o
      rw [show (⟨#[a, b]⟩ : ByteArray)[1] = b from rfl, hne]
      go_wp2_with fail
      go_region_with_o (go_at_fn (ρ.f 137); refine (Any.strings_IndexByte { L with } _ _ _).mono ?_; rintro e w' ⟨rfl, hw⟩; rw [hw])
      go_wp2
      simp only [Exit.noGoto, Exit.inBlock, Exit.then]
      go_ret
      exact ⟨rfl, below_drew _⟩
  all_goals
    obtain ⟨m, hm, hm2⟩ : ∃ m : Int, (((Utf8.encode r).size : Int) - 1) = m ∧ (2 : Int) ≤ m := ⟨_, rfl, by rw [en]; decide⟩
    have hw1 : IntKind.i64.wrap (((Utf8.encode r).size : Int) - 1) = m := by rw [← hm, en]; decide
    have hlt : ¬ (m < (s.size : Int)) := by rw [HS.out]; omega
    clear hm en
    go_enter L.f152, Body.n152_ntmps ρ
    go_wp2_with (go_at_fn (ρ.f 119); refine (Any.utf8_ValidRune { L with } _ _).mono ?_; rintro e w' ⟨rfl, hw⟩; rw [hw])
    · go_ret
      exact ⟨rfl, hw ▸ Below.refl _ _⟩
    subst hw
    go_step3
    go_wp2
    go_loopg [9, 10, 11, 12] 1 (fun g s9 s10 s11 s12 wx => s9 = .int .i64 m ∧ wx = w')
    case atStart => exact ⟨rfl, rfl⟩
    case round =>
      obtain ⟨rfl, rfl⟩ := hrel
      go_wp2
      simp only [Exit.noGoto, Exit.inBlock, Exit.then]
      go_ret
      exact ⟨rfl, Below.refl _ _⟩
end Go.Proofs
/- strings.IndexAny and ContainsAny at whatever text and two ASCII bytes. Conditions: those that each theorem names. -/
namespace Go.Proofs
open Go Go.Shelf Go.RowKit Go.Lib
set_option linter.unusedVariables false
set_option linter.unusedSimpArgs false
variable {P : Program} {ρ : Ren}
theorem NoAny.hi {s chars : List UInt8} {i k : Nat} (h : Lib.NoAny s chars i) (hs : ∀ j, j < k → ∀ b, s[i + j]? = some b → 128 ≤ b.toNat) (hc : ∀ b ∈ chars, b.toNat < 128) : Lib.NoAny s chars (i + k) := fun j b hj hb => by
  by_cases hlt : j < i
  · exact h j b hlt hb
  · have h2 := hs (j - i) (by omega) b (by rw [show i + (j - i) = j by omega]; exact hb)
    cases hcc : chars.contains b with
    | false => rfl
    | true => have := hc b (by simpa using hcc); omega
theorem set_iter {n : Nat} {w wx : World} {o : Obj} (hb : Below n w wx) (hn : n < wx.heap.size) : Below n w { wx with heap := wx.heap.setIfInBounds n o } ∧ ({ wx with heap := wx.heap.setIfInBounds n o } : World).heap[n]? = some o ∧ n < ({ wx with heap := wx.heap.setIfInBounds n o } : World).heap.size := by
  refine ⟨⟨hb.os, hb.tape, hb.output, by simpa using hb.size, fun k hk => ?_⟩, by simp [hn], by simpa using hn⟩
  show (wx.heap.setIfInBounds n o)[k]? = _
  rw [Array.getElem?_setIfInBounds_ne (by omega)]
  exact hb.block k hk
set_option maxHeartbeats 8000000 in
set_option maxRecDepth 1000000 in
theorem Any.IndexAny_short2 (L : Lays.n153 P ρ) (s chars : ByteArray) (w : World) (h2 : chars.size = 2) (h8 : s.size ≤ 8) (hca : ∀ j (hj : j < chars.size), (chars[j]'hj).toNat < 128) (hcl : ∀ b ∈ chars.data.toList, b.toNat < 128) :
    Calls P (ρ.f 153) #[.string s, .string chars] w fun e w' => e = .returned (.int .i64 (Lib.indexAny s.data.toList chars.data.toList)) ∧ Below w.heap.size w w' := by
  have HA : Aside (∀ j (hj : j < chars.size), (chars[j]'hj).toNat < 128) := hca
  have HL : Aside (∀ b ∈ chars.data.toList, b.toNat < 128) := hcl
  have H2 : Aside (chars.size = 2) := h2
  have hemp : chars.toList.isEmpty = false := by
    rw [Lib.toList_data]
    cases h : chars.data.toList with
    | nil => have := Lib.size_eq chars; rw [h, List.length_nil] at this; omega
    | cons _ _ => rfl
  have hn1 : ((chars.size : Int) == 1) = false := beq_eq_false_iff_ne.2 (by omega)
  have h8z : decide ((8 : Int) < (s.size : Int)) = false := decide_eq_false (by omega)
  clear hca hcl h2
  have t3 := L.t3; have a3 := L.a3; have z3 := L.z3; have v3 := L.v3
  have t4 := L.t4; have a4 := L.a4; have z4 := L.z4; have v4 := L.v4
  have t5 := L.t5; have a5 := L.a5; have z5 := L.z5; have v5 := L.v5
  have t9 := L.t9; have a9 := L.a9; have z9 := L.z9; have v9 := L.v9
  have t21 := L.t21; have a21 := L.a21; have z21 := L.z21; have v21 := L.v21
  have e152 : ∀ args w, (callFunc (ρ.f 152) args).run P w = .ok (.enter (ρ.f 152) args) w := enters_of L.f152 (by kernel_rfl) rfl
  have e226 : ∀ args w, (callFunc (ρ.f 226) args).run P w = .ok (.enter (ρ.f 226) args) w := enters_of L.f226 (by kernel_rfl) rfl
  go_enter L.f153, Body.n153_ntmps ρ
  go_wp2_with (go_at_fn (ρ.f 226); refine (Any.strings_shouldUseASCIISet { L with } _ _).mono ?_; rintro e w' ⟨rfl, hw⟩; rw [hw, h8z])
  go_loopg [9, 10] s.size (fun g _ _ wx => ∃ i : Nat, i + g = s.size ∧ wx.heap[w.heap.size]? = some (.stringIter s i) ∧ Below w.heap.size w wx ∧ Lib.NoAny s.data.toList chars.data.toList i)
  case atStart => exact ⟨0, by omega, World.iter_heap w s 0, (Below.refl _ _).alloc (Nat.le_refl _) _, Lib.NoAny.zero _ _⟩
  case round =>
    obtain ⟨i, hig, hit, hbl, hno⟩ := hrel
    have HN : Aside (Lib.NoAny s.data.toList chars.data.toList i) := hno
    have HB : Aside (Below w.heap.size w wr) := hbl
    have HI : Aside (wr.heap[w.heap.size]? = some (.stringIter s i)) := hit
    clear hno hbl
    cases gk with
    | zero =>
      obtain rfl : i = s.size := by omega
      have hnx := fun ty => run_next_over (P := P) wr w.heap.size s s.size ty hit (by omega)
      clear hit
      go_wp2
      go_ret
      exact ⟨by rw [Lib.indexAny_none (by rw [← Lib.size_eq]; exact HN.out)]; rfl, HB.out⟩
    | succ g =>
      have hi : i < s.size := by omega
      have hnx := fun ty => run_next_at (P := P) wr w.heap.size s i ty hit hi
      have hlt : w.heap.size < wr.heap.size := (Array.getElem?_eq_some_iff.1 hit).1
      clear hit
      obtain ⟨x, hx⟩ : ∃ x : UInt8, s[i]'hi = x := ⟨_, rfl⟩
      have hxl : s.data.toList[i]? = some x := by rw [← hx]; exact Lib.data_getElem? s i hi
      by_cases hx128 : x.toNat < 128
      · have hdec := decode_ascii s i hi (by rw [hx]; exact hx128)
        rw [hx] at hdec
        rw [hdec] at hnx
        dsimp only at hnx
        have Hx : Aside (s.data.toList[i]? = some x) := hxl
        have hw3 := set_iter (o := .stringIter s (i + 1)) HB.out hlt
        generalize hwy : ({ wr with heap := wr.heap.setIfInBounds w.heap.size (.stringIter s (i + 1)) } : World) = wy at *
        have HW : Aside (Below w.heap.size w wy ∧ wy.heap[w.heap.size]? = some (.stringIter s (i + 1)) ∧ w.heap.size < wy.heap.size) := hw3
        clear hw3 hwy hxl hx hdec hlt
        have hcon := Lib.contains_iff_indexByte chars.data.toList x
        have hback : ((x.toNat : Int)).toNat.toUInt8 = x := by simp
        cases hin : chars.data.toList.contains x
        · rw [hin] at hcon
          have hlt : ¬ ((0 : Int) ≤ Lib.indexByte chars.data.toList x) := of_decide_eq_false hcon.symm
          clear hcon
          go_wp2_with (go_at_fn (ρ.f 152); refine (Any.strings_IndexRune_ascii { L with } _ _ _ (by omega) (by omega)).mono ?_; rintro e w' ⟨rfl, hw⟩; rw [hw, hback])
          go_roundg g
          case measure => omega
          case rel => exact ⟨i + 1, by omega, HW.out.2.1, HW.out.1, HN.out.succ Hx.out hin⟩
        · rw [hin] at hcon
          have hge : (0 : Int) ≤ Lib.indexByte chars.data.toList x := of_decide_eq_true hcon.symm
          clear hcon
          go_wp2_with (go_at_fn (ρ.f 152); refine (Any.strings_IndexRune_ascii { L with } _ _ _ (by omega) (by omega)).mono ?_; rintro e w' ⟨rfl, hw⟩; rw [hw, hback])
          go_ret
          exact ⟨by rw [Lib.indexAny_hit HN.out Hx.out hin]; rfl, HW.out.1⟩
      · obtain ⟨r, k, hdec, hr1, hr2, hk1, hk2, hk3⟩ := dec_hi s i hi (by rw [hx]; omega)
        rw [hdec] at hnx
        dsimp only at hnx
        have hw3 := set_iter (o := .stringIter s (i + k)) HB.out hlt
        generalize hwy : ({ wr with heap := wr.heap.setIfInBounds w.heap.size (.stringIter s (i + k)) } : World) = wy at *
        have HW : Aside (Below w.heap.size w wy ∧ wy.heap[w.heap.size]? = some (.stringIter s (i + k)) ∧ w.heap.size < wy.heap.size) := hw3
        have HK : Aside (∀ j, j < k → ∀ b, s.data.toList[i + j]? = some b → 128 ≤ b.toNat) := hk3
        clear hw3 hwy hxl hx hdec hlt hk3
        have hm1 : ¬ ((0 : Int) ≤ -1) := by decide
        go_wp2_with (go_at_fn (ρ.f 152); refine (Any.IndexRune_hi { L with } _ _ _ (by omega) (by omega) H2.out HA.out).mono ?_; rintro e w' ⟨rfl, hw⟩; have HX : Aside (Below wy.heap.size wy w') := hw; clear hw)
        go_roundg (s.size - (i + k))
        case measure => omega
        case rel => exact ⟨i + k, by omega, (HX.out.block _ HW.out.2.2).trans HW.out.2.1, HW.out.1.trans (HX.out.mono (Nat.le_of_lt HW.out.2.2)), NoAny.hi HN.out HK.out HL.out⟩
/-- strings.ContainsAny at whatever text and two ASCII bytes. -/
theorem Any.ContainsAny2 (L : Lays.n150 P ρ) (h116 : (P.info? (ρ.t 116)).map (fun i => (i.zero, i.size)) = some (some (.agg (Array.replicate 256 (.bool false))), 256)) (s chars : ByteArray) (w : World) (hs : s.size < 4294967281) (h2 : chars.size = 2) (hca : ∀ j (hj : j < chars.size), (chars[j]'hj).toNat < 128) (hcl : ∀ b ∈ chars.data.toList, b.toNat < 128) :
    Calls P (ρ.f 150) #[.string s, .string chars] w fun e w' => e = .returned (.bool (Lib.containsAny s.data.toList chars.data.toList)) ∧ Below w.heap.size w w' := by
  have c : Calls P (ρ.f 153) #[.string s, .string chars] w fun e w' => e = .returned (.int .i64 (Lib.indexAny s.data.toList chars.data.toList)) ∧ Below w.heap.size w w' := by
    by_cases h8 : s.size ≤ 8
    · exact Any.IndexAny_short2 { L with } s chars w h2 h8 hca hcl
    · refine (Any.strings_IndexAny_long { L with } (zero_of_info h116).1 (zero_of_info h116).2 s chars w (by omega) (by omega) hs (by omega) (fun j b hj => hcl b (List.mem_of_getElem? hj))).mono fun e w' ⟨h1, h2⟩ => ⟨h1, ?_⟩
      rw [h2]
      exact ((Below.refl _ _).alloc (Nat.le_refl _) _).alloc (by simp) _
  have t3 := L.t3; have a3 := L.a3; have z3 := L.z3; have v3 := L.v3
  have t4 := L.t4; have a4 := L.a4; have z4 := L.z4; have v4 := L.v4
  have t9 := L.t9; have a9 := L.a9; have z9 := L.z9; have v9 := L.v9
  have e153 : ∀ args w, (callFunc (ρ.f 153) args).run P w = .ok (.enter (ρ.f 153) args) w := enters_of L.f153 (by kernel_rfl) rfl
  go_enter L.f150, Body.n150_ntmps ρ
  go_wp2_with (go_at_fn (ρ.f 153); refine c.mono ?_; rintro e w' ⟨rfl, hw⟩)
  go_ret
  exact ⟨rfl, hw⟩
end Go.Proofs
/- Contracts of the library, told of the model's worlds: what they say of the abstract heap. Conditions: those that each theorem names. -/
set_option linter.unusedVariables false
set_option linter.unusedSimpArgs false
namespace Go.Sim
open Go.RowKit
variable {P : Program} {FB : Nat → Prop} {w0 : World} {μ : Nat → Option Loc} {h : AH} {w w' : World}
/-- A world that is as it was up to its old end. -/
theorem Sim.below (s : Sim P FB w0 μ h w) (b : Below w.heap.size w w') : Sim P FB w0 μ h w' where
  os := b.os.trans s.os
  tape := b.tape.trans s.tape
  out := b.output.trans s.out
  frame := fun k hk => by
    have := s.frame k hk
    exact ⟨Nat.lt_of_lt_of_le this.1 b.size, (b.block k this.1).trans this.2⟩
  dom := s.dom
  big := s.big
  glob := s.glob
  cell := fun i l cs st ln hm ho j hj => by
    obtain ⟨cv, hc, hv⟩ := s.cell i l cs st ln hm ho j hj
    refine ⟨cv, ?_, hv⟩
    have hlt := World.block_lt_of_cell? w _ hc
    rw [b.cell hlt]
    exact hc
  blk := fun i l cs st ln hm ho hst => by
    obtain ⟨a1, ⟨arr, e, fz, e1, e2⟩, a3⟩ := s.blk i l cs st ln hm ho hst
    exact ⟨a1, ⟨arr, e, fz, (b.block _ (Array.getElem?_eq_some_iff.1 e1).1).trans e1, e2⟩, a3⟩
  rob := s.rob
  onec := s.onec
  sep := s.sep
  tip := s.tip
  tipu := s.tipu
  solo := s.solo
  lin := s.lin
  linc := s.linc
  mp := fun i l es hm ho => by
    obtain ⟨a1, ents, clock, e1, e2⟩ := s.mp i l es hm ho
    exact ⟨a1, ents, clock, (b.block _ (Array.getElem?_eq_some_iff.1 e1).1).trans e1, e2⟩
  mpu := s.mpu
/-- A contract of the library over texts and numbers. -/
theorem CD.bridge {f : FuncId} {args : List Value} {V : Value} (hb : callB P f = true) (hp : ∀ a ∈ args, isPlain a = true) (hv : isPlain V = true)
    (c : ∀ w : World, Calls P f args.toArray w fun e w' => e = .returned V ∧ Below w.heap.size w w') : CD P f args h V h := by
  refine CE.call hb ?_
  intro FB w0 μ w cargs R' s la hk
  have e : cargs = args.toArray := by
    apply Array.ext'
    rw [List.toList_toArray]
    apply List.ext_getElem la.1.symm
    intro j h1 h2
    have := la.2 j h2 h1
    have pj := hp _ (List.getElem_mem h2)
    generalize args[j] = x at this pj
    generalize cargs.toList[j] = y at this
    cases this <;> first
      | rfl
      | (simp [isPlain] at pj; done)
      | (rename_i a a' hs e; simp [isPlain] at pj; subst pj; exact congrArg Value.tuple (Array.eq_empty_of_size_eq_zero hs.symm))
  subst e
  refine (c w).mono fun e w' ⟨h1, h2⟩ => ?_
  subst h1
  exact hk V h μ V w' ⟨rfl, rfl⟩ ⟨s.below h2, Ext.refl _, Unt.refl _ _⟩ (.plain V hv)
/-- Is one of two bytes in a text? -/
def hasAny (s : ByteArray) (a b : Nat) : Bool := !(allAt s fun x => decide (x ≠ a) && decide (x ≠ b))
theorem hasAny_lib (s : ByteArray) (a b : UInt8) : Lib.containsAny s.data.toList [a, b] = hasAny s a.toNat b.toNat := by
  have key : ∀ l : List UInt8, Lib.containsAny l [a, b] = l.any fun x => x == a || x == b := by
    intro l
    induction l with
    | nil => rfl
    | cons x l ih =>
      unfold Lib.containsAny at ih ⊢
      have hge := Lib.indexAny_ge [a, b] l
      rw [List.any_cons, ← ih]
      show decide (0 ≤ (if [a, b].contains x then 0 else if Lib.indexAny l [a, b] == -1 then -1 else Lib.indexAny l [a, b] + 1)) = _
      have hc : [a, b].contains x = (x == a || x == b) := by rw [Bool.eq_iff_iff]; simp
      rw [hc]
      cases hx : (x == a || x == b) with
      | true => rfl
      | false =>
        simp only [Bool.false_eq_true, if_false, Bool.false_or]
        by_cases e : Lib.indexAny l [a, b] = -1
        · rw [e]; rfl
        · rw [if_neg (by simpa using e)]
          rw [Bool.eq_iff_iff, decide_eq_true_eq, decide_eq_true_eq]
          omega
  rw [key]
  unfold hasAny allAt
  rw [Bool.eq_iff_iff]
  simp only [List.any_eq_true, Bool.or_eq_true, beq_iff_eq, Bool.not_eq_true', List.all_eq_false, List.mem_range, Bool.and_eq_true, decide_eq_true_eq, not_and, Classical.not_not]
  constructor
  · rintro ⟨x, hx, e⟩
    obtain ⟨i, hi, rfl⟩ := List.getElem_of_mem hx
    have hi' : i < s.size := by rw [Lib.size_eq]; exact hi
    have hb : byteAt s i = s.data.toList[i] := by
      simp only [byteAt, Array.getD, show i < s.data.size from hi', dite_true]
      simp
    refine ⟨i, hi', fun n => ?_⟩
    rw [hb] at n ⊢
    rcases e with e | e
    · rw [e] at n; exact absurd rfl n
    · rw [e]
  · rintro ⟨i, hi, n⟩
    have hi2 : i < s.data.toList.length := by rw [← Lib.size_eq]; exact hi
    have hb : byteAt s i = s.data.toList[i] := by
      simp only [byteAt, Array.getD, show i < s.data.size from hi, dite_true]
      simp
    refine ⟨s.data.toList[i], List.getElem_mem hi2, ?_⟩
    rw [hb] at n
    by_cases e : s.data.toList[i].toNat = a.toNat
    · exact .inl (UInt8.toNat.inj e)
    · exact .inr (UInt8.toNat.inj (by have := n (by omega); omega))
end Go.Sim
/- Contracts of the library that write a slice in place: what they say of the abstract heap. Conditions: those that each theorem names. -/
set_option linter.unusedVariables false
set_option linter.unusedSimpArgs false
namespace Go.Sim
open Go.RowKit Go.Sort
variable {P : Program} {FB : Nat → Prop} {w0 : World} {μ : Nat → Option Loc} {h : AH} {w w' : World}
def setA (arr : Array Value) : Nat → List Value → Array Value
  | _, [] => arr
  | o, v :: r => setA (arr.setIfInBounds o v) (o + 1) r
theorem setA_get (k : Nat) : ∀ (vs : List Value) (arr : Array Value) (o : Nat), o + vs.length ≤ arr.size → (setA arr o vs)[k]? = if o ≤ k ∧ k < o + vs.length then vs[k - o]? else arr[k]?
  | [], arr, o, _ => by
    rw [setA, if_neg (by simp)]
  | v :: r, arr, o, hb => by
    simp only [List.length_cons] at hb
    rw [setA, setA_get k r _ _ (by rw [Array.size_setIfInBounds]; omega)]
    by_cases e : k = o
    · subst e
      rw [if_neg (by omega), if_pos (by simp), Nat.sub_self, Array.getElem?_setIfInBounds_self_of_lt (by omega)]
      rfl
    · by_cases h1 : o + 1 ≤ k ∧ k < o + 1 + r.length
      · rw [if_pos h1, if_pos (by simp only [List.length_cons]; omega), show k - o = (k - (o + 1)) + 1 by omega, List.getElem?_cons_succ]
      · rw [if_neg h1, if_neg (by simp only [List.length_cons]; omega), Array.getElem?_setIfInBounds_ne (Ne.symm e)]
theorem heap_setA (b : Nat) : ∀ (vs : List Value) (o : Nat) (w : World) (arr : Array Value) (e : TypeId) (fz : Nat × Nat), w.heap[b]? = some (.cells arr e fz) → (w.setCells b o vs).heap[b]? = some (.cells (setA arr o vs) e fz)
  | [], _, _, _, _, _, hb => hb
  | v :: r, o, w, arr, e, fz, hb => by
    rw [World.setCells, setA]
    refine heap_setA b r (o + 1) _ _ e fz ?_
    simp [World.setCell, Array.getElem?_modify, hb]
theorem putRow_heap {α : Type} [Inhabited α] (enc : α → Value) (w : World) (blk off : Nat) (ys : Array α) {arr : Array Value} {e : TypeId} {fz : Nat × Nat} (hb : w.heap[blk]? = some (.cells arr e fz)) (hsz : off + ys.size ≤ arr.size) :
    (putRow enc w blk off ys).heap = (w.setCells blk off (ys.toList.map enc)).heap := by
  have hlen : (ys.toList.map enc).length = ys.size := by simp
  apply Array.ext_getElem?
  intro k
  by_cases hk : k = blk
  · subst hk
    rw [heap_setA k _ _ _ _ _ _ hb]
    have : (putRow enc w k off ys).heap[k]? = some (.cells (putCells enc off ys arr) e fz) := by
      unfold putRow mapBlock
      simp [Array.getElem?_modify, hb, onCells]
    rw [this]
    congr 2
    apply Array.ext_getElem?
    intro j
    rw [setA_get j _ _ _ (by rw [hlen]; exact hsz), hlen]
    unfold putCells
    rw [Array.getElem?_mapIdx]
    by_cases hj : off ≤ j ∧ j < off + ys.size
    · rw [if_pos hj]
      have h1 : j < arr.size := by omega
      have h2 : j - off < ys.size := by omega
      rw [Array.getElem?_eq_getElem h1]
      simp only [Option.map_some, hj, and_self, if_true]
      rw [List.getElem?_map, Array.getElem?_toList, Array.getElem?_eq_getElem h2]
      simp [getElem!_pos, h2]
    · rw [if_neg hj]
      cases arr[j]? with
      | none => rfl
      | some v => simp [hj]
  · rw [heap_setCells_ne _ _ hk]
    unfold putRow mapBlock
    simp [Array.getElem?_modify, Ne.symm hk]
theorem Sim.grown (s : Sim P FB w0 μ h w) (os : Array Obj) : Sim P FB w0 μ h (grow w os) :=
  s.below ⟨rfl, rfl, rfl, by show w.heap.size ≤ (w.heap ++ os).size; rw [Array.size_append]; omega, fun k hk => by
    show (w.heap ++ os)[k]? = _
    rw [Array.getElem?_append_left hk]⟩
theorem VR.plain_eq {x y : Value} (v : VR μ x y) (hp : isPlain x = true) : y = x := by
  cases v <;> first
    | rfl
    | (simp [isPlain] at hp; done)
    | (rename_i a a' hs e; simp [isPlain] at hp; subst hp; exact congrArg Value.tuple (Array.eq_empty_of_size_eq_zero hs.symm))
theorem putL_all (cs vs : List Value) (h : vs.length = cs.length) : putL cs 0 vs = vs := by
  apply List.ext_getElem?
  intro m
  by_cases hm : m < vs.length
  · rw [putL_in' (by omega) (by omega) (by omega), Nat.sub_zero]
  · rw [List.getElem?_eq_none (by rw [putL_length]; omega), List.getElem?_eq_none (by omega)]
/-- A contract of the library over one slice of the caller's own, which it writes. -/
theorem CC.row {α : Type} [Inhabited α] {f : FuncId} (hb : callB P f = true) (enc : α → Value) (hp : ∀ a, isPlain (enc a) = true) (h1 : ∀ a, one (enc a) = true) (xs ys : List α) (hlen : ys.length = xs.length) (hn : 0 < xs.length) (V : Value) (rv : Nat → Nat → Nat → Value) (id off : Nat)
    (hV : ∀ μ l cap, μ id = some l → xs.length ≤ cap → off + cap * 1 ≤ l.room → VR μ (V) (rv l.b (l.o + off) cap))
    (c : ∀ (blk off cap : Nat) (w : World), Holds enc w blk off xs.toArray → blk < w.heap.size → xs.length ≤ cap → Calls P f #[.slice (some ⟨blk, off, none⟩) xs.length cap] w fun e w' => e = .returned (rv blk off cap) ∧ ∃ n os, w' = grow (putRow enc (Sort.ahead w n) blk off ys.toArray) os)
    (o : Own h id off xs.length 1 (xs.map enc)) : CC P f [.slice (some ⟨id, off, none⟩) xs.length 1] h (fun v h' => v = V ∧ Own h' id off xs.length 1 (ys.map enc) ∧ Wr h h' id) := by
  refine CE.call hb ?_
  intro FB w0 μ w cargs R' s la hk
  obtain ⟨all, st, ln, e, hs, hl, hd⟩ := o.ob
  have hvl : (ys.map enc).length = xs.length := by rw [List.length_map, hlen]
  have hst : st ≠ .ro := by rcases hs with rfl | rfl <;> simp
  have hw := o.wr (lo := 0) (vs := ys.map enc) (by rw [hvl]; omega) (K := fun h' => Own h' id off xs.length 1 (putL (xs.map enc) 0 (ys.map enc)) ∧ Wr h h' id) (fun h' a b => ⟨a, b⟩)
  rw [Nat.add_zero, ← wr_eq] at hw
  cases hr : wr h id off (ys.map enc) with
  | none => rw [hr] at hw; exact hw.elim
  | some h' =>
  rw [hr] at hw
  obtain ⟨hown, hwr⟩ := (show _ ∧ _ from hw)
  rw [show putL (xs.map enc) 0 (ys.map enc) = ys.map enc from putL_all _ _ (by simp [hlen])] at hown
  obtain ⟨cv, rfl⟩ : ∃ cv, cargs = #[cv] := by
    have h1 : cargs.toList.length = 1 := la.1.symm
    have h2 : cargs.size = 1 := by simpa using h1
    exact ⟨cargs[0], by apply Array.ext; · simp [h2]
                        · intro i a b; have : i = 0 := by omega
                          subst this; rfl⟩
  have hcv : VR μ (.slice (some ⟨id, off, none⟩) xs.length 1) cv := la.2 0 (by simp) (by simp)
  generalize hN : xs.length = N at hcv hn hvl
  cases hcv with
  | plain v hh => simp [isPlain] at hh
  | slz i off k l hm ho A' => omega
  | sl i off' n k cap l hm hn2 hroom =>
    subst hN
    obtain ⟨hfb, hblk, hro⟩ := s.blk id l all st ln hm e hst
    have hholds : Holds enc w l.b (l.o + off) xs.toArray := fun j hj => by
      have hj' : j < xs.length := by simpa using hj
      obtain ⟨c1, hc1, hv1⟩ := s.cell id l all st ln hm e (off + j) (by omega)
      have hx : all[off + j]'(by omega) = enc xs[j] := by
        have := congrArg (·[j]?) hd
        simp only [List.getElem?_drop, List.getElem?_map] at this
        rw [List.getElem?_eq_getElem (by omega), List.getElem?_eq_getElem hj'] at this
        exact Option.some.inj this
      rw [hx] at hv1
      have hc2 : c1 = enc xs[j] := by
        have := hp xs[j]
        generalize enc xs[j] = x at hv1 this
        exact VR.plain_eq hv1 this
      refine ⟨?_, ?_⟩
      · rw [Nat.add_assoc, hc1, hc2]
        simp [hj']
      · rw [Nat.add_assoc]; exact hblk.frozen (by omega)
    refine (c l.b (l.o + off) cap w hholds (s.lt hm e hst) hn2).mono fun e' w' ⟨h2, n, os, h3⟩ => ?_
    subst h2 h3
    have s1 : Sim P FB w0 μ h (Sort.ahead w n) := s.drawn (w.drawn + n)
    have hpost := (s1.write hm hr (cvs := ys.map enc) ⟨rfl, fun j a b => .plain _ (by rw [List.getElem_map]; exact hp _)⟩ (fun v hv => by obtain ⟨a, _, rfl⟩ := List.mem_map.1 hv; exact h1 a)).1
    obtain ⟨arr, ee, fz, b1, b2, b3⟩ := hblk
    have hheap := putRow_heap enc (Sort.ahead w n) l.b (l.o + off) ys.toArray (arr := arr) (e := ee) (fz := fz) b1 (by rw [b2]; simp only [List.size_toArray]; omega)
    rw [List.toList_toArray] at hheap
    have z := size_setCells l.b (ys.map enc) (l.o + off) (Sort.ahead w n)
    have sP : Sim P FB w0 μ h' (putRow enc (Sort.ahead w n) l.b (l.o + off) ys.toArray) := hpost.sim.same hheap (by rw [z.2.1]; rfl) (by rw [z.2.2.1]; rfl) (by rw [z.2.2.2]; rfl)
    exact hk V h' μ _ _ ⟨rfl, hown, hwr⟩ ⟨sP.grown os, hpost.ext, hpost.unt⟩ (hV μ l cap hm hn2 hroom)
theorem grow_nil (w : World) : grow w #[] = w := by unfold grow; rw [Array.append_empty]
end Go.Sim
/- Slices of the call's own, whose lines are the call's own: writing them leaves elder objects alone. Conditions: none. -/
set_option linter.unusedVariables false
set_option linter.unusedSimpArgs false
namespace Go.Sim
variable {P : Program} {h h0 : AH}
/-- Lines do not lie above their objects. -/
def Lin (h : AH) : Prop := ∀ i n, (h.ob i).own = some n → n ≤ i
theorem CC.withLin {f : FuncId} {args : List Value} {R : Value → AH → Prop} (hc : Lin h → CC P f args h R) : CC P f args h R := fun FB w0 μ w cargs o a K Q s => hc s.lin FB w0 μ w cargs o a K Q s
/-- The value's line is of the call's own. -/
def Lo (n0 : Nat) (h : AH) (v : Value) : Prop := ∀ i, atBlock v i → ∀ l, Line h i l → n0 ≤ l
theorem Lo.keep {n0 : Nat} {h' : AH} {v : Value} (w : Lo n0 h v) (e : ∀ i, atBlock v i → h'.ob i = h.ob i) : Lo n0 h' v := fun i hi l hl => w i hi l (by
  obtain ⟨a, s, e1, hs⟩ := hl.ob
  exact ⟨a, s, (e i hi).symm.trans e1, hs⟩)
structure GrL (n0 : Nat) (h : AH) (v : Value) (k : Nat) (cs : List Value) : Prop where
  gr : Gr n0 h v k cs
  lo : Lo n0 h v
theorem GrL.keep {n0 : Nat} {h' : AH} {v : Value} {k : Nat} {cs : List Value} (w : GrL n0 h v k cs) (hn : h.n ≤ h'.n) (e : ∀ i, atBlock v i → h'.ob i = h.ob i) : GrL n0 h' v k cs := ⟨w.gr.keep hn e, w.lo.keep e⟩
theorem Gr.lt {n0 : Nat} {v : Value} {k : Nat} {cs : List Value} (w : Gr n0 h v k cs) {i : Nat} (e : atBlock v i) : n0 ≤ i ∧ i < h.n := by
  rcases w with ⟨c, rfl, rfl⟩ | ⟨id, off, n, rfl, b, o⟩
  · exact e.elim
  · have e' : id = i := e
    have := o.lt
    omega
theorem GrL.pre {n0 : Nat} {h' : AH} {v : Value} {k : Nat} {cs : List Value} (w : GrL n0 h v k cs) (p : Pre h h') : GrL n0 h' v k cs := w.keep p.n (fun i e => p.ob i (w.gr.lt e).2)
theorem GrL.nil (n0 : Nat) (h : AH) (c k : Nat) : GrL n0 h (.slice none 0 c) k [] := ⟨Gr.nil _ _ _ _, fun _ e => e.elim⟩
theorem GrL.new {n0 : Nat} (hn : n0 ≤ h.n) (cs : List Value) (n k : Nat) (e : cs.length = n * k) : GrL n0 (h.alloc (.cells cs .solo h.n)) (.slice (some ⟨h.n, 0, none⟩) n k) k cs := ⟨Gr.new hn cs n k e, fun i hi l hl => by
  have e' : h.n = i := hi
  subst e'
  obtain ⟨a, s, e1, hs⟩ := hl.ob
  rw [alloc_same] at e1
  injection e1 with _ _ e1
  omega⟩
/-- An append of new elements to a slice of the call's own; its line stays. -/
theorem app_ownL {t u e : TypeId} {s b : Nat} {z : List Value} {ag : Bool} {id off n : Nat} {cs new : List Value} {m : Nat} {x : Value} {K : Value → AH → Prop}
    (hs : si P t = some (e, ⟨s, b, z, ag⟩)) (hpos : 0 < s) (hby : b ≤ 256) (hu : notInt (P.underlying u)) (w : Own h id off n s cs) (hx : asrc h s x = some (m, new)) (hm : new.length = m * s) (hb : n + m < 274877906944)
    (hk : ∀ h', Own h' h.n 0 (n + m) s (cs ++ new) → (∀ l, Line h' h.n l → Line h id l) → h'.n = h.n + 1 → (∀ i, i < h.n → i ≠ id → h'.ob i = h.ob i) → K (.slice (some ⟨h.n, 0, none⟩) (n + m) s) h') :
    aappend P h t u (.slice (some ⟨id, off, none⟩) n s) x K := by
  obtain ⟨all, st, ln, ho, hst, hl, rfl⟩ := w.ob
  have hne : h.n ≠ id := fun e => by have := w.lt; omega
  refine aapp_to ?_
  unfold aapp
  rw [hs]
  simp only [hx]
  refine ⟨hpos, hby, hu.1, hu.2, ?_⟩
  have hap : apd h id off n s new = some ((h.set id (.cells all .old ln)).alloc (.cells (all.drop off ++ new) .tip ln)) := by
    unfold apd
    rw [ho]
    rcases hst with rfl | rfl <;> simp [hl]
  simp only [hap]
  refine ⟨trivial, hb, ?_⟩
  have e0 : ((h.set id (.cells all .old ln)).alloc (.cells (all.drop off ++ new) .tip ln)).ob h.n = .cells (all.drop off ++ new) .tip ln := alloc_same (h := h.set id (.cells all .old ln)) _
  refine hk ((h.set id (.cells all .old ln)).alloc (.cells (all.drop off ++ new) .tip ln)) ⟨Nat.lt_succ_self h.n, by rw [List.length_append, hm, w.len, Nat.add_mul], all.drop off ++ new, .tip, ln, e0, .inr rfl, ?_, rfl⟩ (fun l hl => ?_) rfl (fun i hi hne' => ?_)
  · rw [List.length_append, hm, w.len, Nat.add_mul]; omega
  · obtain ⟨a, s', e1, _⟩ := hl.ob
    rw [e0] at e1
    injection e1 with _ _ e1
    subst e1
    exact ⟨all, st, ho, hst⟩
  · rw [alloc_lt _ (show i < (h.set id (.cells all .old ln)).n from hi), set_ne _ hne']
theorem GrL.app1 {t u e : TypeId} {s b : Nat} {z : List Value} {ag : Bool} {v : Value} {cs new : List Value} {m c : Nat} {K : Value → AH → Prop}
    (hs : si P t = some (e, ⟨s, b, z, ag⟩)) (hpos : 0 < s) (hby : b ≤ 256) (hu : notInt (P.underlying u)) (w : GrL h0.n h v s cs) (p : Pre h0 h) (hm : new.length = m * s) (hb : cs.length / s + m < 274877906944) (h1 : 0 < m)
    (hk : ∀ h', GrL h0.n h' (.slice (some ⟨h.n + 1, 0, none⟩) (cs.length / s + m) s) s (cs ++ new) → Pre h0 h' → h'.n = h.n + 2 → (∀ i, i < h.n → ¬ atBlock v i → h'.ob i = h.ob i) → K (.slice (some ⟨h.n + 1, 0, none⟩) (cs.length / s + m) s) h') :
    aappend P (h.alloc (.cells new .solo h.n)) t u v (.slice (some ⟨h.n, 0, none⟩) m c) K := by
  have hx := asrc_new (h := h) new s m c hm
  have w1 : GrL h0.n (h.alloc (.cells new .solo h.n)) v s cs := w.pre ((Pre.refl h).alloc _)
  have p1 : Pre h0 (h.alloc (.cells new .solo h.n)) := p.alloc _
  have hn := p.n
  obtain ⟨g, lo⟩ := w1
  rcases g with ⟨c', rfl, rfl⟩ | ⟨id, off, n, rfl, b', o⟩
  · simp only [List.length_nil, Nat.zero_div, Nat.zero_add, List.nil_append] at hk hb
    refine aapp_to ?_
    unfold aapp
    simp only [hs, hx]
    refine ⟨hpos, hby, hu.1, hu.2, hb, .inl ⟨h1, hk _ (GrL.new (h := h.alloc _) (by show h0.n ≤ h.n + 1; omega) new m s hm) (p1.alloc _) rfl (fun i hi _ => (alloc_lt _ (show i < (h.alloc (.cells new .solo h.n)).n from Nat.lt_succ_of_lt hi)).trans (alloc_lt _ hi))⟩⟩
  · have hl : cs.length / s = n := by rw [o.len]; exact Nat.mul_div_cancel n hpos
    rw [hl] at hb hk
    refine app_ownL hs hpos hby hu o hx hm hb (fun h' o' ln hn' he => hk h' ⟨.inr ⟨_, _, _, rfl, by omega, o'⟩, fun i hi l hl => ?_⟩ ⟨by rw [hn']; show h0.n ≤ h.n + 1 + 1; omega, fun i hi => ?_⟩ hn' (fun i hi hv => ?_))
    · have e' : h.n + 1 = i := hi
      subst e'
      exact lo id rfl l (ln l hl)
    · exact (he i (show i < h.n + 1 by omega) (by omega)).trans (p1.ob i hi)
    · exact (he i (show i < h.n + 1 by omega) (fun e => hv e.symm)).trans (alloc_lt _ hi)
/-- An append of whatever is read. -/
theorem GrL.app {n0 : Nat} {t u e : TypeId} {s b : Nat} {z : List Value} {ag : Bool} {v x : Value} {cs new : List Value} {m : Nat} {K : Value → AH → Prop}
    (hs : si P t = some (e, ⟨s, b, z, ag⟩)) (hpos : 0 < s) (hby : b ≤ 256) (hu : notInt (P.underlying u)) (w : GrL n0 h v s cs) (hn : n0 ≤ h.n) (hx : asrc h s x = some (m, new)) (hm : new.length = m * s) (hb : cs.length / s + m < 274877906944)
    (hk : ∀ v' h', GrL n0 h' v' s (cs ++ new) → h.n ≤ h'.n → (∀ i, i < h.n → ¬ atBlock v i → h'.ob i = h.ob i) → (∀ i, atBlock v' i → h.n ≤ i) → K v' h') :
    aappend P h t u v x K := by
  obtain ⟨g, lo⟩ := w
  rcases g with ⟨c', rfl, rfl⟩ | ⟨id, off, n, rfl, b', o⟩
  · refine aapp_to ?_
    unfold aapp
    simp only [hs, hx]
    simp only [List.length_nil, Nat.zero_div, Nat.zero_add] at hb
    refine ⟨hpos, hby, hu.1, hu.2, hb, ?_⟩
    by_cases h0 : m = 0
    · have : new = [] := List.eq_nil_of_length_eq_zero (by rw [hm, h0]; omega)
      subst this
      exact .inr ⟨h0, hk _ _ (GrL.nil _ _ _ _) (Nat.le_refl _) (fun _ _ _ => rfl) (fun _ e => e.elim)⟩
    · exact .inl ⟨by omega, hk _ _ (GrL.new hn new m s hm) (Nat.le_succ _) (fun i hi _ => alloc_lt _ hi) (fun i e => by have e' : h.n = i := e; omega)⟩
  · have hl : cs.length / s = n := by rw [o.len]; exact Nat.mul_div_cancel n hpos
    rw [hl] at hb
    refine app_ownL hs hpos hby hu o hx hm hb (fun h' o' ln hn' he => hk _ h' ⟨.inr ⟨_, _, _, rfl, hn, o'⟩, fun i hi l hl => ?_⟩ (by omega) (fun i hi hv => he i hi (fun e => hv e.symm)) (fun i e => by have e' : h.n = i := e; omega))
    have e' : h.n = i := hi
    subst e'
    exact lo id rfl l (ln l hl)
/-- A write of it leaves elder objects alone. -/
theorem GrL.wr {n0 : Nat} {h' : AH} {id off k m c : Nat} {cs : List Value} (w : GrL n0 h (.slice (some ⟨id, off, none⟩) m c) k cs) (f : Lin h) (x : Wr h h' id) : ∀ i, i < n0 → h'.ob i = h.ob i := fun i hi => by
  have hb := (w.gr.lt (i := id) rfl).1
  refine x.ob i (by omega) (fun l hl e => ?_)
  have := f i l e
  have := w.lo id rfl l hl
  omega
theorem Lo.wr {n0 : Nat} {h' : AH} {id off m c : Nat} (w : Lo n0 h (.slice (some ⟨id, off, none⟩) m c)) (x : Wr h h' id) : ∀ off' m' c', Lo n0 h' (.slice (some ⟨id, off', none⟩) m' c') := fun off' m' c' i hi l hl => by
  have e' : id = i := hi
  subst e'
  exact w id rfl l ((x.line l).2 hl)
/-- The head of a slice of the call's own. -/
structure OwnP (n0 : Nat) (h : AH) (v : Value) (m : Nat) : Prop where
  at_ : (∃ c, v = .slice none 0 c ∧ m = 0) ∨ ∃ id off n all, v = .slice (some ⟨id, off, none⟩) m 1 ∧ n0 ≤ id ∧ m ≤ n ∧ Own h id off n 1 all
  lo : Lo n0 h v
theorem OwnP.keep {n0 m : Nat} {h' : AH} {v : Value} (w : OwnP n0 h v m) (hn : h.n ≤ h'.n) (e : ∀ i, atBlock v i → h'.ob i = h.ob i) : OwnP n0 h' v m := by
  refine ⟨?_, w.lo.keep e⟩
  rcases w.at_ with w | ⟨id, off, n, all, rfl, b, c, o⟩
  · exact .inl w
  · exact .inr ⟨id, off, n, all, rfl, b, c, o.same (e id rfl) hn⟩
theorem OwnP.range {n0 m : Nat} {v : Value} (w : OwnP n0 h v m) {i : Nat} (e : atBlock v i) : n0 ≤ i ∧ i < h.n := by
  rcases w.at_ with ⟨c, rfl, _⟩ | ⟨id, off, n, all, rfl, b, c, o⟩
  · exact e.elim
  · have e' : id = i := e
    have := o.lt
    omega
theorem OwnP.pre {n0 m : Nat} {h' : AH} {v : Value} (w : OwnP n0 h v m) (p : Pre h h') : OwnP n0 h' v m := w.keep p.n (fun i e => p.ob i (w.range e).2)
theorem GrL.ownP {n0 m : Nat} {v : Value} {cs : List Value} (w : GrL n0 h v 1 cs) (e : cs.length = m) : OwnP n0 h v m := by
  refine ⟨?_, w.lo⟩
  rcases w.gr with ⟨c, rfl, rfl⟩ | ⟨id, off, n, rfl, b, o⟩
  · exact .inl ⟨c, rfl, e.symm⟩
  · have := o.len
    exact .inr ⟨id, off, n, cs, by rw [show m = n by omega], b, by omega, o⟩
end Go.Sim
namespace Go.Proofs.Ytciajhpeikemoaa
open Go Go.Sim Go.Proofs Go.RowKit Go.Sort
set_option linter.unusedSimpArgs false
set_option linter.unusedVariables false
set_option maxRecDepth 100000
set_option maxHeartbeats 1000000
theorem bitsLen0i_c (h : AH) : CD Try.prog 171 [.int .u64 0] h (.int .i64 0) h := by
  refine CD.bridge (by kernel_rfl) (fun a ha => ?_) rfl (fun w => ?_)
  · simp only [List.mem_cons, List.not_mem_nil, or_false] at ha
    subst ha; rfl
  · refine (Any.bits_Len lays125i 0 w (by omega) (by omega)).mono fun e w' hw => ?_
    rw [hw.2]
    exact ⟨hw.1, Below.refl _ _⟩
theorem encNa_row (ss : List Nat) : (ss.map encNa).flatten = (toI ss).map (Value.int .i64) := by
  induction ss with
  | nil => rfl
  | cons x r ih =>
    rw [List.map_cons, List.flatten_cons, ih]
    rfl
theorem insertion0i_c (A : Option Addr) (c : Nat) (h : AH) : CD Try.prog 196 [.slice A 0 c, .int .i64 0, .int .i64 0] h (.tuple #[]) h := by
  refine CD.quiet ?_ (low_tuple (by simp))
  refine CC.ofN Try.func196 Try.ntmps196 Try.results196 rfl (by decide) (by kernel_rfl) ?_
  simp (maxSteps := 1000000) -implicitDefEqProofs only [push_cast, seval]
  refine WC.loopA (by kernel_rfl) [6] [7, 10, 11, 12, 13, 14, 15, 16, 17, 18, 19, 20, 21, 22, 23, 24, 25, 26, 27, 28, 29, 30, 31, 32, 33, 34, 35, 36, 37, 38, 39, 40, 41, 42, 43, 44, 45, 46, 47, 48] (fun i : Nat => [.int .i64 1]) (fun i h' => Pre h h') (fun i => 0) 0 (by kernel_rfl) (Pre.refl _) ?_
  intro i g h1 p1
  simp (maxSteps := 1000000) -implicitDefEqProofs only [push_cast, seval]
  exact p1.keep
theorem pdq0i_c (A : Option Addr) (c : Nat) (h : AH) : CD Try.prog 170 [.slice A 0 c, .int .i64 0, .int .i64 0, .int .i64 0] h (.tuple #[]) h := by
  refine CD.quiet ?_ (low_tuple (by simp))
  refine CC.ofN Try.func170 Try.ntmps170 Try.results170 rfl (by decide) (by kernel_rfl) ?_
  simp (maxSteps := 1000000) -implicitDefEqProofs only [push_cast, seval]
  refine WC.loopA (by kernel_rfl) [1, 2, 3, 8, 9] [10, 11, 12, 13, 14, 15, 16, 17, 18, 19, 20, 21, 22, 23, 24, 25, 26, 27, 28, 29, 30, 31, 32, 33, 34, 35, 36, 37, 38, 39, 40, 41, 42, 43, 44, 45, 46, 47, 48, 49, 50, 51, 52, 53, 54, 55, 56, 57, 58, 59, 60, 61, 62, 63, 64, 65, 66, 67, 68, 69, 70, 71, 72, 73, 74, 75, 76, 77, 78, 79, 80, 81, 82, 83, 84, 85, 86, 87, 88, 89, 90, 91, 92, 93, 94, 95, 96, 97, 98, 99, 100, 101, 102, 103, 104, 105, 106, 107, 108, 109, 110, 111, 112, 113, 114, 115, 116, 117, 118, 119, 120, 121, 122, 123, 124, 125, 126, 127, 128, 129, 130, 131, 132, 133] (fun i : Nat => [.int .i64 0, .int .i64 0, .int .i64 0, .bool true, .bool true]) (fun i h' => Pre h h') (fun i => 0) 0 (by kernel_rfl) (Pre.refl _) ?_
  intro i g h1 p1
  simp (maxSteps := 1000000) -implicitDefEqProofs only [push_cast, seval, show IntKind.i64.wrap (0 : Int) = 0 from rfl]
  with_reducible refine CD.to (insertion0i_c A c h1) ?_
  simp (maxSteps := 1000000) -implicitDefEqProofs only [push_cast, seval]
  exact p1.keep
theorem sort0i_c (A : Option Addr) (c : Nat) (h : AH) : CD Try.prog 129 [.slice A 0 c] h (.tuple #[]) h := by
  refine CD.quiet ?_ (low_tuple (by simp))
  refine CC.ofN Try.func129 Try.ntmps129 Try.results129 rfl (by decide) (by kernel_rfl) ?_
  simp (maxSteps := 1000000) -implicitDefEqProofs only [push_cast, seval, show IntKind.u64.wrap (0 : Int) = 0 from rfl]
  with_reducible refine CD.to (bitsLen0i_c h) ?_
  simp (maxSteps := 1000000) -implicitDefEqProofs only [push_cast, seval]
  with_reducible refine CD.to (pdq0i_c A c h) ?_
  simp (maxSteps := 1000000) -implicitDefEqProofs only [push_cast, seval]
  exact Keep.refl _ _
/-- Numbers of the call's own. -/
theorem SortI_c {n0 : Nat} (zs : List Int) (v : Value) (h : AH) (g : GrL n0 h v 1 (zs.map (Value.int .i64))) (hl : zs.length ≤ 274877906944) :
    CC Try.prog 129 [v] h (fun r h' => r = .tuple #[] ∧ GrL n0 h' v 1 ((srtI zs).map (Value.int .i64)) ∧ WrV h h' v ∧ ∀ i, i < n0 → h'.ob i = h.ob i) := by
  refine CC.withLin (fun lin => CC.withFit (fun fit => ?_))
  have g0 := g
  obtain ⟨gr, lo⟩ := g
  have hfl : (zs.map (Value.int .i64)).length = zs.length * 1 := by rw [List.length_map]; omega
  cases zs with
  | nil =>
    have e0 : (srtI []).map (Value.int .i64) = [] := by
      have : srtI [] = [] := List.eq_nil_of_length_eq_zero (by simp [srtI_len])
      rw [this]; rfl
    rcases gr with ⟨c, rfl, _⟩ | ⟨id, off, n, rfl, hb, o⟩
    · exact (sort0i_c none c h).to ⟨rfl, by rw [e0]; exact g0, WrV.refl _ _, fun _ _ => rfl⟩
    · have hn : n = 0 := by have := o.len; rw [hfl] at this; simp at this; omega
      subst hn
      exact (sort0i_c _ 1 h).to ⟨rfl, by rw [e0]; exact g0, WrV.refl _ _, fun _ _ => rfl⟩
  | cons x r =>
    rcases gr with ⟨c, rfl, e⟩ | ⟨id, off, n, rfl, hb, o⟩
    · cases e
    · have hn : n = (x :: r).length := Nat.eq_of_mul_eq_mul_right (by decide : 0 < 1) (o.len.symm.trans hfl)
      have hpos : 0 < (x :: r).length := Nat.succ_pos _
      generalize x :: r = zs at *
      subst hn
      have key := CC.row (P := Try.prog) (f := 129) (h := h) (by kernel_rfl) (Value.int .i64) (fun _ => rfl) (fun _ => rfl) zs (srtI zs) (srtI_len _) hpos (.tuple #[]) (fun _ _ _ => .tuple #[]) id off (fun _ _ _ _ _ _ => .plain _ rfl) (fun blk off cap w hH hblk hcap => by
        exact Any.slices_Sort_int lays189 blk off cap zs w hH hblk (by omega)) o
      exact key.mono (fun r h' hv => ⟨hv.1, ⟨.inr ⟨id, off, zs.length, rfl, hb, hv.2.1⟩, lo.wr hv.2.2 _ _ _⟩, hv.2.2.toV fit o, g0.wr lin hv.2.2⟩)
theorem putRow_len_compactI (zs : List Int) : (Lib.compact zs ++ List.replicate (zs.length - (Lib.compact zs).length) 0).length = zs.length := by
  rw [List.length_append, List.length_replicate]
  have := cmpI_len zs
  omega
theorem CompactI_c {n0 : Nat} (zs : List Int) (ns : List Nat) (he : Lib.compact zs = toI ns) (v : Value) (h : AH) (g : GrL n0 h v 1 (zs.map (Value.int .i64))) (hl : zs.length ≤ 274877906944) :
    CC Try.prog 130 [v] h (fun r h' => RdV h' r 1 encNa ns ∧ OwnP n0 h' r ns.length ∧ WrV h h' v ∧ ∀ i, i < n0 → h'.ob i = h.ob i) := by
  refine CC.withLin (fun lin => CC.withFit (fun fit => ?_))
  have g0 := g
  obtain ⟨gr, lo⟩ := g
  have hfl : (zs.map (Value.int .i64)).length = zs.length * 1 := by rw [List.length_map]; omega
  have hnl : ns.length = (Lib.compact zs).length := by rw [he]; simp [toI]
  cases zs with
  | nil =>
    have e0 : ns = [] := List.eq_nil_of_length_eq_zero (by rw [hnl]; rfl)
    subst e0
    have key : ∀ (A : Option Addr) (c : Nat), Low h.n (.slice A 0 c) → CD Try.prog 130 [.slice A 0 c] h (.slice A 0 c) h := fun A c low => by
      refine CD.quiet ?_ low
      refine CC.ofN Try.func130 Try.ntmps130 Try.results130 rfl (by decide) (by kernel_rfl) ?_
      simp (maxSteps := 1000000) -implicitDefEqProofs only [push_cast, seval]
      exact Keep.refl _ _
    rcases gr with ⟨c, rfl, _⟩ | ⟨id, off, n, rfl, hb, o⟩
    · exact (key none c (.sl0 _)).to ⟨RdV.nil _ _ _ _, g0.ownP (by rfl), WrV.refl _ _, fun _ _ => rfl⟩
    · have hn : n = 0 := by have := o.len; rw [hfl] at this; simp at this; omega
      subst hn
      exact (key _ 1 (.sl _ _ _ _ o.lt)).to ⟨.inr ⟨id, off, 1, rfl, o.rdAll, o.lt⟩, g0.ownP (by rfl), WrV.refl _ _, fun _ _ => rfl⟩
  | cons x r =>
    rcases gr with ⟨c, rfl, e⟩ | ⟨id, off, n, rfl, hb, o⟩
    · cases e
    · have hn : n = (x :: r).length := Nat.eq_of_mul_eq_mul_right (by decide : 0 < 1) (o.len.symm.trans hfl)
      have hpos : 0 < (x :: r).length := Nat.succ_pos _
      have hmem : x ∈ Lib.compact (x :: r) := (cmpI_mem _ _).2 (by simp)
      have hc0 := List.length_pos_of_mem hmem
      clear hmem
      generalize x :: r = zs at *
      subst hn
      have hcl := cmpI_len zs
      have key := CC.row (P := Try.prog) (f := 130) (h := h) (by kernel_rfl) (Value.int .i64) (fun _ => rfl) (fun _ => rfl) zs _ (putRow_len_compactI _) hpos (.slice (some ⟨id, off, none⟩) (Lib.compact zs).length 1) (fun blk off cap => .slice (some ⟨blk, off, none⟩) (Lib.compact zs).length cap) id off (fun μ l cap hm h1 h2 => .sl _ _ _ _ _ _ hm (by omega) h2) (fun blk off cap w hH hblk hcap => by
        refine (Any.slices_Compact_int lays20 blk off cap zs w hH (by omega) hcap).mono fun e w' hw => ⟨hw.1, ?_⟩
        obtain ⟨q, hq⟩ := hw.2
        exact ⟨q, #[], by rw [hq, grow_nil]⟩) o
      refine key.mono (fun r h' hv => ⟨?_, .mk (.inr ⟨id, off, zs.length, _, by rw [hv.1, hnl], hb, by omega, hv.2.1⟩) (by rw [hv.1]; exact lo.wr hv.2.2 _ _ _), hv.2.2.toV fit o, g0.wr lin hv.2.2⟩)
      have hr := hv.2.1.rd (lo := 0) (m := (Lib.compact zs).length) (by omega)
      refine .inr ⟨id, off, 1, by rw [hv.1, hnl], ?_, hv.2.1.lt⟩
      rw [hnl, Nat.mul_one, show off = off + 0 from rfl, hr]
      congr 1
      rw [List.drop_zero, List.map_append, List.take_left' (by rw [List.length_map]), encNa_row, he]
end Go.Proofs.Ytciajhpeikemoaa
namespace Go.Proofs.Ytciajhpeikemoaa
open Go Go.Sim Go.Proofs
set_option linter.unusedSimpArgs false
set_option linter.unusedVariables false
set_option maxRecDepth 100000
set_option maxHeartbeats 1000000
/-- The place of a byte in a text. -/
def ixB (s : ByteArray) (c : Nat) : Int := Lib.indexByte s.data.toList c.toUInt8
theorem ixB_ge (s : ByteArray) (c : Nat) : -1 ≤ ixB s c := Lib.indexByte_ge _ _
theorem byteAt_get (s : ByteArray) (i : Nat) (hi : i < s.size) : s.data.toList[i]? = some (byteAt s i) := by
  have : i < s.data.size := hi
  rw [Array.getElem?_toList, Array.getElem?_eq_getElem this]
  unfold byteAt
  rw [Array.getD_eq_getD_getElem?, Array.getElem?_eq_getElem this]
  rfl
theorem ixB_none {s : ByteArray} {c : Nat} (hc : c < 256) (e : ixB s c = -1) : ∀ i, i < s.size → (byteAt s i).toNat ≠ c := fun i hi hb => by
  refine Lib.indexByte_none e i ?_
  rw [byteAt_get s i hi, ← hb]
  simp
theorem ixB_some {s : ByteArray} {c o : Nat} (hc : c < 256) (e : ixB s c = o) : o < s.size ∧ (byteAt s o).toNat = c ∧ ∀ i, i < o → (byteAt s i).toNat ≠ c := by
  obtain ⟨h1, h2⟩ := Lib.indexByte_some e
  have ho : o < s.size := by
    by_cases h : o < s.size
    · exact h
    · rw [List.getElem?_eq_none (by show s.data.toList.length ≤ o; rw [Array.length_toList]; exact Nat.le_of_not_lt h)] at h1; cases h1
  rw [byteAt_get s o ho] at h1
  refine ⟨ho, ?_, fun i hi hb => h2 i hi ?_⟩
  · have := Option.some.inj h1
    rw [this]
    show c % 256 = c
    omega
  · rw [byteAt_get s i (by omega), ← hb]
    simp
theorem ixB_lt (s : ByteArray) (c : Nat) (hc : c < 256) : ixB s c = -1 ∨ ∃ o : Nat, ixB s c = o ∧ o < s.size := by
  have := ixB_ge s c
  by_cases h : ixB s c = -1
  · exact .inl h
  · refine .inr ⟨(ixB s c).toNat, by omega, (ixB_some hc (show ixB s c = ((ixB s c).toNat : Nat) by omega)).1⟩
theorem IndexByteString_c (s : ByteArray) (c : Nat) (h : AH) : CD Try.prog 228 [.string s, .int .u8 (c : Nat)] h (.int .i64 (ixB s c)) h := by
  have key : ∀ w : World, (callFunc 228 #[.string s, .int .u8 (c : Nat)]).run Try.prog w = .ok (.value (.int .i64 (ixB s c))) w := fun w => ?_
  · exact CC.ext (P := Try.prog) (f := 228) (args := [.string s, .int .u8 (c : Nat)]) (V := .int .i64 (ixB s c)) (R := fun v h' => v = .int .i64 (ixB s c) ∧ h' = h) (fun v hv => by
      simp only [List.mem_cons, List.not_mem_nil, or_false] at hv
      rcases hv with rfl | rfl <;> rfl) key rfl (And.intro rfl rfl)
  have e1 : Extern.findNext Try.f228 = none := by kernel_rfl
  have e2 : Extern.find Try.f228 = some Extern.BytealgIndexByte.indexByte := by kernel_rfl
  have e3 : ¬ Try.f228.name = "runtime.NumGoroutine" := by
    have : (Try.f228.name == "runtime.NumGoroutine") = false := by kernel_rfl
    simpa using this
  have e4 : Try.f228.body = none := by kernel_rfl
  simp [callFunc, Try.func228, e1, e2, e3, e4, Lib.run_indexByteString, ixB, mark, Sem.run]
theorem slIndexByte_c (s : ByteArray) (c : Nat) (h : AH) : CD Try.prog 219 [.string s, .int .u8 (c : Nat)] h (.int .i64 (ixB s c)) h := by
  refine CD.quiet ?_ (low_int _ _ _)
  refine CC.ofN Try.func219 Try.ntmps219 Try.results219 rfl (by decide) (by kernel_rfl) ?_
  simp (maxSteps := 1000000) -implicitDefEqProofs only [push_cast, seval]
  repeat' (first | with_reducible (first | exact Keep.refl _ _ | assumption | exact byte_lt _ _ | apply Keep.alloc | (refine Keep.set ?_ ?_; rotate_left; · omega) | apply Pre.alloc | apply Pre.set | exact Pre.refl _ | exact le_alloc _ | (refine Pre.keep ?_; assumption) | (refine Pre.n ?_; assumption)) | ((with_reducible (first | refine CD.to (IndexByteString_c _ _ _) ?_ | refine CQ.pure (fun _ => IndexByteString_c _ _ _) ?_ | refine bcase_d (fun hb => ?_) (fun hb => ?_) | refine bcase_mk (fun hb => ?_) (fun hb => ?_))) <;> try simp (maxSteps := 1000000) -implicitDefEqProofs only [push_cast, seval]) | with_reducible refine And.intro ?_ ?_ | omega | (simp only [alloc_n, set_n, kill_n]; omega) | (exfalso; omega))
theorem IndexByte_c (s : ByteArray) (c : Nat) (h : AH) : CD Try.prog 194 [.string s, .int .u8 (c : Nat)] h (.int .i64 (ixB s c)) h := by
  refine CD.quiet ?_ (low_int _ _ _)
  refine CC.ofN Try.func194 Try.ntmps194 Try.results194 rfl (by decide) (by kernel_rfl) ?_
  simp (maxSteps := 1000000) -implicitDefEqProofs only [push_cast, seval]
  repeat' (first | with_reducible (first | exact Keep.refl _ _ | assumption | exact byte_lt _ _ | apply Keep.alloc | (refine Keep.set ?_ ?_; rotate_left; · omega) | apply Pre.alloc | apply Pre.set | exact Pre.refl _ | exact le_alloc _ | (refine Pre.keep ?_; assumption) | (refine Pre.n ?_; assumption)) | ((with_reducible (first | refine CD.to (slIndexByte_c _ _ _) ?_ | refine CQ.pure (fun _ => slIndexByte_c _ _ _) ?_ | refine bcase_d (fun hb => ?_) (fun hb => ?_) | refine bcase_mk (fun hb => ?_) (fun hb => ?_))) <;> try simp (maxSteps := 1000000) -implicitDefEqProofs only [push_cast, seval]) | with_reducible refine And.intro ?_ ?_ | omega | (simp only [alloc_n, set_n, kill_n]; omega) | (exfalso; omega))
theorem slIndex_c (s : ByteArray) (h : AH) : CD Try.prog 231 [.string s, .string ⟨#[93]⟩] h (.int .i64 (ixB s 93)) h := by
  refine CD.quiet ?_ (low_int _ _ _)
  have b0 : byteAt ⟨#[93]⟩ 0 = 93 := rfl
  have z0 : (⟨#[93]⟩ : ByteArray).size = 1 := rfl
  refine CC.ofN Try.func231 Try.ntmps231 Try.results231 rfl (by decide) (by kernel_rfl) ?_
  simp (maxSteps := 1000000) -implicitDefEqProofs only [push_cast, seval, b0, z0]
  with_reducible refine bcase_d (fun hb => ?_) (fun hb => ?_)
  · subst hb
    simp (maxSteps := 1000000) -implicitDefEqProofs only [push_cast, seval]
    exact ⟨rfl, Keep.refl _ _⟩
  · simp (maxSteps := 1000000) -implicitDefEqProofs only [push_cast, seval, b0, z0]
    refine CD.to (slIndexByte_c _ 93 _) ?_
    simp (maxSteps := 1000000) -implicitDefEqProofs only [push_cast, seval]
    exact Keep.refl _ _
/-- What is cut at a bracket. -/
def cutO (T : ByteArray) : Value := if ixB T 93 < 0 then .tuple #[.string T, .string ⟨#[]⟩, .bool false] else .tuple #[.string (T.extract 0 (ixB T 93).toNat), .string (T.extract ((ixB T 93).toNat + 1) T.size), .bool true]
theorem slCut_c (T : ByteArray) (hT : T.size ≤ 1000) (h : AH) : CD Try.prog 230 [.string T, .string ⟨#[93]⟩] h (cutO T) h := by
  refine CD.quiet ?_ (by unfold cutO; split <;> exact low_tuple (by simp [low_string, low_bool]))
  have z0 : (⟨#[93]⟩ : ByteArray).size = 1 := rfl
  have hx := ixB_lt T 93 (by decide)
  refine CC.ofN Try.func230 Try.ntmps230 Try.results230 rfl (by decide) (by kernel_rfl) ?_
  simp (maxSteps := 1000000) -implicitDefEqProofs only [push_cast, seval]
  with_reducible refine CD.to (slIndex_c T _) ?_
  unfold cutO
  generalize ixB T 93 = x at hx
  simp (maxSteps := 1000000) -implicitDefEqProofs only [push_cast, seval, z0]
  with_reducible refine bcase_d (fun hb => ?_) (fun hb => ?_)
  · obtain ⟨o, rfl, ho⟩ : ∃ o : Nat, x = o ∧ o < T.size := by
      rcases hx with rfl | hx
      · omega
      · exact hx
    refine WC.draw' (by kernel_rfl) (by kernel_rfl) (.q 0 (.q 1 (.q 2 (.q 3 (.q 4 (.q 5 (.q 6 (.q 7 (.q 8 (.q 9 (.q 10 (.q 11 (.done))))))))))))) (by kernel_rfl) ?_
    simp (maxSteps := 1000000) -implicitDefEqProofs only [push_cast, seval, z0]
    rw [show IntKind.i64.wrap ((o : Int) + 1) = ((o + 1 : Nat) : Int) by rw [w64 (by omega) (by omega)]; omega, if_neg (by omega)]
    exact ⟨by omega, by omega, by omega, by omega, Int.le_refl _, rfl, Keep.refl _ _⟩
  · rw [if_pos (by omega)]
    simp (maxSteps := 1000000) -implicitDefEqProofs only [push_cast, seval]
    exact Keep.refl _ _
theorem Cut_c (T : ByteArray) (hT : T.size ≤ 1000) (h : AH) : CD Try.prog 227 [.string T, .string ⟨#[93]⟩] h (cutO T) h := by
  refine CD.quiet ?_ (by unfold cutO; split <;> exact low_tuple (by simp [low_string, low_bool]))
  refine CC.ofN Try.func227 Try.ntmps227 Try.results227 rfl (by decide) (by kernel_rfl) ?_
  simp (maxSteps := 1000000) -implicitDefEqProofs only [push_cast, seval]
  with_reducible refine CD.to (slCut_c T hT _) ?_
  unfold cutO
  by_cases hb : ixB T 93 < 0
  · rw [if_pos hb]
    simp (maxSteps := 1000000) -implicitDefEqProofs only [push_cast, seval]
    exact Keep.refl _ _
  · rw [if_neg hb]
    simp (maxSteps := 1000000) -implicitDefEqProofs only [push_cast, seval]
    exact Keep.refl _ _
end Go.Proofs.Ytciajhpeikemoaa
/- Matchers in memory. Conditions: none. -/
set_option linter.unusedSimpArgs false
set_option linter.unusedVariables false
namespace Go.Sim
variable {P : Program} {h h' : AH}
/-- Nothing but a map was touched. -/
structure Fm (mr : Nat) (h h' : AH) : Prop where
  n : h.n ≤ h'.n
  ob : ∀ i, i < h.n → i ≠ mr → h'.ob i = h.ob i
theorem Fm.refl (mr : Nat) (h : AH) : Fm mr h h := ⟨Nat.le_refl _, fun _ _ _ => rfl⟩
theorem Fm.trans {mr : Nat} {a b c : AH} (x : Fm mr a b) (y : Fm mr b c) : Fm mr a c := ⟨Nat.le_trans x.n y.n, fun i hi hm => (y.ob i (Nat.lt_of_lt_of_le hi x.n) hm).trans (x.ob i hi hm)⟩
theorem Pre.fm (p : Pre h h') (mr : Nat) : Fm mr h h' := ⟨p.n, fun i hi _ => p.ob i hi⟩
theorem RdV.cells {α : Type} {v : Value} {k : Nat} {enc : α → List Value} {l : List α} (r : RdV h v k enc l) {i : Nat} (e : atBlock v i) : ∃ cs st ln, h.ob i = .cells cs st ln := by
  rcases r with ⟨c, rfl, _⟩ | ⟨id, off, c, rfl, r, hl⟩
  · exact e.elim
  · have e' : id = i := e
    subst e'
    rw [rd_eq] at r
    unfold rdO at r
    split at r
    · exact ⟨_, _, _, by assumption⟩
    · cases r
theorem RdV.fm {α : Type} {v : Value} {k : Nat} {enc : α → List Value} {l : List α} (r : RdV h v k enc l) {mr : Nat} {es : List (Value × Value)} (f : Fm mr h h') (hm : h.ob mr = .map es) : RdV h' v k enc l :=
  r.keep f.n (fun i e => f.ob i (r.lt e) (fun e2 => by
    obtain ⟨cs, st, ln, e3⟩ := r.cells e
    rw [e2, hm] at e3; cases e3))
theorem Gr.cells {n0 : Nat} {v : Value} {k : Nat} {cs : List Value} (w : Gr n0 h v k cs) {i : Nat} (e : atBlock v i) : ∃ cs st ln, h.ob i = .cells cs st ln := by
  rcases w with ⟨c, rfl, rfl⟩ | ⟨id, off, n, rfl, b, o⟩
  · exact e.elim
  · have e' : id = i := e
    subst e'
    obtain ⟨all, st, ln, e1, _⟩ := o.ob
    exact ⟨_, _, _, e1⟩
theorem GrL.fm {n0 : Nat} {v : Value} {k : Nat} {cs : List Value} (w : GrL n0 h v k cs) {mr : Nat} {es : List (Value × Value)} (f : Fm mr h h') (hm : h.ob mr = .map es) : GrL n0 h' v k cs :=
  w.keep f.n (fun i e => f.ob i (w.gr.lt e).2 (fun e2 => by
    obtain ⟨cs, st, ln, e3⟩ := w.gr.cells e
    rw [e2, hm] at e3; cases e3))
theorem RdPat.fm {v : Value} {L : List (Pc × Value)} (w : RdPat h v L) {mr : Nat} {es : List (Value × Value)} (f : Fm mr h h') (hm : h.ob mr = .map es) : RdPat h' v L := ⟨w.r.fm f hm, fun x hx => (w.kids x hx).fm f hm⟩
theorem live.of' {j : Nat} (l : live h j) (e : h'.ob j = h.ob j) : live h' j := by
  rcases l with ⟨ln, ⟨all, st, e1, hs⟩⟩ | l
  · exact .inl ⟨ln, ⟨all, st, e.trans e1, hs⟩⟩
  · exact .inr (by rw [e]; exact l)
def mkey (s : ByteArray) (k i : Nat) : Int := ((k * (s.size + 1) + i : Nat) : Int)
theorem mkey_inj {s : ByteArray} {k i k' i' : Nat} (hi : i ≤ s.size) (hi' : i' ≤ s.size) (e : mkey s k i = mkey s k' i') : k = k' ∧ i = i' := by
  have e1 : k * (s.size + 1) + i = k' * (s.size + 1) + i' := by unfold mkey at e; omega
  have a : (k * (s.size + 1) + i) / (s.size + 1) = k := by rw [Nat.mul_comm, Nat.mul_add_div (by omega), Nat.div_eq_of_lt (by omega)]; omega
  have b : (k' * (s.size + 1) + i') / (s.size + 1) = k' := by rw [Nat.mul_comm, Nat.mul_add_div (by omega), Nat.div_eq_of_lt (by omega)]; omega
  have hk : k = k' := by rw [← a, ← b, e1]
  subst hk
  exact ⟨rfl, by omega⟩
/-- What was told of a piece from a place on. -/
def Ent (L : List (Pc × Value)) (s : ByteArray) (h : AH) (e : Value × Value) : Prop :=
  ∃ k i, k < L.length ∧ i ≤ s.size ∧ e.1 = .int .i64 (mkey s k i) ∧ RdV h e.2 1 encNa (ml (L.map Prod.fst) s k i) ∧ ∀ b, atBlock e.2 b → live h b
/-- A matcher. -/
structure Mm (h : AH) (mp mr : Nat) (vP : Value) (L : List (Pc × Value)) (s : ByteArray) (es : List (Value × Value)) : Prop where
  pt : h.ob mp = .cells [vP, .string s, .map (some mr)] .solo mp
  lt : mp < h.n
  mlt : mr < h.n
  mo : h.ob mr = .map es
  ent : ∀ e ∈ es, Ent L s h e
  pat : RdPat h vP L
theorem Mm.ne {mp mr : Nat} {vP : Value} {L : List (Pc × Value)} {s : ByteArray} {es : List (Value × Value)} (m : Mm h mp mr vP L s es) : mp ≠ mr := fun e => by
  have := m.pt
  rw [e, m.mo] at this; cases this
theorem Ent.fm {L : List (Pc × Value)} {s : ByteArray} {e : Value × Value} (w : Ent L s h e) {mr : Nat} {es : List (Value × Value)} (f : Fm mr h h') (hm : h.ob mr = .map es) : Ent L s h' e := by
  obtain ⟨k, i, a, b, c, d, g⟩ := w
  refine ⟨k, i, a, b, c, d.fm f hm, fun b hb => (g b hb).of' (f.ob b (d.lt hb) (fun e2 => ?_))⟩
  obtain ⟨cs, st, ln, e3⟩ := d.cells hb
  rw [e2, hm] at e3; cases e3
theorem Mm.pre {mp mr : Nat} {vP : Value} {L : List (Pc × Value)} {s : ByteArray} {es : List (Value × Value)} (m : Mm h mp mr vP L s es) (p : Pre h h') : Mm h' mp mr vP L s es :=
  ⟨(p.ob _ m.lt).trans m.pt, Nat.lt_of_lt_of_le m.lt p.n, Nat.lt_of_lt_of_le m.mlt p.n, (p.ob _ m.mlt).trans m.mo, fun e he => (m.ent e he).fm (p.fm mr) m.mo, m.pat.pre p⟩
/-- What a call leaves: below b nothing but the map was touched, and what is newly told lies above. -/
structure Mo (b mr : Nat) (h h' : AH) (es es' : List (Value × Value)) : Prop where
  n : h.n ≤ h'.n
  ob : ∀ i, i < b → i ≠ mr → h'.ob i = h.ob i
  new : ∀ e ∈ es', e ∈ es ∨ ∀ c, atBlock e.2 c → b ≤ c
theorem Mo.refl (b mr : Nat) (h : AH) (es : List (Value × Value)) : Mo b mr h h es es := ⟨Nat.le_refl _, fun _ _ _ => rfl, fun _ h => .inl h⟩
theorem Mo.trans {b b' mr : Nat} {h1 h2 h3 : AH} {es es' es'' : List (Value × Value)} (x : Mo b mr h1 h2 es es') (y : Mo b' mr h2 h3 es' es'') (hb : b ≤ b') : Mo b mr h1 h3 es es'' :=
  ⟨Nat.le_trans x.n y.n, fun i hi hm => (y.ob i (by omega) hm).trans (x.ob i hi hm), fun e he => by
    rcases y.new e he with h | h
    · exact x.new e h
    · exact .inr (fun c hc => Nat.le_trans hb (h c hc))⟩
theorem Mo.fm {mr : Nat} {es es' : List (Value × Value)} (x : Mo h.n mr h h' es es') : Fm mr h h' := ⟨x.n, x.ob⟩
theorem Mo.ofPre {b mr : Nat} {es : List (Value × Value)} (p : Pre h h') (hb : b ≤ h.n) : Mo b mr h h' es es := ⟨p.n, fun i hi _ => p.ob i (by omega), fun _ h => .inl h⟩
theorem Mo.low {b b' mr : Nat} {es es' : List (Value × Value)} (x : Mo b' mr h h' es es') (hb : b ≤ b') : Mo b mr h h' es es' := (Mo.refl b mr h es).trans x hb
/-- The matcher's own things lie below. -/
structure Bs (b mp mr : Nat) (vP : Value) (L : List (Pc × Value)) : Prop where
  mp : mp < b
  mr : mr < b
  pat : ∀ i, (atBlock vP i ∨ ∃ x ∈ L, atBlock x.2 i) → i < b
theorem Mm.bs {mp mr : Nat} {vP : Value} {L : List (Pc × Value)} {s : ByteArray} {es : List (Value × Value)} (m : Mm h mp mr vP L s es) : Bs h.n mp mr vP L := ⟨m.lt, m.mlt, fun i e => by
  rcases e with e | ⟨x, hx, e⟩
  · exact m.pat.r.lt e
  · exact (m.pat.kids x hx).lt e⟩
theorem Bs.mono {b b' mp mr : Nat} {vP : Value} {L : List (Pc × Value)} (w : Bs b mp mr vP L) (hb : b ≤ b') : Bs b' mp mr vP L := ⟨Nat.lt_of_lt_of_le w.mp hb, Nat.lt_of_lt_of_le w.mr hb, fun i e => Nat.lt_of_lt_of_le (w.pat i e) hb⟩
theorem Mm.but {b mp mr : Nat} {vP : Value} {L : List (Pc × Value)} {s : ByteArray} {es : List (Value × Value)} (m : Mm h mp mr vP L s es) (bs : Bs b mp mr vP L) (hn : h.n ≤ h'.n) (h1 : ∀ i, i < b → h'.ob i = h.ob i) (h2 : ∀ e ∈ es, ∀ c, atBlock e.2 c → h'.ob c = h.ob c) : Mm h' mp mr vP L s es :=
  ⟨(h1 _ bs.mp).trans m.pt, Nat.lt_of_lt_of_le m.lt hn, Nat.lt_of_lt_of_le m.mlt hn, (h1 _ bs.mr).trans m.mo, fun e he => by
    obtain ⟨k, i, b1, b2, b3, b4, b5⟩ := m.ent e he
    exact ⟨k, i, b1, b2, b3, b4.keep hn (fun c hc => h2 e he c hc), fun c hc => (b5 c hc).of' (h2 e he c hc)⟩,
   ⟨m.pat.r.keep hn (fun i hi => h1 _ (bs.pat i (.inl hi))), fun x hx => (m.pat.kids x hx).keep hn (fun i hi => h1 _ (bs.pat i (.inr ⟨x, hx, hi⟩)))⟩⟩
/-- A list that stands beside all that was told. -/
def Apart (es : List (Value × Value)) (v : Value) : Prop := ∀ e ∈ es, ∀ b, atBlock e.2 b → ¬ atBlock v b
theorem Apart.mo {b mr : Nat} {es es' : List (Value × Value)} {v : Value} (a : Apart es v) (m : Mo b mr h h' es es') (hv : ∀ c, atBlock v c → c < b) : Apart es' v := fun e he c hc hv2 => by
  rcases m.new e he with h | h
  · exact a e h c hc hv2
  · have := h c hc; have := hv c hv2; omega
theorem Apart.fresh {L : List (Pc × Value)} {s : ByteArray} {es : List (Value × Value)} {v : Value} (h1 : ∀ e ∈ es, Ent L s h e) (hv : ∀ b, atBlock v b → h.n ≤ b) : Apart es v := fun e he b hb hv2 => by
  obtain ⟨k, i, _, _, _, r, _⟩ := h1 e he
  have := r.lt hb
  have := hv b hv2
  omega
theorem Apart.nil (es : List (Value × Value)) (c : Nat) : Apart es (.slice none 0 c) := fun _ _ _ _ h => h.elim
/-! ### the map of what was told -/
theorem aget_told {L : List (Pc × Value)} {s : ByteArray} {n : Int} : ∀ {es : List (Value × Value)}, (∀ e ∈ es, Ent L s h e) → ∃ r, aget es .i64 n = some r ∧ ∀ v, r = some v → (Value.int .i64 n, v) ∈ es
  | [], _ => ⟨none, rfl, fun v e => by cases e⟩
  | (x, v) :: es, hE => by
    obtain ⟨k, i, _, _, e1, _⟩ := hE (x, v) (by simp)
    simp only at e1
    subst e1
    by_cases e : mkey s k i = n
    · refine ⟨some v, by simp [aget, e], fun v' h => ?_⟩
      obtain rfl := Option.some.inj h
      rw [e]; simp
    · obtain ⟨r, h1, h2⟩ := aget_told (n := n) (fun e he => hE e (List.mem_cons_of_mem _ he))
      exact ⟨r, by simp [aget, e, h1], fun v' h => List.mem_cons_of_mem _ (h2 v' h)⟩
theorem aput_told {L : List (Pc × Value)} {s : ByteArray} {n : Int} {v : Value} : ∀ {es : List (Value × Value)}, (∀ e ∈ es, Ent L s h e) → ∃ es', aput es .i64 n v = some es' ∧ ∀ e ∈ es', e ∈ es ∨ e = (Value.int .i64 n, v)
  | [], _ => ⟨[(.int .i64 n, v)], rfl, fun e he => .inr (by simpa using he)⟩
  | (x, u) :: es, hE => by
    obtain ⟨k, i, _, _, e1, _⟩ := hE (x, u) (by simp)
    simp only at e1
    subst e1
    by_cases e : mkey s k i = n
    · refine ⟨(.int .i64 n, v) :: es, by simp [aput, e], fun e' he => ?_⟩
      rcases List.mem_cons.1 he with h | h
      · exact .inr h
      · exact .inl (List.mem_cons_of_mem _ h)
    · obtain ⟨es', h1, h2⟩ := aput_told (n := n) (v := v) (fun e he => hE e (List.mem_cons_of_mem _ he))
      refine ⟨(.int .i64 (mkey s k i), u) :: es', by simp [aput, e, h1], fun e' he => ?_⟩
      rcases List.mem_cons.1 he with h | h
      · exact .inl (by rw [h]; simp)
      · rcases h2 e' h with h | h
        · exact .inl (List.mem_cons_of_mem _ h)
        · exact .inr h
theorem Mm.told {mp mr : Nat} {vP : Value} {L : List (Pc × Value)} {s : ByteArray} {es : List (Value × Value)} (m : Mm h mp mr vP L s es) {k i : Nat} {v : Value} (hi : i ≤ s.size) (hv : (Value.int .i64 (mkey s k i), v) ∈ es) : RdV h v 1 encNa (ml (L.map Prod.fst) s k i) := by
  obtain ⟨k', i', a, b, c, d, _⟩ := m.ent _ hv
  simp only [Value.int.injEq, true_and] at c
  obtain ⟨rfl, rfl⟩ := mkey_inj hi b c
  exact d
/-- The told list is put. -/
theorem Mm.put {mp mr : Nat} {vP : Value} {L : List (Pc × Value)} {s : ByteArray} {es es' : List (Value × Value)} {k i : Nat} {v : Value} (m : Mm h mp mr vP L s es) (hk : k < L.length) (hi : i ≤ s.size) (h2 : ∀ e ∈ es', e ∈ es ∨ e = (Value.int .i64 (mkey s k i), v)) (r : RdV h v 1 encNa (ml (L.map Prod.fst) s k i)) (lv : ∀ b, atBlock v b → live h b) :
    Mm (h.set mr (.map es')) mp mr vP L s es' := by
  have f : Fm mr h (h.set mr (.map es')) := ⟨Nat.le_refl _, fun j _ hj => set_ne _ hj⟩
  refine ⟨(set_ne _ m.ne).trans m.pt, m.lt, m.mlt, set_same _ _, fun e he => ?_, m.pat.fm f m.mo⟩
  have : Ent L s h e := by
    rcases h2 e he with h | h
    · exact m.ent e h
    · subst h; exact ⟨k, i, hk, hi, rfl, r, lv⟩
  exact this.fm f m.mo
/-- Only one's own list was written. -/
theorem Mm.wrV {b mp mr : Nat} {vP : Value} {L : List (Pc × Value)} {s : ByteArray} {es : List (Value × Value)} {v : Value} (m : Mm h mp mr vP L s es) (bs : Bs b mp mr vP L) (a : Apart es v) (w : WrV h h' v) (lo : ∀ j, j < b → h'.ob j = h.ob j) : Mm h' mp mr vP L s es :=
  m.but bs (by rw [w.n]; exact Nat.le_refl _) lo (fun e he c hc => by
    obtain ⟨k, i, b1, b2, b3, b4, b5⟩ := m.ent e he
    exact w.ob c (a e he c hc) (b5 c hc))
theorem GrL.mono {n0 n1 : Nat} {v : Value} {k : Nat} {cs : List Value} (w : GrL n0 h v k cs) (e : n1 ≤ n0) : GrL n1 h v k cs := ⟨w.gr.mono e, fun i hi l hl => Nat.le_trans e (w.lo i hi l hl)⟩
theorem RdV.cell1 {α : Type} {v : Value} {k : Nat} {enc : α → List Value} {l : List α} (r : RdV h v k enc l) : v.cells = #[v] := by
  rcases r with ⟨c, rfl, _⟩ | ⟨id, off, c, rfl, r, hlt⟩ <;> rfl
theorem aput_mem {k : IntKind} {n : Int} {v : Value} : ∀ {es es' : List (Value × Value)}, aput es k n v = some es' → (Value.int k n, v) ∈ es'
  | [], es', e => by
    simp only [aput, Option.some.injEq] at e
    subst e; simp
  | (x, u) :: es, es', e => by
    cases x <;> try (simp [aput] at e; done)
    rename_i k' a
    simp only [aput] at e
    split at e
    · split at e
      · simp only [Option.some.injEq] at e; subst e; simp
      · obtain ⟨r, hr, rfl⟩ := Option.map_eq_some_iff.1 e
        exact List.mem_cons_of_mem _ (aput_mem hr)
    · cases e
theorem OwnP.live {n0 m : Nat} {v : Value} (w : OwnP n0 h v m) {i : Nat} (e : atBlock v i) : Sim.live h i := by
  rcases w.at_ with ⟨c, rfl, _⟩ | ⟨id, off, n, all, rfl, b, c, o⟩
  · exact e.elim
  · have e' : id = i := e
    subst e'
    exact .inl o.line
end Go.Sim
namespace Go.Proofs.Ytciajhpeikemoaa
open Go Go.Sim Go.Proofs
set_option linter.unusedSimpArgs false
set_option linter.unusedVariables false
set_option maxRecDepth 100000
set_option maxHeartbeats 1000000
theorem ixB_has (t : ByteArray) (c : Nat) (hc : c < 256) : decide (0 ≤ ixB t c) = hasB t c := by
  unfold hasB
  rcases ixB_lt t c hc with e | ⟨o, e, ho⟩
  · have : allAt t (fun x => decide (x ≠ (c : Nat))) = true := allAt_iff.2 (fun i hi => by
      have := ixB_none hc e i hi
      simp; omega)
    rw [e, this]; rfl
  · have h := ixB_some hc e
    have : allAt t (fun x => decide (x ≠ (c : Nat))) = false := allAt_false ho (by simp; omega)
    rw [e, this]; simp
theorem tk1 (x : Pc) (s : ByteArray) (i : Nat) (h : x.op = 1 ∨ x.op = 3) : tk x s i = hasB x.text (byteAt s i).toNat := by rw [tk, if_pos h]
theorem tk2 (x : Pc) (s : ByteArray) (i : Nat) (h : x.op = 2) : tk x s i = true := by rw [tk, if_neg (by omega), if_pos h]
theorem tk4 (x : Pc) (s : ByteArray) (i : Nat) (h : x.op = 4) : tk x s i = !hasB x.text (byteAt s i).toNat := by rw [tk, if_neg (by omega), if_neg (by omega), if_pos h]
/-- What taken answers. -/
def Tkn (x : Pc) (s : ByteArray) (i : Nat) (h : AH) (v : Value) (h' : AH) : Prop :=
  Pre h h' ∧ if 1 ≤ x.op ∧ x.op ≤ 4 then ∃ lv, v = .tuple #[lv, .bool true] ∧ GrL h.n h' lv 1 (((if i < s.size ∧ tk x s i = true then [i + 1] else []) : List Nat).map encNa).flatten ∧ ∀ b, atBlock lv b → h.n ≤ b else v = .tuple #[.slice none 0 0, .bool false]
theorem taken_c (x : Pc) (kv : Value) (mp i : Nat) (vP mv : Value) (s : ByteArray) (h : AH) (one1 : Sim.one kv = true) (pt : h.ob mp = .cells [vP, .string s, mv] .solo mp) (lt : mp < h.n) (hi : i ≤ s.size) (hs : s.size ≤ 100000) :
    CC Try.prog 167 [.pointer (some ⟨mp, 0, none⟩), .agg #[.int .i64 (x.op : Nat), .string x.text, kv], .int .i64 (i : Nat)] h (fun v h' => Tkn x s i h v h') := by
  have p1 : Pre h (h.alloc (.cells [.int .i64 (x.op : Nat), .string x.text, kv] .solo h.n)) := (Pre.refl h).alloc _
  have e1 : (h.alloc (.cells [.int .i64 (x.op : Nat), .string x.text, kv] .solo h.n)).ob h.n = _ := alloc_same _
  have n1 : (h.alloc (.cells [.int .i64 (x.op : Nat), .string x.text, kv] .solo h.n)).n = h.n + 1 := rfl
  have hB := (byteAt s i).toNat_lt
  have hx := ixB_has x.text (byteAt s i).toNat (by omega)
  refine CC.ofN Try.func167 Try.ntmps167 Try.results167 rfl (by decide) (by kernel_rfl) ?_
  simp (maxSteps := 1000000) -implicitDefEqProofs only [push_cast, seval, one1]
  generalize (h.alloc (.cells [.int .i64 (x.op : Nat), .string x.text, kv] .solo h.n)) = h1 at *
  have l1 : h.n < h1.n := by omega
  have l2 : mp < h1.n := by omega
  have pt1 := (p1.ob mp lt).trans pt
  simp (maxSteps := 1000000) -implicitDefEqProofs only [push_cast, seval, pt1, rd_of pt1, rd1_of pt1, l2]
  with_reducible refine bcase_d (fun hb => ?_) (fun hb => ?_)
  · simp (maxSteps := 1000000) -implicitDefEqProofs only [push_cast, seval, e1, rd_of e1, rd1_of e1, l1]
    with_reducible refine CD.to (within_c _ _ _ _) ?_
    simp (maxSteps := 1000000) -implicitDefEqProofs only [push_cast, seval]
    refine ⟨p1, ?_⟩
    by_cases ho : 1 ≤ x.op ∧ x.op ≤ 4
    · rw [if_pos ho, if_neg (by omega)]
      exact ⟨_, by rw [show inB (x.op : Nat) 1 4 = true by simp [inB]; omega], GrL.nil _ _ _ _, fun b hb => hb.elim⟩
    · rw [if_neg ho, show inB (x.op : Nat) 1 4 = false by simp [inB]; omega]
  have hi' : i < s.size := by omega
  simp (maxSteps := 1000000) -implicitDefEqProofs only [push_cast, seval, e1, rd_of e1, rd1_of e1, l1, pt1, rd_of pt1, rd1_of pt1, l2]
  refine WC.draw' (by kernel_rfl) (by kernel_rfl) (.q 0 (.q 1 (.q 2 (.q 3 (.q 4 (.q 5 (.q 6 (.q 7 (.a 8 false (.q 9 (.q 10 (.done)))))))))))) (by kernel_rfl) ?_
  simp (maxSteps := 1000000) -implicitDefEqProofs only [push_cast, seval, e1, rd_of e1, rd1_of e1, l1, pt1, rd_of pt1, rd1_of pt1, l2]
  repeat (with_reducible refine And.intro ?_ ?_; · (first | omega | decide))
  with_reducible refine CD.to (IndexByte_c _ _ _) ?_
  simp (maxSteps := 1000000) -implicitDefEqProofs only [push_cast, seval, hx]
  generalize hH : hasB x.text (byteAt s i).toNat = H at *
  have hl : 1 ≤ h1.n := by omega
  have gN : GrL h.n (h1.alloc (.cells [.int .i64 ((i + 1 : Nat) : Int)] .solo h1.n)) (.slice (some ⟨h1.n, 0, none⟩) 1 1) 1 (([i + 1] : List Nat).map encNa).flatten := GrL.new (h := h1) p1.n [.int .i64 ((i + 1 : Nat) : Int)] 1 1 rfl
  have pN : Pre h (h1.alloc (.cells [.int .i64 ((i + 1 : Nat) : Int)] .solo h1.n)) := p1.alloc _
  have bN : ∀ b, atBlock (.slice (some ⟨h1.n, 0, none⟩) 1 1) b → h.n ≤ b := fun b e => by have e' : h1.n = b := e; omega
  have hw : IntKind.i64.wrap ((i : Int) + 1) = ((i + 1 : Nat) : Int) := wrapSucc (by omega)
  have yes : tk x s i = true → 1 ≤ x.op ∧ x.op ≤ 4 → Tkn x s i h (.tuple #[.slice (some ⟨h1.n, 0, none⟩) 1 1, .bool true]) (h1.alloc (.cells [.int .i64 ((i + 1 : Nat) : Int)] .solo h1.n)) := fun e1 e2 => ⟨pN, by
    rw [if_pos e2, if_pos ⟨hi', e1⟩]
    exact ⟨_, rfl, gN, bN⟩⟩
  have no : tk x s i = false → 1 ≤ x.op ∧ x.op ≤ 4 → Tkn x s i h (.tuple #[.slice none 0 0, .bool true]) h1 := fun e1 e2 => ⟨p1, by
    rw [if_pos e2, if_neg (by rw [e1]; simp)]
    exact ⟨_, rfl, GrL.nil _ _ _ _, fun b hb => hb.elim⟩⟩
  by_cases o1 : x.op = 1
  · have htk := tk1 x s i (.inl o1)
    rw [hH] at htk
    rw [o1] at e1
    cases H
    · simp (maxSteps := 1000000) -implicitDefEqProofs only [push_cast, seval, e1, rd_of e1, rd1_of e1, l1]
      exact no htk (by omega)
    · simp (maxSteps := 1000000) -implicitDefEqProofs only [push_cast, seval, e1, rd_of e1, rd1_of e1, l1, hw]
      exact yes htk (by omega)
  by_cases o1 : x.op = 3
  · have htk := tk1 x s i (.inr o1)
    rw [hH] at htk
    rw [o1] at e1
    cases H
    · simp (maxSteps := 1000000) -implicitDefEqProofs only [push_cast, seval, e1, rd_of e1, rd1_of e1, l1]
      exact no htk (by omega)
    · simp (maxSteps := 1000000) -implicitDefEqProofs only [push_cast, seval, e1, rd_of e1, rd1_of e1, l1, hw]
      exact yes htk (by omega)
  by_cases o1 : x.op = 2
  · have htk := tk2 x s i o1
    rw [o1] at e1
    simp (maxSteps := 1000000) -implicitDefEqProofs only [push_cast, seval, e1, rd_of e1, rd1_of e1, l1, hw]
    exact yes htk (by omega)
  by_cases o1 : x.op = 4
  · have htk := tk4 x s i o1
    rw [hH] at htk
    rw [o1] at e1
    cases H
    · simp (maxSteps := 1000000) -implicitDefEqProofs only [push_cast, seval, e1, rd_of e1, rd1_of e1, l1, hw]
      exact yes htk (by omega)
    · simp (maxSteps := 1000000) -implicitDefEqProofs only [push_cast, seval, e1, rd_of e1, rd1_of e1, l1, hw]
      exact no htk (by omega)
  rename_i n1' n3' n2'
  have d1 : decide ((x.op : Int) = 1) = false := decide_eq_false (by omega)
  have d2 : decide ((x.op : Int) = 2) = false := decide_eq_false (by omega)
  have d3 : decide ((x.op : Int) = 3) = false := decide_eq_false (by omega)
  have d4 : decide ((x.op : Int) = 4) = false := decide_eq_false (by omega)
  simp (maxSteps := 1000000) -implicitDefEqProofs only [push_cast, seval, e1, rd_of e1, rd1_of e1, l1, d1, d2, d3, d4]
  exact ⟨p1, by rw [if_neg (by omega)]⟩
end Go.Proofs.Ytciajhpeikemoaa
/- Programs: when one is right. Conditions: none. -/
set_option linter.unusedSimpArgs false
set_option linter.unusedVariables false
namespace Go.Sim
structure Nd where
  op : Int
  text : ByteArray
  kids : List Int
  deriving DecidableEq
structure Ru where
  when_ : Int
  cond : Int
  act : Int
  deriving DecidableEq
structure Prg where
  nodes : List Nd
  rules : List Ru
  deriving DecidableEq
def encZ (k : Int) : List Value := [.int .i64 k]
def encD (x : Nd × Value) : List Value := [.int .i64 x.1.op, .string x.1.text, x.2]
def encU (r : Ru) : List Value := [.int .i64 r.when_, .int .i64 r.cond, .int .i64 r.act]
theorem encD_len (x : Nd × Value) : (encD x).length = 3 := rfl
/-- A program, read. -/
structure RdG (h : AH) (vN vR : Value) (L : List (Nd × Value)) (R : List Ru) : Prop where
  nodes : RdV h vN 3 encD L
  kids : ∀ x ∈ L, RdV h x.2 1 encZ x.1.kids
  rules : RdV h vR 3 encU R
theorem RdG.pre {h h' : AH} {vN vR : Value} {L : List (Nd × Value)} {R : List Ru} (w : RdG h vN vR L R) (p : Pre h h') : RdG h' vN vR L R := ⟨w.nodes.pre p, fun x hx => (w.kids x hx).pre p, w.rules.pre p⟩
def kept : List ByteArray := [⟨#[66, 69, 71, 73, 78]⟩, ⟨#[69, 78, 68]⟩, ⟨#[112, 114, 105, 110, 116]⟩, ⟨#[110, 101, 120, 116]⟩, ⟨#[100, 117, 109, 112]⟩, ⟨#[105, 102]⟩, ⟨#[101, 108, 115, 101]⟩, ⟨#[78, 70]⟩, ⟨#[78, 82]⟩, ⟨#[108, 101, 110, 103, 116, 104]⟩]
def nameOk (s : ByteArray) : Bool := letters s && !kept.any (fun t => decide (t = s))
def figs (s : ByteArray) (lo hi : Int) : Bool := allAt s (fun x => inB x 48 57) && inB s.size lo hi
def plain (s : ByteArray) (c : Nat) : Bool := !hasAny s c 10
def textP (op : Int) (s : ByteArray) : Bool :=
  if op = 1 then figs s 1 6
  else if op = 2 then decide (s.size ≤ 30) && plain s 34
  else if op = 3 ∨ op = 4 ∨ op = 18 ∨ op = 19 ∨ op = 20 ∨ op = 21 ∨ op = 25 then nameOk s
  else if op = 16 then (readP s).isSome && plain s 47
  else decide (s = ⟨#[]⟩)
def isEx (op : Int) : Bool := inB op 1 16
def rangeP (op : Int) : Int × Int :=
  if op = 4 ∨ op = 5 ∨ op = 8 ∨ op = 16 ∨ op = 18 ∨ op = 19 then (1, 1)
  else if op = 9 ∨ op = 10 ∨ op = 11 ∨ op = 12 ∨ op = 13 ∨ op = 14 ∨ op = 15 ∨ op = 20 ∨ op = 21 then (2, 2)
  else if op = 17 then (1, 4) else (0, 0)
def manyP (op : Int) : Int × Int := if op = 22 then (2, 3) else if op = 24 then (0, 20) else rangeP op
/-- May a node of such an op have such a kid at place k? -/
def kidP (op : Int) (k : Nat) (kop : Int) : Bool := if op = 22 ∧ 0 < k then !isEx kop && decide (kop ≠ 22) else if op = 24 then !isEx kop else isEx kop
def nodeOp (N : List Nd) (k : Int) : Int := (N.getD k.toNat ⟨0, ⟨#[]⟩, []⟩).op
def nodeP (N : List Nd) (i : Nat) (x : Nd) : Bool :=
  inB x.op 1 25 && textP x.op x.text && inB x.kids.length (manyP x.op).1 (manyP x.op).2 &&
  allN x.kids.length (fun k => inB (x.kids.getD k 0) 0 ((i : Int) - 1) && kidP x.op k (nodeOp N (x.kids.getD k 0)))
def ruleP (N : List Nd) (r : Ru) : Bool :=
  inB r.when_ 1 3 && inB r.act 0 ((N.length : Int) - 1) && decide (nodeOp N r.act = 24) && (decide (r.cond = -1) || (decide (r.when_ = 2) && inB r.cond 0 ((N.length : Int) - 1) && isEx (nodeOp N r.cond)))
def programOk (p : Prg) : Bool :=
  decide (p.nodes.length ≤ 200) && decide (p.rules.length ≤ 12) && allN p.nodes.length (fun i => nodeP p.nodes i (p.nodes.getD i ⟨0, ⟨#[]⟩, []⟩)) && p.rules.all (ruleP p.nodes)
theorem readP_small {s : ByteArray} (h : (readP s).isSome = true) : s.size ≤ 24 := by
  unfold readP at h
  split at h
  · rename_i hz; exact hz.2
  · cases h
end Go.Sim
/- Programs: what the rules of lines reach. Conditions: none. -/
set_option linter.unusedSimpArgs false
set_option linter.unusedVariables false
namespace Go.Sim
def encT (b : Bool) : List Value := [.bool b]
def bT (n : Nat) (F : Nat → Bool) : List Value := (List.range n).map fun j => .bool (F j)
def bL (n : Nat) (F : Nat → Bool) : List Bool := (List.range n).map F
theorem bT_bL (n : Nat) (F : Nat → Bool) : ((bL n F).map encT).flatten = bT n F := by
  unfold bL bT
  rw [List.map_map]
  induction n with
  | zero => rfl
  | succ n ih => rw [List.range_succ, List.map_append, List.flatten_append, ih, List.map_append]; rfl
theorem bT_len (n : Nat) (F : Nat → Bool) : (bT n F).length = n := by simp [bT]
theorem bL_len (n : Nat) (F : Nat → Bool) : (bL n F).length = n := by simp [bL]
theorem bL_get {n : Nat} {F : Nat → Bool} {i : Nat} (h : i < (bL n F).length) : (bL n F)[i] = F i := by simp [bL]
theorem bT_get {n : Nat} (F : Nat → Bool) {i : Nat} (h : i < n) : (bT n F)[i]? = some (.bool (F i)) := by simp [bT, h]
def updB (F : Nat → Bool) (j : Nat) (b : Bool) : Nat → Bool := fun k => if k = j then b else F k
theorem bT_set {n : Nat} (F : Nat → Bool) (j : Nat) (b : Bool) : (bT n F).set j (.bool b) = bT n (updB F j b) := by
  apply List.ext_getElem?
  intro k
  rw [List.getElem?_set]
  by_cases hk : k < n
  · rw [bT_get _ hk, bT_get _ hk, bT_len]
    by_cases e : j = k
    · subst e; rw [if_pos rfl, if_pos hk]; simp [updB]
    · rw [if_neg e]; simp [updB, Ne.symm e]
  · rw [List.getElem?_eq_none (by rw [bT_len]; omega), List.getElem?_eq_none (by rw [bT_len]; omega)]
    split
    · rw [bT_len, if_neg (by omega)]
    · rfl
theorem bT_zero (n : Nat) : bT n (fun _ => false) = List.replicate (n * 1) (.bool false) := by
  apply List.ext_getElem?
  intro k
  by_cases hk : k < n
  · rw [bT_get _ hk, List.getElem?_replicate, if_pos (by omega)]
  · rw [List.getElem?_eq_none (by rw [bT_len]; omega), List.getElem?_eq_none (by simp; omega)]
/-- Rules of lines mark their statement, and their condition. -/
def ruF (F : Nat → Bool) (r : Ru) : Nat → Bool := if r.when_ = 2 then (if 0 ≤ r.cond then updB (updB F r.act.toNat true) r.cond.toNat true else updB F r.act.toNat true) else F
def rusF (R : List Ru) (i : Nat) : Nat → Bool := (R.take i).foldl ruF (fun _ => false)
theorem rusF_succ {R : List Ru} {i : Nat} (h : i < R.length) : rusF R (i + 1) = ruF (rusF R i) R[i] := by
  rw [rusF, List.take_add_one, List.getElem?_eq_getElem h, Option.toList_some, List.foldl_append]; rfl
/-- A node that is reached reaches its kids. -/
def kiF (b : Bool) (F : Nat → Bool) (k : Int) : Nat → Bool := if b then updB F k.toNat true else F
def kisF (b : Bool) (F : Nat → Bool) (l : List Int) (i : Nat) : Nat → Bool := (l.take i).foldl (kiF b) F
theorem kisF_succ {b : Bool} {F : Nat → Bool} {l : List Int} {i : Nat} (h : i < l.length) : kisF b F l (i + 1) = kiF b (kisF b F l i) l[i] := by
  rw [kisF, List.take_add_one, List.getElem?_eq_getElem h, Option.toList_some, List.foldl_append]; rfl
theorem kisF_false (F : Nat → Bool) (l : List Int) : ∀ i, kisF false F l i = F := by
  intro i
  unfold kisF
  generalize l.take i = m
  induction m generalizing F with
  | nil => rfl
  | cons x m ih => rw [List.foldl_cons]; exact ih F
/-- What stands at places that no kid has stays. -/
theorem kisF_out {b : Bool} {F : Nat → Bool} {l : List Int} {p : Nat} (h : ∀ k ∈ l, k.toNat ≠ p) : ∀ i, kisF b F l i p = F p := by
  intro i
  unfold kisF
  have h' : ∀ k ∈ l.take i, k.toNat ≠ p := fun k hk => h k (List.mem_of_mem_take hk)
  generalize l.take i = m at h'
  induction m generalizing F with
  | nil => rfl
  | cons x m ih =>
    rw [List.foldl_cons, ih (fun k hk => h' k (List.mem_cons_of_mem _ hk))]
    unfold kiF
    split
    · unfold updB; rw [if_neg (Ne.symm (h' x (by simp)))]
    · rfl
def downF (N : List Nd) (F : Nat → Bool) : Nat → Nat → Bool
  | 0 => F
  | i + 1 => downF N (kisF (F i) F (N.getD i ⟨0, ⟨#[]⟩, []⟩).kids (N.getD i ⟨0, ⟨#[]⟩, []⟩).kids.length) i
def reach (N : List Nd) (R : List Ru) : Nat → Bool := downF N (rusF R R.length) N.length
/-- The same as impl's step. -/
theorem kiF_or (F : Nat → Bool) (b : Bool) (k : Int) (p : Nat) : kiF b F k p = (if p = k.toNat then (F k.toNat || b) else F p) := by
  unfold kiF updB
  cases b <;> by_cases e : p = k.toNat <;> simp [e]
end Go.Sim
