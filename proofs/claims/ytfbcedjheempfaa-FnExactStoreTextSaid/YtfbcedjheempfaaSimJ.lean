/- What is handed in, opened by its type. Conditions: those that each theorem names. -/
import Derived.Test.YtfbcedjheempfaaSimI
set_option linter.unusedVariables false
set_option linter.unusedSimpArgs false
namespace Go.Sim
variable {P : Program} {h : AH}

def fieldTypes (P : Program) (t : TypeId) : Option (List TypeId) :=
  match P.underlying t with
  | some (.struct fs) => some (fs.toList.map (·.type))
  | _ => none
def RepL (P : Program) (h : AH) : List TypeId → List (List Value) → Prop
  | [], [] => True
  | t :: ts, c :: cs => Rep P h t c ∧ RepL P h ts cs
  | _, _ => False
theorem repL_of : ∀ {ts : List TypeId} {cks : List (List Value)}, cks.length = ts.length → (∀ i (a : i < ts.length) (b : i < cks.length), Rep P h ts[i] cks[i]) → RepL P h ts cks
  | [], [], _, _ => trivial
  | t :: ts, c :: cs, hl, hr => ⟨hr 0 (by simp) (by simp), repL_of (by simpa using hl) (fun i a b => hr (i + 1) (by simpa using a) (by simpa using b))⟩
theorem Rep.fields {t : TypeId} {ts : List TypeId} {cs : List Value} (ht : fieldTypes P t = some ts) (r : Rep P h t cs) : ∃ cks, cs = cks.flatten ∧ RepL P h ts cks := by
  unfold fieldTypes at ht
  cases r with
  | struct _ fs cks hu hn hr =>
    rw [hu] at ht
    simp only [Option.some.injEq] at ht
    subst ht
    exact ⟨cks, rfl, repL_of (by simpa using hn) (fun i a b => by rw [List.getElem_map]; exact hr i (by simpa using a) b)⟩
  | _ => simp_all
theorem okWide_agg {t : TypeId} {ts : List TypeId} {W : World} {r : Reach} {base : Nat} {v : Value} (ht : fieldTypes P t = some ts) (hv : Value.okWide P W r base t v) : ∃ cs, v = .agg cs := by
  unfold fieldTypes at ht
  split at ht
  · rename_i fs hu
    obtain ⟨cs, rfl, _⟩ := Go.WideShapes.okWide_struct hu hv
    exact ⟨cs, rfl⟩
  · cases ht
theorem Rep.ofInt {t : TypeId} {k : IntKind} {cs : List Value} (ht : P.underlying t = some (.int k)) (r : Rep P h t cs) : ∃ n, cs = [.int k n] ∧ (Lit.int k n).wf = true := by
  cases r <;> simp_all
theorem Rep.ofStr {t : TypeId} {cs : List Value} (ht : P.underlying t = some .string) (r : Rep P h t cs) : ∃ s, cs = [.string s] ∧ s.size ≤ maxLen := by
  cases r <;> simp_all
theorem Rep.ofBool {t : TypeId} {cs : List Value} (ht : P.underlying t = some .bool) (r : Rep P h t cs) : ∃ b, cs = [.bool b] := by
  cases r <;> simp_all

/-- The heap reaches as far as the globals do. -/
theorem globals_le {W : World} (hsh : W.ShapedOpen P) {n : Nat} (hn : P.globals.size = n + 1) (h0 : ((((begin P (fun _ _ => 0) default).world.heap[n]?).bind Obj.row?).isSome) = true) : P.globals.size ≤ W.heap.size := by
  obtain ⟨⟨zero, t⟩, h1⟩ := Option.isSome_iff_exists.1 h0
  obtain ⟨cs, hh, _⟩ := hsh.1 n zero t (by omega) h1
  have := (Array.getElem?_eq_some_iff.1 hh).1
  omega

end Go.Sim
