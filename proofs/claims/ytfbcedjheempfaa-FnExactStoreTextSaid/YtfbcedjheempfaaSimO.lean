/- Slices that are handed in, read as lists. Conditions: those that each theorem names. -/
import Derived.Test.YtfbcedjheempfaaSimM
import Derived.Test.YtfbcedjheempfaaSimJ
set_option linter.unusedVariables false
set_option linter.unusedSimpArgs false
namespace Go.Sim
variable {P : Program} {h : AH}

theorem CE.withBig {f : FuncId} {args : List Value} {R : Value → AH → Prop} (hc : Big h → CE P f args h R) : CE P f args h R := fun FB w0 μ w cargs R' s => hc s.big FB w0 μ w cargs R' s
theorem chunk_len {α : Type} {k : Nat} {enc : α → List Value} : ∀ {l : List α}, (∀ x ∈ l, (enc x).length = k) → (l.map enc).flatten.length = l.length * k
  | [], _ => by simp
  | x :: r, hl => by
    simp only [List.map_cons, List.flatten_cons, List.length_append, List.length_cons, hl x (by simp), chunk_len (l := r) (fun y hy => hl y (by simp [hy])), Nat.succ_mul]
    omega
theorem chunk_at {α : Type} {k : Nat} {enc : α → List Value} : ∀ {l : List α} (i : Nat) (hi : i < l.length), (∀ x ∈ l, (enc x).length = k) → (((l.map enc).flatten).drop (i * k)).take k = enc l[i]
  | x :: r, 0, _, hl => by
    have e := hl x (by simp)
    simp [← e]
  | x :: r, i + 1, hi, hl => by
    have e := hl x (by simp)
    have ih := chunk_at (l := r) i (by simpa using hi) (fun y hy => hl y (by simp [hy]))
    simp only [List.map_cons, List.flatten_cons, List.getElem_cons_succ, Nat.succ_mul]
    rw [List.drop_append, e, show i * k + k - k = i * k by omega, List.drop_eq_nil_of_le (by rw [e]; omega), List.nil_append]
    exact ih
theorem lift_map {α : Type} {enc : α → List Value} {ok : α → Prop} : ∀ (chs : List (List Value)), (∀ c ∈ chs, ∃ x, c = enc x ∧ ok x) → ∃ l : List α, chs = l.map enc ∧ ∀ x ∈ l, ok x
  | [], _ => ⟨[], rfl, by simp⟩
  | c :: r, hc => by
    obtain ⟨x, rfl, hx⟩ := hc c (by simp)
    obtain ⟨l, rfl, hl⟩ := lift_map r (fun d hd => hc d (by simp [hd]))
    exact ⟨x :: l, rfl, by simpa using ⟨hx, hl⟩⟩
theorem Rep.list {α : Type} {t e : TypeId} {k : Nat} {cs : List Value} (enc : α → List Value) (ok : α → Prop) (ht : P.underlying t = some (.slice e)) (hk : P.cellsOf e = k) (dec : ∀ c, Rep P h e c → ∃ x, c = enc x ∧ ok x) (r : Rep P h t cs) :
    ∃ A c, ∃ l : List α, cs = [.slice A l.length c] ∧ RdE h A k enc l ∧ (∀ x ∈ l, ok x) ∧ l.length ≤ maxLen := by
  cases r with
  | nil _ e' c ht' => exact ⟨none, c, [], rfl, RdE.nil _ _ _, by simp, by simp⟩
  | slice _ e' id n ln chs ht' hid ho hn hm hl hr =>
    rw [ht] at ht'
    simp only [Option.some.injEq, TypeDesc.slice.injEq] at ht'
    subst ht'
    obtain ⟨l, rfl, hok⟩ := lift_map (enc := enc) (ok := ok) chs (fun c hc => by
      obtain ⟨i, hi, rfl⟩ := List.mem_iff_getElem.1 hc
      exact dec _ (hr i hi))
    have hlen : ∀ x ∈ l, (enc x).length = k := fun x hx => by
      obtain ⟨i, hi, rfl⟩ := List.mem_iff_getElem.1 hx
      have := hl i (by simpa using hi)
      simpa [hk] using this
    rw [List.length_map] at hn
    subst hn
    refine ⟨some ⟨id, 0, none⟩, P.cellsOf e, l, rfl, fun i hi => ⟨id, 0, rfl, ?_⟩, hok, hm⟩
    have hb : i * k + k ≤ l.length * k := by rw [← Nat.succ_mul]; exact Nat.mul_le_mul_right k hi
    rw [rd_of ho, rdO_cells, Nat.zero_add, if_pos (by rw [chunk_len hlen]; exact hb), chunk_at i hi hlen]
  | _ => simp_all
end Go.Sim
