/- The law FnExactCodeOk holds: whatever store is handed in, the program's CodeOk answers as the reference's does. Conditions: none. -/
import Derived.Test.YtfodhnihieeecaaRows
import Derived.Test.YtfodhnihieeecaaB6
namespace Go.Proofs.Ytfodhnihieeecaa
open Go.ChangeShapes Go.WideShapes Go.ChangeAt Go.RowKit Go.Sim
set_option linter.unusedVariables false

theorem Rep_rdv {P : Go.Program} {h : AH} {α : Type} {t e : TypeId} {k : Nat} {cs : List Value} (enc : α → List Value) (ok : α → Prop) (ht : P.underlying t = some (.slice e)) (hk : P.cellsOf e = k) (dec : ∀ c, Rep P h e c → ∃ x, c = enc x ∧ ok x) (r : Rep P h t cs) :
    ∃ v, ∃ l : List α, cs = [v] ∧ RdV h v k enc l ∧ (∀ x ∈ l, ok x) ∧ l.length ≤ maxLen := by
  cases r with
  | nil _ e' c ht' => exact ⟨_, [], rfl, RdV.nil _ _ _ _, by simp, by simp⟩
  | slice _ e' id n ln chs ht' hid ho hn hm hl hr =>
    rw [ht] at ht'
    simp only [Option.some.injEq, TypeDesc.slice.injEq] at ht'
    subst ht'
    obtain ⟨l, rfl, hok⟩ := lift_map (enc := enc) (ok := ok) chs (fun c hc => by
      obtain ⟨i, hi, rfl⟩ := List.mem_iff_getElem.1 hc
      exact dec _ (hr i hi))
    have hlen : ∀ x ∈ l, (enc x).length = k := fun x hx => by
      obtain ⟨i, hi, rfl⟩ := List.mem_iff_getElem.1 hx
      have := hl i (by simpa using hi)
      simpa [hk] using this
    rw [List.length_map] at hn
    subst hn
    refine ⟨_, l, rfl, .inr ⟨id, 0, _, rfl, ?_, hid⟩, hok, hm⟩
    rw [rd_of ho, rdO_cells, if_pos (by rw [Nat.zero_add, chunk_len hlen]; exact Nat.le_refl _), List.drop_zero, List.take_of_length_le (by rw [chunk_len hlen]; exact Nat.le_refl _)]
  | _ => simp_all
theorem CO.own : ownKnob Try.prog.godebug = none := by kernel_rfl
theorem CO.laidOut : laidOutB Try.prog = true := by kernel_rfl
theorem CO.gl {W : World} (hsh : W.ShapedOpen Try.prog) : Try.prog.globals.size ≤ W.heap.size := globals_le hsh (n := 0) (by kernel_rfl) (by kernel_rfl)

set_option maxRecDepth 100000 in
theorem CO.lifted (os : Os) (started : os.Started) (H : Type) (enc : TypeId × Value → H) :
    ReturnsInHanded {} Try.checked os 4 .any (Rows.fnExactCodeOkSpec.pre6 enc Try.prog Try.f4 Rows.fnExactCodeOkRow.domain false) (Rows.fnExactCodeOkSpec.post enc Try.prog Try.f4 false true false false) := by
  refine returnsInHanded_of_change_shaped (C := Try.checked) CO.own started (by kernel_rfl) Try.func4
    (ChangeSpec.witness6 (enc := enc) (C := Try.checked) false ⟨#[], #[.agg #[.slice none 0 0, .slice none 0 0, .int .i64 0, .int .i64 0, .int .i64 0]], []⟩ 8 (by kernel_rfl) (by kernel_rfl) (by kernel_rfl) (by kernel_rfl)) ?_
  intro W base args ds gs before hval0 hW hcnd _ hsh _
  have hval : ∀ (j : Nat) t v, Try.f4.params[j]? = some t → args[j]? = some v → Value.okWide Try.prog W .any base t v := hval0
  have hW' := hW
  obtain ⟨p, q, hA0, hV, rfl, hfz, hnd⟩ := hW
  have hA : DataW.TrodAll enc Try.prog W 0 (fun _ => true) true Try.f4.params.toList args.toList ds p := hA0
  rw [Try.params4] at hA hval
  obtain ⟨v0, d0, rfl, rfl, h0⟩ := trodAll_one hA
  obtain ⟨rfl, rfl⟩ := trodVars_none hV
  have k0 := h0
  have lt0 : ∀ x ∈ p, x.block < W.heap.size := by obtain ⟨m, hm⟩ := k0; exact DataW.trod_lt m _ _ _ hm
  obtain ⟨cs, rfl⟩ := okWide_agg (ts := [37, 38, 3, 3, 3]) (by kernel_rfl) (hval 0 40 v0 rfl rfl)
  clear hA0 hval0
  simp only [List.append_nil] at hW'
  refine (row_struct (P := Try.prog) (f := 4) (t := 40) 8 (by kernel_rfl) (CO.gl hsh) h0 (fun h acs r _ => ?_)).mono fun e W' ⟨he, bel⟩ => ?_
  · obtain ⟨cks, rfl, hr⟩ := r.fields (ts := [37, 38, 3, 3, 3]) (by kernel_rfl)
    match cks, hr with
    | [c0, c1, c2, c3, c4], ⟨r0, r1, r2, r3, r4, _⟩ =>
      obtain ⟨vA, vs, rfl, rA, zA, nA⟩ := Rep_rdv (e := 9) (k := 1) encS (fun x => x.size ≤ maxLen) und37 (by kernel_rfl) (fun c rc => by
        obtain ⟨a, rfl, ha⟩ := rc.ofStr und9
        exact ⟨a, rfl, ha⟩) r0
      obtain ⟨vB, cl, rfl, rB, zB, nB⟩ := Rep_rdv (e := 171) (k := 2) encN (fun x => True) und38 (by kernel_rfl) (fun c rc => by
        obtain ⟨cks, rfl, hr⟩ := rc.fields (ts := [3, 3]) (by kernel_rfl)
        match cks, hr with
        | [d0, d1], ⟨q0, q1, _⟩ =>
          obtain ⟨a, rfl, ha⟩ := q0.ofInt und3
          obtain ⟨b, rfl, hb⟩ := q1.ofInt und3
          exact ⟨⟨a, b⟩, rfl, trivial⟩) r1
      obtain ⟨n1, rfl, h1⟩ := r2.ofInt und3
      obtain ⟨n2, rfl, h2⟩ := r3.ofInt und3
      obtain ⟨n3, rfl, h3⟩ := r4.ofInt und3
      exact CE.withBig fun big => law_CodeOk ⟨vs, cl, n1, n2, n3⟩ _ _ h ⟨rA, rB⟩ ⟨zA, nA, nB⟩ big
  · subst he
    exact ⟨_, rfl, _, _, _, [], _, [], hW', trodAll_mk1 (shut_bool und4 _), trodAll_mk1 (Below.trod CO.laidOut (by kernel_rfl) (of_decide_eq_true (by kernel_rfl)) k0 bel lt0), rfl, bel.frame _, fun h => by cases h⟩

theorem fnExactCodeOk_holds : Rows.FnExactCodeOkSaid :=
  OpenClaim.holds_of_wide 4 Try.f4 rfl rfl rfl rfl rfl rfl rfl ⟨rfl, rfl, rfl, rfl, rfl⟩ rfl rfl rfl rfl rfl (by kernel_rfl) Try.func4 (by kernel_rfl)
    (of_decide_eq_true (by kernel_rfl)) (by unfold Func.isWrapper; first | (rw [if_pos (by decide +kernel)]; kernel_rfl) | (rw [if_neg (by decide +kernel)]; exact ⟨rfl, rfl⟩))
    (fun os started H enc _ => CO.lifted os started H enc)
end Go.Proofs.Ytfodhnihieeecaa
