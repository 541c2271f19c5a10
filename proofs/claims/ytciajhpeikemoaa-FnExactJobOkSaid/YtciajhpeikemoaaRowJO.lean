/- The law FnExactJobOk holds: whatever job is handed in, the program's JobOk answers as the reference's does. Conditions: none. -/
import Derived.Test.YtciajhpeikemoaaRows
import Derived.Test.YtciajhpeikemoaaB6
namespace Go.Proofs.Ytciajhpeikemoaa
open Go.ChangeShapes Go.WideShapes Go.ChangeAt Go.RowKit Go.Sim
set_option linter.unusedVariables false

theorem Rep_rdv {P : Go.Program} {h : AH} {α : Type} {t e : TypeId} {k : Nat} {cs : List Value} (enc : α → List Value) (ok : α → Prop) (ht : P.underlying t = some (.slice e)) (hk : P.cellsOf e = k) (dec : ∀ c, Rep P h e c → ∃ x, c = enc x ∧ ok x) (r : Rep P h t cs) :
    ∃ v, ∃ l : List α, cs = [v] ∧ RdV h v k enc l ∧ (∀ x ∈ l, ok x) ∧ l.length ≤ maxLen := by
  cases r with
  | nil _ e' c ht' => exact ⟨_, [], rfl, RdV.nil _ _ _ _, by simp, by simp⟩
  | slice _ e' id n ln chs ht' hid ho hn hm hl hr =>
    rw [ht] at ht'
    simp only [Option.some.injEq, TypeDesc.slice.injEq] at ht'
    subst ht'
    obtain ⟨l, rfl, hok⟩ := lift_map (enc := enc) (ok := ok) chs (fun c hc => by
      obtain ⟨i, hi, rfl⟩ := List.mem_iff_getElem.1 hc
      exact dec _ (hr i hi))
    have hlen : ∀ x ∈ l, (enc x).length = k := fun x hx => by
      obtain ⟨i, hi, rfl⟩ := List.mem_iff_getElem.1 hx
      have := hl i (by simpa using hi)
      simpa [hk] using this
    rw [List.length_map] at hn
    subst hn
    refine ⟨_, l, rfl, .inr ⟨id, 0, _, rfl, ?_, hid⟩, hok, hm⟩
    rw [rd_of ho, rdO_cells, if_pos (by rw [Nat.zero_add, chunk_len hlen]; exact Nat.le_refl _), List.drop_zero, List.take_of_length_le (by rw [chunk_len hlen]; exact Nat.le_refl _)]
  | _ => simp_all
theorem rdv_pre {h : AH} {α : Type} {v : Value} {k : Nat} {enc : α → List Value} {l : List α} (r : RdV h v k enc l) (hl : ∀ x, (enc x).length = k) : ∃ A c, v = .slice A l.length c ∧ ∀ h2, Pre h h2 → RdE h2 A k enc l := by
  rcases r with ⟨c, rfl, rfl⟩ | ⟨id, off, c, rfl, q, hlt⟩
  · exact ⟨none, c, rfl, fun h2 p => RdE.nil _ _ _⟩
  · refine ⟨_, c, rfl, fun h2 p i hi => ⟨id, off, rfl, ?_⟩⟩
    have q2 : rd h2 id off (l.length * k) = some (l.map enc).flatten := by rw [← q, rd_eq, rd_eq, p.ob id hlt]
    exact chunk_of (n := 0) (fun x _ => hl x) q2 hi
theorem JO.own : ownKnob Try.prog.godebug = none := by kernel_rfl
theorem JO.laidOut : laidOutB Try.prog = true := by kernel_rfl
theorem JO.gl {W : World} (hsh : W.ShapedOpen Try.prog) : Try.prog.globals.size ≤ W.heap.size := globals_le hsh (n := 0) (by kernel_rfl) (by kernel_rfl)

set_option maxRecDepth 100000 in
theorem JO.lifted (os : Os) (started : os.Started) (H : Type) (enc : TypeId × Value → H) :
    ReturnsInHanded {} Try.checked os 10 .any (Rows.fnExactJobOkSpec.pre6 enc Try.prog Try.f10 Rows.fnExactJobOkRow.domain false) (Rows.fnExactJobOkSpec.post enc Try.prog Try.f10 false true false false) := by
  refine returnsInHanded_of_change_shaped (C := Try.checked) JO.own started (by kernel_rfl) Try.func10
    (ChangeSpec.witness6 (enc := enc) (C := Try.checked) false ⟨#[], #[.agg #[.slice none 0 0, .slice none 0 0, .int .i64 0, .int .i64 0, .int .i64 0, .slice none 0 0, .slice none 0 0, .string ByteArray.empty, .slice none 0 0, .slice none 0 0]], []⟩ 8 (by kernel_rfl) (by kernel_rfl) (by kernel_rfl) (by kernel_rfl)) ?_
  intro W base args ds gs before hval0 hW hcnd _ hsh _
  have hval : ∀ (j : Nat) t v, Try.f10.params[j]? = some t → args[j]? = some v → Value.okWide Try.prog W .any base t v := hval0
  have hW' := hW
  obtain ⟨p, q, hA0, hV, rfl, hfz, hnd⟩ := hW
  have hA : DataW.TrodAll enc Try.prog W 0 (fun _ => true) true Try.f10.params.toList args.toList ds p := hA0
  rw [Try.params10] at hA hval
  obtain ⟨v0, d0, rfl, rfl, h0⟩ := trodAll_one hA
  obtain ⟨rfl, rfl⟩ := trodVars_none hV
  have k0 := h0
  have lt0 : ∀ x ∈ p, x.block < W.heap.size := by obtain ⟨m, hm⟩ := k0; exact DataW.trod_lt m _ _ _ hm
  obtain ⟨cs, rfl⟩ := okWide_agg (ts := [67, 71, 50, 50]) (by kernel_rfl) (hval 0 73 v0 rfl rfl)
  clear hA0 hval0
  simp only [List.append_nil] at hW'
  refine (row_struct (P := Try.prog) (f := 10) (t := 73) 8 (by kernel_rfl) (JO.gl hsh) h0 (fun h acs r _ => ?_)).mono fun e W' ⟨he, bel⟩ => ?_
  · obtain ⟨cks, rfl, hr⟩ := r.fields (ts := [67, 71, 50, 50]) (by kernel_rfl)
    match cks, hr with
    | [kA, kB, kC, kD], ⟨rA, rB, rC, rD, _⟩ =>
      obtain ⟨ckA, rfl, hA⟩ := rA.fields (ts := [50, 65, 3, 3, 3]) (by kernel_rfl)
      match ckA, hA with
      | [c0, c1, c2, c3, c4], ⟨r0, r1, r2, r3, r4, _⟩ =>
      obtain ⟨ckB, rfl, hB⟩ := rB.fields (ts := [68, 69, 9]) (by kernel_rfl)
      match ckB, hB with
      | [c5, c6, c7], ⟨r5, r6, r7, _⟩ =>
      obtain ⟨vA, vs, rfl, wA, zA, nA⟩ := Rep_rdv (e := 9) (k := 1) encS (fun x => x.size ≤ maxLen) und50 (by kernel_rfl) (fun c rc => by
        obtain ⟨a, rfl, ha⟩ := rc.ofStr und9
        exact ⟨a, rfl, ha⟩) r0
      obtain ⟨vB, cl, rfl, wB, zB, nB⟩ := Rep_rdv (e := 222) (k := 2) encN (fun x => True) und65 (by kernel_rfl) (fun c rc => by
        obtain ⟨cks, rfl, hr⟩ := rc.fields (ts := [3, 3]) (by kernel_rfl)
        match cks, hr with
        | [d0, d1], ⟨q0, q1, _⟩ =>
          obtain ⟨a, rfl, ha⟩ := q0.ofInt und3
          obtain ⟨b, rfl, hb⟩ := q1.ofInt und3
          exact ⟨⟨a, b⟩, rfl, trivial⟩) r1
      obtain ⟨n1, rfl, h1⟩ := r2.ofInt und3
      obtain ⟨n2, rfl, h2⟩ := r3.ofInt und3
      obtain ⟨n3, rfl, h3⟩ := r4.ofInt und3
      obtain ⟨vC, vars, rfl, wC, zC, nC⟩ := Rep_rdv (e := 216) (k := 2) Var.enc (fun x => x.name.size ≤ maxLen ∧ x.val.size ≤ maxLen) und68 (by kernel_rfl) (fun c rc => by
        obtain ⟨cks, rfl, hr⟩ := rc.fields (ts := [9, 9]) (by kernel_rfl)
        match cks, hr with
        | [d0, d1], ⟨q0, q1, _⟩ =>
          obtain ⟨a, rfl, ha⟩ := q0.ofStr und9
          obtain ⟨b, rfl, hb⟩ := q1.ofStr und9
          exact ⟨⟨a, b⟩, rfl, ha, hb⟩) r5
      obtain ⟨vD, cells, rfl, wD, zD, nD⟩ := Rep_rdv (e := 218) (k := 3) Cell.enc (fun x => x.name.size ≤ maxLen ∧ x.key.size ≤ maxLen ∧ x.val.size ≤ maxLen) und69 (by kernel_rfl) (fun c rc => by
        obtain ⟨cks, rfl, hr⟩ := rc.fields (ts := [9, 9, 9]) (by kernel_rfl)
        match cks, hr with
        | [d0, d1, d2], ⟨q0, q1, q2, _⟩ =>
          obtain ⟨a, rfl, ha⟩ := q0.ofStr und9
          obtain ⟨b, rfl, hb⟩ := q1.ofStr und9
          obtain ⟨c, rfl, hc⟩ := q2.ofStr und9
          exact ⟨⟨a, b, c⟩, rfl, ha, hb, hc⟩) r6
      obtain ⟨s, rfl, hs⟩ := r7.ofStr und9
      obtain ⟨vE, names, rfl, wE, zE, nE⟩ := Rep_rdv (e := 9) (k := 1) encS (fun x => x.size ≤ maxLen) und50 (by kernel_rfl) (fun c rc => by
        obtain ⟨a, rfl, ha⟩ := rc.ofStr und9
        exact ⟨a, rfl, ha⟩) rC
      obtain ⟨vF, lines, rfl, wF, zF, nF⟩ := Rep_rdv (e := 9) (k := 1) encS (fun x => x.size ≤ maxLen) und50 (by kernel_rfl) (fun c rc => by
        obtain ⟨a, rfl, ha⟩ := rc.ofStr und9
        exact ⟨a, rfl, ha⟩) rD
      obtain ⟨C, cC, eC, hC⟩ := rdv_pre wC (fun _ => rfl)
      obtain ⟨D, cD, eD, hD⟩ := rdv_pre wD (fun _ => rfl)
      exact CE.withBig fun big => law_JobOk ⟨⟨vs, cl, n1, n2, n3⟩, ⟨vars, cells, s⟩, names, lines⟩ _ _ _ _ _ _ h ⟨⟨wA, wB⟩, ⟨C, cC, D, cD, eC, eD, fun h2 p => ⟨hC h2 p, hD h2 p⟩⟩, wE, wF⟩ ⟨⟨zA, nA, nB⟩, ⟨zC, zD, hs, nC, nD⟩, zE, zF, nE, nF⟩ big
  · subst he
    exact ⟨_, rfl, _, _, _, [], _, [], hW', trodAll_mk1 (shut_bool und4 _), trodAll_mk1 (Below.trod JO.laidOut (by kernel_rfl) (of_decide_eq_true (by kernel_rfl)) k0 bel lt0), rfl, bel.frame _, fun h => by cases h⟩

theorem fnExactJobOk_holds : Rows.FnExactJobOkSaid :=
  OpenClaim.holds_of_wide 10 Try.f10 rfl rfl rfl rfl rfl rfl rfl ⟨rfl, rfl, rfl, rfl, rfl⟩ rfl rfl rfl rfl rfl (by kernel_rfl) Try.func10 (by kernel_rfl)
    (of_decide_eq_true (by kernel_rfl)) (by unfold Func.isWrapper; first | (rw [if_pos (by decide +kernel)]; kernel_rfl) | (rw [if_neg (by decide +kernel)]; exact ⟨rfl, rfl⟩))
    (fun os started H enc _ => JO.lifted os started H enc)
end Go.Proofs.Ytciajhpeikemoaa
