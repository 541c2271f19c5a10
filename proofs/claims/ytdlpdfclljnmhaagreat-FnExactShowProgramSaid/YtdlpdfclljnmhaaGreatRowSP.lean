/- The law FnExactShowProgram holds: whatever program is handed in, the program's ShowProgram answers as the reference's does. Conditions: none. -/
import Derived.Test.YtdlpdfclljnmhaaGreatRows
import Derived.Test.YtdlpdfclljnmhaaGreatB8
namespace Go.Proofs.YtdlpdfclljnmhaaGreat
open Go.ChangeShapes Go.WideShapes Go.ChangeAt Go.RowKit Go.Sim
set_option linter.unusedVariables false

theorem Rep_rdv {P : Go.Program} {h : AH} {α : Type} {t e : TypeId} {k : Nat} {cs : List Value} (enc : α → List Value) (ok : α → Prop) (ht : P.underlying t = some (.slice e)) (hk : P.cellsOf e = k) (dec : ∀ c, Rep P h e c → ∃ x, c = enc x ∧ ok x) (r : Rep P h t cs) :
    ∃ v, ∃ l : List α, cs = [v] ∧ RdV h v k enc l ∧ (∀ x ∈ l, ok x) ∧ l.length ≤ maxLen := by
  cases r with
  | nil _ e' c ht' => exact ⟨_, [], rfl, RdV.nil _ _ _ _, by simp, by simp⟩
  | slice _ e' id n ln chs ht' hid ho hn hm hl hr =>
    rw [ht] at ht'
    simp only [Option.some.injEq, TypeDesc.slice.injEq] at ht'
    subst ht'
    obtain ⟨l, rfl, hok⟩ := lift_map (enc := enc) (ok := ok) chs (fun c hc => by
      obtain ⟨i, hi, rfl⟩ := List.mem_iff_getElem.1 hc
      exact dec _ (hr i hi))
    have hlen : ∀ x ∈ l, (enc x).length = k := fun x hx => by
      obtain ⟨i, hi, rfl⟩ := List.mem_iff_getElem.1 hx
      have := hl i (by simpa using hi)
      simpa [hk] using this
    rw [List.length_map] at hn
    subst hn
    refine ⟨_, l, rfl, .inr ⟨id, 0, _, rfl, ?_, hid⟩, hok, hm⟩
    rw [rd_of ho, rdO_cells, if_pos (by rw [Nat.zero_add, chunk_len hlen]; exact Nat.le_refl _), List.drop_zero, List.take_of_length_le (by rw [chunk_len hlen]; exact Nat.le_refl _)]
  | _ => simp_all
theorem SP.own : ownKnob Tryz.prog.godebug = none := by kernel_rfl
theorem SP.laidOut : laidOutB Tryz.prog = true := by kernel_rfl
theorem SP.gl {W : World} (hsh : W.ShapedOpen Tryz.prog) : Tryz.prog.globals.size ≤ W.heap.size := globals_le hsh (n := 0) (by kernel_rfl) (by kernel_rfl)

set_option maxRecDepth 100000 in
theorem SP.lifted (os : Os) (started : os.Started) (H : Type) (enc : TypeId × Value → H) :
    ReturnsInHanded {} Tryz.checked os 3 .any (Rows.fnExactShowProgramSpec.pre6 enc Tryz.prog Tryz.f3 Rows.fnExactShowProgramRow.domain false) (Rows.fnExactShowProgramSpec.post enc Tryz.prog Tryz.f3 false true false false) := by
  refine returnsInHanded_of_change_shaped (C := Tryz.checked) SP.own started (by kernel_rfl) Tryz.func3
    (ChangeSpec.witness6 (enc := enc) (C := Tryz.checked) false ⟨#[], #[.agg #[.slice none 0 0, .slice none 0 0]], []⟩ 8 (by kernel_rfl) (by kernel_rfl) (by kernel_rfl) (by kernel_rfl)) ?_
  intro W base args ds gs before hval0 hW hcnd _ hsh _
  have hval : ∀ (j : Nat) t v, Tryz.f3.params[j]? = some t → args[j]? = some v → Value.okWide Tryz.prog W .any base t v := hval0
  have hW' := hW
  obtain ⟨p, q, hA0, hV, rfl, hfz, hnd⟩ := hW
  have hA : DataW.TrodAll enc Tryz.prog W 0 (fun _ => true) true Tryz.f3.params.toList args.toList ds p := hA0
  rw [Tryz.params3] at hA hval
  obtain ⟨v0, d0, rfl, rfl, h0⟩ := trodAll_one hA
  obtain ⟨rfl, rfl⟩ := trodVars_none hV
  have k0 := h0
  have lt0 : ∀ x ∈ p, x.block < W.heap.size := by obtain ⟨m, hm⟩ := k0; exact DataW.trod_lt m _ _ _ hm
  obtain ⟨cs, rfl⟩ := okWide_agg (ts := [22, 23]) (by kernel_rfl) (hval 0 25 v0 rfl rfl)
  clear hA0 hval0
  simp only [List.append_nil] at hW'
  refine (row_struct (P := Tryz.prog) (f := 3) (t := 25) 8 (by kernel_rfl) (SP.gl hsh) h0 (fun h acs r _ => ?_)).mono fun e W' ⟨he, bel⟩ => ?_
  · obtain ⟨cks, rfl, hr⟩ := r.fields (ts := [22, 23]) (by kernel_rfl)
    match cks, hr with
    | [c0, c1], ⟨r0, r1, _⟩ =>
      obtain ⟨vN, L, rfl, rN, zN, nN⟩ := Rep_rdv (e := 82) (k := 3) encD (fun x => RdV h x.2 1 encZ x.1.kids ∧ x.1.text.size ≤ maxLen ∧ x.1.kids.length ≤ maxLen) und22 (by kernel_rfl) (fun c rc => by
        obtain ⟨cks, rfl, hr⟩ := rc.fields (ts := [3, 9, 62]) (by kernel_rfl)
        match cks, hr with
        | [d0, d1, d2], ⟨q0, q1, q2, _⟩ =>
          obtain ⟨a, rfl, ha⟩ := q0.ofInt und3
          obtain ⟨b, rfl, hb⟩ := q1.ofStr und9
          obtain ⟨kv, kids, rfl, rk, zk, nk⟩ := Rep_rdv (e := 3) (k := 1) encZ (fun x => True) und62 (by kernel_rfl) (fun c rc => by
            obtain ⟨a, rfl, ha⟩ := rc.ofInt und3
            exact ⟨a, rfl, trivial⟩) q2
          exact ⟨(⟨a, b, kids⟩, kv), rfl, rk, hb, nk⟩) r0
      obtain ⟨vR, R, rfl, rR, zR, nR⟩ := Rep_rdv (e := 88) (k := 3) encU (fun x => True) und23 (by kernel_rfl) (fun c rc => by
        obtain ⟨cks, rfl, hr⟩ := rc.fields (ts := [3, 3, 3]) (by kernel_rfl)
        match cks, hr with
        | [d0, d1, d2], ⟨q0, q1, q2, _⟩ =>
          obtain ⟨a, rfl, ha⟩ := q0.ofInt und3
          obtain ⟨b, rfl, hb⟩ := q1.ofInt und3
          obtain ⟨c, rfl, hc⟩ := q2.ofInt und3
          exact ⟨⟨a, b, c⟩, rfl, trivial⟩) r1
      exact CE.withBig fun big => law_ShowProgram L R _ _ h ⟨rN, fun x hx => (zN x hx).1, rR⟩ (fun x hx => (zN x hx).2) nN nR big
  · subst he
    exact ⟨_, rfl, _, _, _, [], _, [], hW', trodAll_mk1 (shut_bool und4 _), trodAll_mk1 (Below.trod SP.laidOut (by kernel_rfl) (of_decide_eq_true (by kernel_rfl)) k0 bel lt0), rfl, bel.frame _, fun h => by cases h⟩

theorem fnExactShowProgram_holds : Rows.FnExactShowProgramSaid :=
  OpenClaim.holds_of_wide 3 Tryz.f3 rfl rfl rfl rfl rfl rfl rfl ⟨rfl, rfl, rfl, rfl, rfl⟩ rfl rfl rfl rfl rfl (by kernel_rfl) Tryz.func3 (by kernel_rfl)
    (of_decide_eq_true (by kernel_rfl)) (by unfold Func.isWrapper; first | (rw [if_pos (by decide +kernel)]; kernel_rfl) | (rw [if_neg (by decide +kernel)]; exact ⟨rfl, rfl⟩))
    (fun os started H enc _ => SP.lifted os started H enc)
end Go.Proofs.YtdlpdfclljnmhaaGreat
