/- The law FnExactMergeDelta holds, as its card ties it: whatever two stores are handed in, the program's MergeDelta answers as the reference's does. Conditions: the five listed tables of Go's library read as listed (the card ties them to the program's text). -/
import Derived.ProofKit
import Derived.OpenShut
import Derived.LaidMore
import Derived.Lay
import Derived.SevenTiedAt
import Derived.Stop.Joined
import Derived.Stop.LaidErr
import Derived.Test.YtcggnolnakgkeaaDoorRows
import Derived.Test.YtcggnolnakgkeaaDoorCards
import Derived.Test.YtcggnolnakgkeaaDoorTie
import Derived.Test.YtcggnolnakgkeaaDoorB6
namespace Go.Proofs.YtcggnolnakgkeaaDoor
open Go.ChangeShapes Go.WideShapes Go.ChangeAt Go.RowKit Go.Sim
set_option linter.unusedVariables false

theorem MD.own : ownKnob Tryd.prog.godebug = none := by kernel_rfl
theorem MD.laidOut : laidOutB Tryd.prog = true := by kernel_rfl
theorem MD.g32 : Tryd.prog.globalNamed "math/bits.deBruijn32tab" = some 4 := by kernel_rfl
theorem MD.g64 : Tryd.prog.globalNamed "math/bits.deBruijn64tab" = some 5 := by kernel_rfl
theorem MD.gPow : Tryd.prog.globalNamed "internal/strconv.uint64pow10" = some 3 := by kernel_rfl
theorem MD.data : (Rows.laid_internal_strconv_uint64pow10 : DataW Unit) = Lib.tabData .u64 Lib.pow10Tab := by kernel_rfl
set_option maxRecDepth 100000 in
/-- What the row's list gives: the table of powers of ten, and that the variables are there. -/
theorem MD.table {W : World} (h : laidMetH Tryd.prog Rows.fnExactMergeDeltaRow.laid W) : Lib.TabIs Tryd.prog W "internal/strconv.uint64pow10" .u64 Lib.pow10Tab ∧ Tryd.prog.globals.size ≤ W.heap.size := by
  rw [MakeChecks.laidMetH_plain _ _ _ (by kernel_rfl)] at h
  have h2 : laidMet Tryd.prog (("math/bits.deBruijn64tab", Rows.laid_math_bits_deBruijn64tab) :: ("internal/strconv.uint64pow10", Rows.laid_internal_strconv_uint64pow10) :: [("unicode/utf8.acceptRanges", Rows.laid_unicode_utf8_acceptRanges), ("unicode/utf8.first", Rows.laid_unicode_utf8_first)]) W := laidMet.tail h
  refine ⟨?_, ?_⟩
  · have h3 := laidMet.tail h2
    rw [MD.data] at h3
    exact Lib.tabIs_of_head MD.gPow (by kernel_rfl) Tryd.underlying122 Tryd.underlying109 (by kernel_rfl) (by kernel_rfl) h3
  · obtain ⟨ps, ⟨g, t, cs, fuel, p, q, hg, _, hv, _, _, _⟩, _⟩ := h2
    obtain rfl := Option.some.inj (MD.g64.symm.trans hg)
    have hs : Tryd.prog.globals.size = 5 + 1 := by kernel_rfl
    rw [hs]
    unfold World.var? at hv
    rw [MD.g64] at hv
    simp only [Option.bind_some] at hv
    split at hv
    · rename_i hh
      exact (Array.getElem?_eq_some_iff.1 hh).1
    · cases hv

set_option maxRecDepth 100000 in
theorem MD.lifted (os : Os) (started : os.Started) (H : Type) (enc : TypeId × Value → H) :
    ReturnsInHanded {} Tryd.checked os 4 .any (fun w args => (Rows.fnExactMergeDeltaSpec.pre enc Tryd.prog Tryd.f4 Rows.fnExactMergeDeltaRow.domain false w args ∧ laidMetH Tryd.prog Rows.fnExactMergeDeltaRow.laid w) ∧ sizedMet enc Tryd.prog Tryd.f4 (OpenSpec.ofChange Rows.fnExactMergeDeltaSpec) false w args)
      (Rows.fnExactMergeDeltaSpec.post enc Tryd.prog Tryd.f4 false true false false) := by
  refine returnsInHanded_of_change_and (C := Tryd.checked) (X := fun w _ => laidMetH Tryd.prog Rows.fnExactMergeDeltaRow.laid w) (fun _ _ _ hh h => h.of_heap hh) MD.own started (by kernel_rfl) Tryd.func4
    (ChangeSpec.witness_shaped (enc := enc) (C := Tryd.checked) (os := os) (X := fun w _ => laidMetH Tryd.prog Rows.fnExactMergeDeltaRow.laid w) false (World.laidAll Tryd.prog os Rows.fnExactMergeDeltaRow.laid) #[.agg #[.slice none 0 0, .slice none 0 0, .string ByteArray.empty], .agg #[.slice none 0 0, .slice none 0 0, .string ByteArray.empty]] 8 (World.laidAll_os _ _ _)
      (World.shaped_of_ZipB (by kernel_rfl) (by kernel_rfl)) (by kernel_rfl) (by kernel_rfl) (by kernel_rfl)
      (by rw [MakeChecks.laidMetH_plain _ _ _ (by kernel_rfl)]; exact laidMet_laidAll _ (by kernel_rfl) (by kernel_rfl))) ?_
  intro W base args ds gs before hval0 hW hcnd _ hL _
  have hval : ∀ (j : Nat) t v, Tryd.f4.params[j]? = some t → args[j]? = some v → Value.okWide Tryd.prog W .any base t v := hval0
  have hW' := hW
  obtain ⟨p, q, hA0, hV, rfl, hfz, hnd⟩ := hW
  have hA : DataW.TrodAll enc Tryd.prog W 0 (fun _ => true) true Tryd.f4.params.toList args.toList ds p := hA0
  rw [Tryd.params4] at hA hval
  obtain ⟨v0, v1, d0, d1, p0, p1, rfl, rfl, rfl, h0, h1⟩ := trodAll_two hA
  obtain ⟨rfl, rfl⟩ := trodVars_none hV
  obtain ⟨hT, hgl⟩ := MD.table hL
  have k0 := h0
  have k1 := h1
  have lt0 : ∀ x ∈ p0, x.block < W.heap.size := by obtain ⟨m, hm⟩ := k0; exact DataW.trod_lt m _ _ _ hm
  have lt1 : ∀ x ∈ p1, x.block < W.heap.size := by obtain ⟨m, hm⟩ := k1; exact DataW.trod_lt m _ _ _ hm
  obtain ⟨cs0, rfl⟩ := okWide_agg (ts := [34, 35, 9]) (by kernel_rfl) (hval 0 37 v0 rfl rfl)
  obtain ⟨cs1, rfl⟩ := okWide_agg (ts := [34, 35, 9]) (by kernel_rfl) (hval 1 37 v1 rfl rfl)
  clear hA0 hval0
  simp only [List.append_nil] at hW'
  have open1 : ∀ (h : AH) (acs : List Value), Rep Tryd.prog h 37 acs → ∃ (s : Store) (A B : Option Addr) (ca cb : Nat), acs.toArray = #[.slice A s.vars.length ca, .slice B s.cells.length cb, .string s.out] ∧ RdS h A B s ∧ SzA s := fun h acs r => by
    obtain ⟨cks, rfl, hr⟩ := r.fields (ts := [34, 35, 9]) (by kernel_rfl)
    match cks, hr with
    | [c0, c1, c2], ⟨r0, r1, r2, _⟩ =>
      obtain ⟨A, ca, vs, rfl, rA, zA, nA⟩ := Rep.list (e := 87) (k := 2) Var.enc (fun x => x.name.size ≤ maxLen ∧ x.val.size ≤ maxLen) und34 (by kernel_rfl) (fun c rc => by
        obtain ⟨cks, rfl, hr⟩ := rc.fields (ts := [9, 9]) (by kernel_rfl)
        match cks, hr with
        | [d0, d1], ⟨q0, q1, _⟩ =>
          obtain ⟨a, rfl, ha⟩ := q0.ofStr und9
          obtain ⟨b, rfl, hb⟩ := q1.ofStr und9
          exact ⟨⟨a, b⟩, rfl, ha, hb⟩) r0
      obtain ⟨B, cb, cl, rfl, rB, zB, nB⟩ := Rep.list (e := 89) (k := 3) Cell.enc (fun x => x.name.size ≤ maxLen ∧ x.key.size ≤ maxLen ∧ x.val.size ≤ maxLen) und35 (by kernel_rfl) (fun c rc => by
        obtain ⟨cks, rfl, hr⟩ := rc.fields (ts := [9, 9, 9]) (by kernel_rfl)
        match cks, hr with
        | [d0, d1, d2], ⟨q0, q1, q2, _⟩ =>
          obtain ⟨a, rfl, ha⟩ := q0.ofStr und9
          obtain ⟨b, rfl, hb⟩ := q1.ofStr und9
          obtain ⟨c, rfl, hc⟩ := q2.ofStr und9
          exact ⟨⟨a, b, c⟩, rfl, ha, hb, hc⟩) r1
      obtain ⟨s, rfl, hs⟩ := r2.ofStr und9
      exact ⟨⟨vs, cl, s⟩, A, B, ca, cb, rfl, ⟨rA, rB⟩, ⟨zA, zB, hs, nA, nB⟩⟩
  refine (row_two_tab (P := Tryd.prog) (f := 4) (t1 := 37) (t2 := 37) 8 (by kernel_rfl) (by kernel_rfl) hgl (of_decide_eq_true (by kernel_rfl)) MD.gPow hT h0 h1 (fun h a1 a2 r1 r2 hn hp hlv => ?_)).mono fun e W' ⟨he, bel⟩ => ?_
  · obtain ⟨s, A, B, ca, cb, e1, rs, zs⟩ := open1 h a1 r1
    obtain ⟨d, C, D, cc, cd, e2, rd, zd⟩ := open1 h a2 r2
    rw [e1, e2]
    have hs : Tryd.prog.globals.size = 5 + 1 := by kernel_rfl
    refine CE.withBig (fun big => law_MergeDelta s d A B C D ca cb cc cd h rs rd zs zd big hlv hp (by omega))
  · subst he
    exact ⟨_, rfl, _, _, _, [], _, [], hW', trodAll_mk1 (shut_bool und4 _), trodAll_cons_mk (Below.trod MD.laidOut (by kernel_rfl) (of_decide_eq_true (by kernel_rfl)) k0 bel lt0) (trodAll_mk1 (Below.trod MD.laidOut (by kernel_rfl) (of_decide_eq_true (by kernel_rfl)) k1 bel lt1)), rfl, bel.frame _, fun h => by cases h⟩

theorem fnExactMergeDelta_said : Rows.FnExactMergeDeltaSaid :=
  OpenClaim.holds_of_wide 4 Tryd.f4 rfl rfl rfl rfl rfl rfl rfl ⟨rfl, rfl, rfl, rfl, rfl⟩ rfl rfl rfl rfl rfl (by kernel_rfl) Tryd.func4 (by kernel_rfl)
    (of_decide_eq_true (by kernel_rfl)) (by unfold Func.isWrapper; first | (rw [if_pos (by decide +kernel)]; kernel_rfl) | (rw [if_neg (by decide +kernel)]; exact ⟨rfl, rfl⟩))
    (fun os started H enc _ => MD.lifted os started H enc)

/-- No parameter wants a stand-in; the program's own looks are off. -/
theorem MD.plain (f : FuncId) (fn : Func) (hf : Tryd.pinned.checked.prog.funcNamed "loop.example/g00237/laws.FnExactMergeDelta" = some f) (hfn : Tryd.pinned.checked.prog.funcs[f]? = some fn) :
    false = Tryd.pinned.checked.prog.looks [] ∧ ∀ (j : Nat) t, fn.params[j]? = some t → Tryd.pinned.checked.prog.wantsStandIn t = false := by
  obtain rfl : f = 4 := Option.some.inj ((show Tryd.prog.funcNamed "loop.example/g00237/laws.FnExactMergeDelta" = some 4 by kernel_rfl).symm.trans hf) |>.symm
  obtain rfl : fn = Tryd.f4 := (Option.some.inj (Tryd.func4.symm.trans hfn)).symm
  refine ⟨by kernel_rfl, fun j t ht => ?_⟩
  rw [Tryd.params4] at ht
  have hm : t ∈ [37] := by
    have := Array.mem_of_getElem? ht
    simpa using this
  obtain rfl : t = 37 := by simpa using hm
  exact (show Tryd.prog.wantsStandIn 37 = false by kernel_rfl)

theorem fnExactMergeDelta_holds : Rows.FnExactMergeDeltaCardSaid :=
  Claim7.holds_tied_plain_at .later [] _ _ _ _ fnExactMergeDelta_said (fun _ h => by cases h) (by kernel_rfl) (fun _ h => by cases h) fnExactMergeDelta_row_tie rfl ⟨rfl, rfl⟩ (by kernel_rfl) rfl MD.plain (by kernel_rfl)
end Go.Proofs.YtcggnolnakgkeaaDoor
