/- The law FnMerges holds, as its card ties it: for all bytes it answers yes. Conditions: the five listed tables of Go's library read as listed (the card ties them to the program's text). -/
import Derived.ProofKit
import Derived.OpenShut
import Derived.LaidMore
import Derived.Lay
import Derived.SevenTiedAt
import Derived.Stop.Joined
import Derived.Stop.LaidErr
import Derived.Test.YtcggnolnakgkeaaDoorRows
import Derived.Test.YtcggnolnakgkeaaDoorCards
import Derived.Test.YtcggnolnakgkeaaDoorTie
import Derived.Test.YtcggnolnakgkeaaDoorB7
namespace Go.Proofs.YtcggnolnakgkeaaDoor
open Go.ChangeShapes Go.WideShapes Go.ChangeAt Go.RowKit Go.Sim
set_option linter.unusedVariables false

theorem MR.own : ownKnob Tryd.prog.godebug = none := by kernel_rfl
theorem MR.laidOut : laidOutB Tryd.prog = true := by kernel_rfl
theorem MR.g32 : Tryd.prog.globalNamed "math/bits.deBruijn32tab" = some 4 := by kernel_rfl
theorem MR.g64 : Tryd.prog.globalNamed "math/bits.deBruijn64tab" = some 5 := by kernel_rfl
theorem MR.gPow : Tryd.prog.globalNamed "internal/strconv.uint64pow10" = some 3 := by kernel_rfl
theorem MR.data : (Rows.laid_internal_strconv_uint64pow10 : DataW Unit) = Lib.tabData .u64 Lib.pow10Tab := by kernel_rfl
set_option maxRecDepth 100000 in
/-- What the row's list gives: the table of powers of ten, and that the variables are there. -/
theorem MR.table {W : World} (h : laidMetH Tryd.prog Rows.fnMergesRow.laid W) : Lib.TabIs Tryd.prog W "internal/strconv.uint64pow10" .u64 Lib.pow10Tab ∧ Tryd.prog.globals.size ≤ W.heap.size := by
  rw [MakeChecks.laidMetH_plain _ _ _ (by kernel_rfl)] at h
  have h2 : laidMet Tryd.prog (("math/bits.deBruijn64tab", Rows.laid_math_bits_deBruijn64tab) :: ("internal/strconv.uint64pow10", Rows.laid_internal_strconv_uint64pow10) :: [("unicode/utf8.acceptRanges", Rows.laid_unicode_utf8_acceptRanges), ("unicode/utf8.first", Rows.laid_unicode_utf8_first)]) W := laidMet.tail h
  refine ⟨?_, ?_⟩
  · have h3 := laidMet.tail h2
    rw [MR.data] at h3
    exact Lib.tabIs_of_head MR.gPow (by kernel_rfl) Tryd.underlying122 Tryd.underlying109 (by kernel_rfl) (by kernel_rfl) h3
  · obtain ⟨ps, ⟨g, t, cs, fuel, p, q, hg, _, hv, _, _, _⟩, _⟩ := h2
    obtain rfl := Option.some.inj (MR.g64.symm.trans hg)
    have hs : Tryd.prog.globals.size = 5 + 1 := by kernel_rfl
    rw [hs]
    unfold World.var? at hv
    rw [MR.g64] at hv
    simp only [Option.bind_some] at hv
    split at hv
    · rename_i hh
      exact (Array.getElem?_eq_some_iff.1 hh).1
    · cases hv

set_option maxRecDepth 100000 in
theorem MR.lifted (os : Os) (started : os.Started) (H : Type) (enc : TypeId × Value → H) :
    ReturnsInHanded {} Tryd.checked os 3 .any (fun w args => (Rows.fnMergesSpec.pre enc Tryd.prog Tryd.f3 Rows.fnMergesRow.domain false w args ∧ laidMetH Tryd.prog Rows.fnMergesRow.laid w) ∧ sizedMet enc Tryd.prog Tryd.f3 (OpenSpec.ofChange Rows.fnMergesSpec) false w args)
      (Rows.fnMergesSpec.post enc Tryd.prog Tryd.f3 false true false false) := by
  refine returnsInHanded_of_change_and (C := Tryd.checked) (X := fun w _ => laidMetH Tryd.prog Rows.fnMergesRow.laid w) (fun _ _ _ hh h => h.of_heap hh) MR.own started (by kernel_rfl) Tryd.func3
    (ChangeSpec.witness_shaped (enc := enc) (C := Tryd.checked) (os := os) (X := fun w _ => laidMetH Tryd.prog Rows.fnMergesRow.laid w) false (World.laidAll Tryd.prog os Rows.fnMergesRow.laid) #[.slice none 0 0] 8 (World.laidAll_os _ _ _)
      (World.shaped_of_ZipB (by kernel_rfl) (by kernel_rfl)) (by kernel_rfl) (by kernel_rfl) (by kernel_rfl)
      (by rw [MakeChecks.laidMetH_plain _ _ _ (by kernel_rfl)]; exact laidMet_laidAll _ (by kernel_rfl) (by kernel_rfl))) ?_
  intro W base args ds gs before hval0 hW hcnd _ hL _
  have hval : ∀ (j : Nat) t v, Tryd.f3.params[j]? = some t → args[j]? = some v → Value.okWide Tryd.prog W .any base t v := hval0
  have hW' := hW
  obtain ⟨p, q, hA0, hV, rfl, hfz, hnd⟩ := hW
  have hA : DataW.TrodAll enc Tryd.prog W 0 (fun _ => true) true Tryd.f3.params.toList args.toList ds p := hA0
  rw [Tryd.params3] at hA hval
  obtain ⟨v0, d0, rfl, rfl, h0⟩ := trodAll_one hA
  obtain ⟨rfl, rfl⟩ := trodVars_none hV
  obtain ⟨hT, hgl⟩ := MR.table hL
  have k0 := h0
  have lt0 : ∀ x ∈ p, x.block < W.heap.size := by obtain ⟨m, hm⟩ := k0; exact DataW.trod_lt m _ _ _ hm
  obtain ⟨a0, l0, c0, rfl⟩ := okWide_slice und22 (hval 0 22 v0 rfl rfl)
  clear hA0 hval0
  simp only [List.append_nil] at hW'
  refine (row_cell_tab (P := Tryd.prog) (f := 3) (t := 22) 8 (by kernel_rfl) hgl rfl (of_decide_eq_true (by kernel_rfl)) MR.gPow hT h0 (fun h av r hn hp => ?_)).mono fun e W' ⟨he, bel⟩ => ?_
  · obtain ⟨A, c, l, e, hR, hok, hlen⟩ := Rep.list (e := 5) (k := 1) byV (fun n : Nat => n < 256) und22 (by kernel_rfl) (fun c rc => by
      obtain ⟨n, rfl, hw⟩ := rc.ofInt und5
      have hb := byte_wf hw
      exact ⟨n.toNat, by rw [byV, Int.toNat_of_nonneg hb.1], by omega⟩) r
    simp only [List.cons.injEq, and_true] at e
    subst e
    have hs : Tryd.prog.globals.size = 5 + 1 := by kernel_rfl
    exact law_Merges A c l h hR hok hlen hp (by omega)
  · subst he
    exact ⟨_, rfl, _, _, _, [], _, [], hW', trodAll_mk1 (shut_bool und4 _), trodAll_mk1 (Below.trod MR.laidOut (by kernel_rfl) (of_decide_eq_true (by kernel_rfl)) k0 bel lt0), rfl, bel.frame _, fun h => by cases h⟩

theorem fnMerges_said : Rows.FnMergesSaid :=
  OpenClaim.holds_of_wide 3 Tryd.f3 rfl rfl rfl rfl rfl rfl rfl ⟨rfl, rfl, rfl, rfl, rfl⟩ rfl rfl rfl rfl rfl (by kernel_rfl) Tryd.func3 (by kernel_rfl)
    (of_decide_eq_true (by kernel_rfl)) (by unfold Func.isWrapper; first | (rw [if_pos (by decide +kernel)]; kernel_rfl) | (rw [if_neg (by decide +kernel)]; exact ⟨rfl, rfl⟩))
    (fun os started H enc _ => MR.lifted os started H enc)

/-- No parameter wants a stand-in; the program's own looks are off. -/
theorem MR.plain (f : FuncId) (fn : Func) (hf : Tryd.pinned.checked.prog.funcNamed "loop.example/g00237/laws.FnMerges" = some f) (hfn : Tryd.pinned.checked.prog.funcs[f]? = some fn) :
    false = Tryd.pinned.checked.prog.looks [] ∧ ∀ (j : Nat) t, fn.params[j]? = some t → Tryd.pinned.checked.prog.wantsStandIn t = false := by
  obtain rfl : f = 3 := Option.some.inj ((show Tryd.prog.funcNamed "loop.example/g00237/laws.FnMerges" = some 3 by kernel_rfl).symm.trans hf) |>.symm
  obtain rfl : fn = Tryd.f3 := (Option.some.inj (Tryd.func3.symm.trans hfn)).symm
  refine ⟨by kernel_rfl, fun j t ht => ?_⟩
  rw [Tryd.params3] at ht
  have hm : t ∈ [22] := by
    have := Array.mem_of_getElem? ht
    simpa using this
  obtain rfl : t = 22 := by simpa using hm
  exact (show Tryd.prog.wantsStandIn 22 = false by kernel_rfl)

theorem fnMerges_holds : Rows.FnMergesCardSaid :=
  Claim7.holds_tied_plain_at .later [] _ _ _ _ fnMerges_said (fun _ h => by cases h) (by kernel_rfl) (fun _ h => by cases h) fnMerges_row_tie rfl ⟨rfl, rfl⟩ (by kernel_rfl) rfl MR.plain (by kernel_rfl)
end Go.Proofs.YtcggnolnakgkeaaDoor
