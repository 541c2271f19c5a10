/-
  DERIVED. GIVEN WITH THE SEED: THE CARDS: each row of YtcggnolnakgkeaaDoorRows.lean that lists a variable, with what it lists TIED to the program's text (the seventh form; the later family's looks); each row that meets fmt, with fmt's text TOLD by the authors' own Lean function (tested against real Go, not proved from fmt's source: count such statements apart). THE CARD IS WHAT COUNTS. Prove the row's statement (the work); the ties are given (YtcggnolnakgkeaaDoorTie.lean); close each card by the builder's one call (the guide's Derived/Test/ToyasCard.lean, 'card_holds'). Laid BY PROGRAM, IN A SANDBOX (cutbox-door.mjs). By AI agents, Wed Nov 11 2026. No macro, syntax, notation, axiom, sorry.
-/
import Derived.Test.YtcggnolnakgkeaaDoorRows
import GoSem.ClaimSeven
namespace Go.Proofs.YtcggnolnakgkeaaDoor
namespace Rows

/-- THE TIED CARD OF 'laws.FnMerges'. -/
def fnMergesCard : Claim7 := { stood := { row := fnMergesRow, standIns := [], harness := (true, "f0d00e99dddecec5ee0a7141b9b51671e0b53fb40b0f97e52628f2a9748258ff"), looks := false }, kinds := [], alts := [], laidByText := true, laidKinds := [.data, .data, .data, .data, .pinned], laidTests := true, laidLooks := .later }
def FnMergesCardSaid : Prop := Claim7.holds Tryd.pinned (.plain (OpenSpec.ofChange fnMergesSpec)) fnMergesCard

/-- THE TIED CARD OF 'laws.FnExactMergeDelta'. -/
def fnExactMergeDeltaCard : Claim7 := { stood := { row := fnExactMergeDeltaRow, standIns := [], harness := (true, "f0d00e99dddecec5ee0a7141b9b51671e0b53fb40b0f97e52628f2a9748258ff"), looks := false }, kinds := [], alts := [], laidByText := true, laidKinds := [.data, .data, .data, .data, .pinned], laidTests := true, laidLooks := .later }
def FnExactMergeDeltaCardSaid : Prop := Claim7.holds Tryd.pinned (.plain (OpenSpec.ofChange fnExactMergeDeltaSpec)) fnExactMergeDeltaCard

/-- THE SECOND FORM's CARD OF 'laws.FnMerges'. -/
def fnMergesUptoCard : Claim7 := { stood := { row := fnMergesUptoRow, standIns := [], harness := (true, "f0d00e99dddecec5ee0a7141b9b51671e0b53fb40b0f97e52628f2a9748258ff"), looks := false }, kinds := [], alts := [], laidByText := true, laidKinds := [.data, .data, .data, .data, .pinned], laidTests := true, laidLooks := .later }
def FnMergesUptoCardSaid : Prop := Claim7.holds Tryd.pinned (.plain (OpenSpec.upto fnMergesSpec)) fnMergesUptoCard

/-- THE SECOND FORM's CARD OF 'laws.FnExactMergeDelta'. -/
def fnExactMergeDeltaUptoCard : Claim7 := { stood := { row := fnExactMergeDeltaUptoRow, standIns := [], harness := (true, "f0d00e99dddecec5ee0a7141b9b51671e0b53fb40b0f97e52628f2a9748258ff"), looks := false }, kinds := [], alts := [], laidByText := true, laidKinds := [.data, .data, .data, .data, .pinned], laidTests := true, laidLooks := .later }
def FnExactMergeDeltaUptoCardSaid : Prop := Claim7.holds Tryd.pinned (.plain (OpenSpec.upto fnExactMergeDeltaSpec)) fnExactMergeDeltaUptoCard
end Rows
end Go.Proofs.YtcggnolnakgkeaaDoor
