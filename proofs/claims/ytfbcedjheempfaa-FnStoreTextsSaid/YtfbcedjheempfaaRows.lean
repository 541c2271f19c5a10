/-
  No cell of these rows narrows 'for every input' (looked for: loops, veiled, ifaces, maps, wideKeys, modest, calm, conditions, laid).
  DERIVED. THE GIVEN ROWS OF THIS SEAT. 9 by the template 'for every input the law returns true; each argument reads behind the call as it read before'; 0 by the template 'total and deterministic' (their statements: YtfbcedjheempfaaTotals.lean).
  GIVEN WITH THE SEED: the statements are not yours to turn. If you find one false, say at which input.
  Laid BY PROGRAM, IN A SANDBOX (cutbox-rows.mjs): the forced cells as the released guide's own fill.sh prints them over the translation d35c7eaff3e7543d… (all of the seat's roots in one cut). By AI agents, Wed Nov 11 2026. No macro, syntax, notation, axiom, sorry.
-/
import Derived.Test.YtfbcedjheempfaaChecked
import GoSem.Claim
import GoSem.ClaimJoined
import GoSem.ClaimMapViews
import Derived.JoinedTies
import Derived.KernelRfl
namespace Go.Proofs.Ytfbcedjheempfaa
/- THE CELL 'sum', in the pinned program and in every row, IS THE sha256 OF THE DUMP (.gsa) THAT YtfbcedjheempfaaProg.lean LOADS. Nothing in Lean hashes anything: it is a label: what it is worth is what the hold of that sum in a sandbox is worth. -/
noncomputable def Try.pinned : Pinned := { name := "ytfbcedjheempfaa", sum := "d35c7eaff3e7543d45fd8f99a38bdb7d6b274155f88cbc9f51536209fff35f62", checked := Try.checked }
namespace Rows
def none {H : Type} : Left H := { results := [], args := [] }

/-- 'laws.FnExactMessageOk': WHATEVER THE INPUT: true; the input reads as it did. -/
def fnExactMessageOkSpec : ChangeSpec := { name := "fnExactMessageOk", fn := fun _ => fun
  | [d] => { results := [.lit (.bool true)], args := [d] }
  | _ => none }
def fnExactMessageOkRow : OpenClaim := { program := "ytfbcedjheempfaa", sum := "d35c7eaff3e7543d45fd8f99a38bdb7d6b274155f88cbc9f51536209fff35f62", func := "loop.example/g00237/laws.FnExactMessageOk", spec := "fnExactMessageOk", apart := false }
def FnExactMessageOkSaid : Prop := fnExactMessageOkRow.holds Try.pinned (OpenSpec.ofChange fnExactMessageOkSpec)

/-- ITS FALSE NEIGHBOUR: 'it returns false'. Refute it at one input. -/
def fnExactMessageOkWrong : ChangeSpec := { name := "fnExactMessageOk", fn := fun _ => fun
  | [d] => { results := [.lit (.bool false)], args := [d] }
  | _ => none }
def FnExactMessageOkWrongFalsely : Prop := fnExactMessageOkRow.holds Try.pinned (OpenSpec.ofChange fnExactMessageOkWrong)

/-- 'laws.FnCutLines': WHATEVER THE INPUT: true; the input reads as it did. -/
def fnCutLinesSpec : ChangeSpec := { name := "fnCutLines", fn := fun _ => fun
  | [d] => { results := [.lit (.bool true)], args := [d] }
  | _ => none }
def fnCutLinesRow : OpenClaim := { program := "ytfbcedjheempfaa", sum := "d35c7eaff3e7543d45fd8f99a38bdb7d6b274155f88cbc9f51536209fff35f62", func := "loop.example/g00237/laws.FnCutLines", spec := "fnCutLines", unfollowed := true, recurses := true, apart := false }
def FnCutLinesSaid : Prop := fnCutLinesRow.holds Try.pinned (OpenSpec.ofChange fnCutLinesSpec)

/-- ITS FALSE NEIGHBOUR: 'it returns false'. Refute it at one input. -/
def fnCutLinesWrong : ChangeSpec := { name := "fnCutLines", fn := fun _ => fun
  | [d] => { results := [.lit (.bool false)], args := [d] }
  | _ => none }
def FnCutLinesWrongFalsely : Prop := fnCutLinesRow.holds Try.pinned (OpenSpec.ofChange fnCutLinesWrong)

/-- 'laws.FnExactMessageText': WHATEVER THE INPUT: true; the input reads as it did. -/
def fnExactMessageTextSpec : ChangeSpec := { name := "fnExactMessageText", fn := fun _ => fun
  | [d] => { results := [.lit (.bool true)], args := [d] }
  | _ => none }
def fnExactMessageTextRow : OpenClaim := { program := "ytfbcedjheempfaa", sum := "d35c7eaff3e7543d45fd8f99a38bdb7d6b274155f88cbc9f51536209fff35f62", func := "loop.example/g00237/laws.FnExactMessageText", spec := "fnExactMessageText", apart := false }
def FnExactMessageTextSaid : Prop := fnExactMessageTextRow.holds Try.pinned (OpenSpec.ofChange fnExactMessageTextSpec)

/-- ITS FALSE NEIGHBOUR: 'it returns false'. Refute it at one input. -/
def fnExactMessageTextWrong : ChangeSpec := { name := "fnExactMessageText", fn := fun _ => fun
  | [d] => { results := [.lit (.bool false)], args := [d] }
  | _ => none }
def FnExactMessageTextWrongFalsely : Prop := fnExactMessageTextRow.holds Try.pinned (OpenSpec.ofChange fnExactMessageTextWrong)

/-- 'laws.FnExactCutLines': WHATEVER THE INPUT: true; the input reads as it did. -/
def fnExactCutLinesSpec : ChangeSpec := { name := "fnExactCutLines", fn := fun _ => fun
  | [d1, d2] => { results := [.lit (.bool true)], args := [d1, d2] }
  | _ => none }
def fnExactCutLinesRow : OpenClaim := { program := "ytfbcedjheempfaa", sum := "d35c7eaff3e7543d45fd8f99a38bdb7d6b274155f88cbc9f51536209fff35f62", func := "loop.example/g00237/laws.FnExactCutLines", spec := "fnExactCutLines", unfollowed := true, recurses := true, apart := false }
def FnExactCutLinesSaid : Prop := fnExactCutLinesRow.holds Try.pinned (OpenSpec.ofChange fnExactCutLinesSpec)

/-- ITS FALSE NEIGHBOUR: 'it returns false'. Refute it at one input. -/
def fnExactCutLinesWrong : ChangeSpec := { name := "fnExactCutLines", fn := fun _ => fun
  | [d1, d2] => { results := [.lit (.bool false)], args := [d1, d2] }
  | _ => none }
def FnExactCutLinesWrongFalsely : Prop := fnExactCutLinesRow.holds Try.pinned (OpenSpec.ofChange fnExactCutLinesWrong)

/-- 'laws.FnExactReadMessage': WHATEVER THE INPUT: true; the input reads as it did. -/
def fnExactReadMessageSpec : ChangeSpec := { name := "fnExactReadMessage", fn := fun _ => fun
  | [d] => { results := [.lit (.bool true)], args := [d] }
  | _ => none }
def fnExactReadMessageRow : OpenClaim := { program := "ytfbcedjheempfaa", sum := "d35c7eaff3e7543d45fd8f99a38bdb7d6b274155f88cbc9f51536209fff35f62", func := "loop.example/g00237/laws.FnExactReadMessage", spec := "fnExactReadMessage", apart := false }
def FnExactReadMessageSaid : Prop := fnExactReadMessageRow.holds Try.pinned (OpenSpec.ofChange fnExactReadMessageSpec)

/-- ITS FALSE NEIGHBOUR: 'it returns false'. Refute it at one input. -/
def fnExactReadMessageWrong : ChangeSpec := { name := "fnExactReadMessage", fn := fun _ => fun
  | [d] => { results := [.lit (.bool false)], args := [d] }
  | _ => none }
def FnExactReadMessageWrongFalsely : Prop := fnExactReadMessageRow.holds Try.pinned (OpenSpec.ofChange fnExactReadMessageWrong)

/-- 'laws.FnStoresSame': WHATEVER THE INPUT: true; the input reads as it did. -/
def fnStoresSameSpec : ChangeSpec := { name := "fnStoresSame", fn := fun _ => fun
  | [d] => { results := [.lit (.bool true)], args := [d] }
  | _ => none }
def fnStoresSameRow : OpenClaim := { program := "ytfbcedjheempfaa", sum := "d35c7eaff3e7543d45fd8f99a38bdb7d6b274155f88cbc9f51536209fff35f62", func := "loop.example/g00237/laws.FnStoresSame", spec := "fnStoresSame", inPlace := ["internal/bytealg.abigen_runtime_cmpstring"], apart := false }
def FnStoresSameSaid : Prop := fnStoresSameRow.holds Try.pinned (OpenSpec.ofChange fnStoresSameSpec)

/-- ITS FALSE NEIGHBOUR: 'it returns false'. Refute it at one input. -/
def fnStoresSameWrong : ChangeSpec := { name := "fnStoresSame", fn := fun _ => fun
  | [d] => { results := [.lit (.bool false)], args := [d] }
  | _ => none }
def FnStoresSameWrongFalsely : Prop := fnStoresSameRow.holds Try.pinned (OpenSpec.ofChange fnStoresSameWrong)

/-- 'laws.FnExactStoreText': WHATEVER THE INPUT: true; the input reads as it did. -/
def fnExactStoreTextSpec : ChangeSpec := { name := "fnExactStoreText", fn := fun _ => fun
  | [d] => { results := [.lit (.bool true)], args := [d] }
  | _ => none }
def fnExactStoreTextRow : OpenClaim := { program := "ytfbcedjheempfaa", sum := "d35c7eaff3e7543d45fd8f99a38bdb7d6b274155f88cbc9f51536209fff35f62", func := "loop.example/g00237/laws.FnExactStoreText", spec := "fnExactStoreText", inPlace := ["internal/bytealg.abigen_runtime_cmpstring"], apart := false }
def FnExactStoreTextSaid : Prop := fnExactStoreTextRow.holds Try.pinned (OpenSpec.ofChange fnExactStoreTextSpec)

/-- ITS FALSE NEIGHBOUR: 'it returns false'. Refute it at one input. -/
def fnExactStoreTextWrong : ChangeSpec := { name := "fnExactStoreText", fn := fun _ => fun
  | [d] => { results := [.lit (.bool false)], args := [d] }
  | _ => none }
def FnExactStoreTextWrongFalsely : Prop := fnExactStoreTextRow.holds Try.pinned (OpenSpec.ofChange fnExactStoreTextWrong)

/-- 'laws.FnExactReadStore': WHATEVER THE INPUT: true; the input reads as it did. -/
def fnExactReadStoreSpec : ChangeSpec := { name := "fnExactReadStore", fn := fun _ => fun
  | [d] => { results := [.lit (.bool true)], args := [d] }
  | _ => none }
def fnExactReadStoreRow : OpenClaim := { program := "ytfbcedjheempfaa", sum := "d35c7eaff3e7543d45fd8f99a38bdb7d6b274155f88cbc9f51536209fff35f62", func := "loop.example/g00237/laws.FnExactReadStore", spec := "fnExactReadStore", inPlace := ["internal/bytealg.abigen_runtime_cmpstring"], apart := false }
def FnExactReadStoreSaid : Prop := fnExactReadStoreRow.holds Try.pinned (OpenSpec.ofChange fnExactReadStoreSpec)

/-- ITS FALSE NEIGHBOUR: 'it returns false'. Refute it at one input. -/
def fnExactReadStoreWrong : ChangeSpec := { name := "fnExactReadStore", fn := fun _ => fun
  | [d] => { results := [.lit (.bool false)], args := [d] }
  | _ => none }
def FnExactReadStoreWrongFalsely : Prop := fnExactReadStoreRow.holds Try.pinned (OpenSpec.ofChange fnExactReadStoreWrong)

/-- 'laws.FnStoreTexts': WHATEVER THE INPUT: true; the input reads as it did. -/
def fnStoreTextsSpec : ChangeSpec := { name := "fnStoreTexts", fn := fun _ => fun
  | [d] => { results := [.lit (.bool true)], args := [d] }
  | _ => none }
def fnStoreTextsRow : OpenClaim := { program := "ytfbcedjheempfaa", sum := "d35c7eaff3e7543d45fd8f99a38bdb7d6b274155f88cbc9f51536209fff35f62", func := "loop.example/g00237/laws.FnStoreTexts", spec := "fnStoreTexts", inPlace := ["internal/bytealg.abigen_runtime_cmpstring"], apart := false }
def FnStoreTextsSaid : Prop := fnStoreTextsRow.holds Try.pinned (OpenSpec.ofChange fnStoreTextsSpec)

/-- ITS FALSE NEIGHBOUR: 'it returns false'. Refute it at one input. -/
def fnStoreTextsWrong : ChangeSpec := { name := "fnStoreTexts", fn := fun _ => fun
  | [d] => { results := [.lit (.bool false)], args := [d] }
  | _ => none }
def FnStoreTextsWrongFalsely : Prop := fnStoreTextsRow.holds Try.pinned (OpenSpec.ofChange fnStoreTextsWrong)

/- THE SECOND FORM. 'bulk': how many values and letters a reading holds, each counted each time it is reached (what is shared counts as often as it is met; a slice's spare places count too). A statement '..UptoSaid' is the law's where the arguments, and the package variables that the reading takes, are together of bulk at most 1048576: NARROWER than '..Said'. Prove '..Said' where nothing that the law and all that it calls make is longer than what came in: it says more and counts as full. Else prove '..UptoSaid'. A law counts once. -/
mutual
def uptoBulk {H : Type} : DataW H → Nat
  | .lit (.string bytes) => bytes.length + 1
  | .lit _ => 1
  | .nil => 1
  | .ptr d => uptoBulk d + 1
  | .slice elems spare => uptoBulkAll elems + uptoBulkAll spare + 1
  | .agg parts => uptoBulkAll parts + 1
  | .iface _ d => uptoBulk d + 1
  | .map entries => uptoBulkEntries entries + 1
  | .held _ => 1
def uptoBulkAll {H : Type} : List (DataW H) → Nat
  | [] => 0
  | d :: r => uptoBulk d + uptoBulkAll r
def uptoBulkEntries {H : Type} : List (Lit × DataW H) → Nat
  | [] => 0
  | x :: r => uptoBulkEntry x + uptoBulkEntries r
def uptoBulkEntry {H : Type} : Lit × DataW H → Nat
  | (.string bytes, d) => bytes.length + uptoBulk d + 1
  | (_, d) => uptoBulk d + 1
 end
def uptoSmall : (H : Type) → List (DataW H) → Bool := fun _ ds => decide (uptoBulkAll ds ≤ 1048576)
def OpenSpec.upto (s : _root_.Go.ChangeSpec) : _root_.Go.OpenSpec := { _root_.Go.OpenSpec.ofChange s with cond := some uptoSmall }

/-- 'laws.FnExactMessageOk', WHERE WHAT IT READS IS OF BULK AT MOST 1048576: true; the input reads as it did. -/
def fnExactMessageOkUptoRow : OpenClaim := { program := "ytfbcedjheempfaa", sum := "d35c7eaff3e7543d45fd8f99a38bdb7d6b274155f88cbc9f51536209fff35f62", func := "loop.example/g00237/laws.FnExactMessageOk", spec := "fnExactMessageOk", apart := false, narrowed := true }
def FnExactMessageOkUptoSaid : Prop := fnExactMessageOkUptoRow.holds Try.pinned (OpenSpec.upto fnExactMessageOkSpec)

/-- 'laws.FnCutLines', WHERE WHAT IT READS IS OF BULK AT MOST 1048576: true; the input reads as it did. -/
def fnCutLinesUptoRow : OpenClaim := { program := "ytfbcedjheempfaa", sum := "d35c7eaff3e7543d45fd8f99a38bdb7d6b274155f88cbc9f51536209fff35f62", func := "loop.example/g00237/laws.FnCutLines", spec := "fnCutLines", unfollowed := true, recurses := true, apart := false, narrowed := true }
def FnCutLinesUptoSaid : Prop := fnCutLinesUptoRow.holds Try.pinned (OpenSpec.upto fnCutLinesSpec)

/-- 'laws.FnExactMessageText', WHERE WHAT IT READS IS OF BULK AT MOST 1048576: true; the input reads as it did. -/
def fnExactMessageTextUptoRow : OpenClaim := { program := "ytfbcedjheempfaa", sum := "d35c7eaff3e7543d45fd8f99a38bdb7d6b274155f88cbc9f51536209fff35f62", func := "loop.example/g00237/laws.FnExactMessageText", spec := "fnExactMessageText", apart := false, narrowed := true }
def FnExactMessageTextUptoSaid : Prop := fnExactMessageTextUptoRow.holds Try.pinned (OpenSpec.upto fnExactMessageTextSpec)

/-- 'laws.FnExactCutLines', WHERE WHAT IT READS IS OF BULK AT MOST 1048576: true; the input reads as it did. -/
def fnExactCutLinesUptoRow : OpenClaim := { program := "ytfbcedjheempfaa", sum := "d35c7eaff3e7543d45fd8f99a38bdb7d6b274155f88cbc9f51536209fff35f62", func := "loop.example/g00237/laws.FnExactCutLines", spec := "fnExactCutLines", unfollowed := true, recurses := true, apart := false, narrowed := true }
def FnExactCutLinesUptoSaid : Prop := fnExactCutLinesUptoRow.holds Try.pinned (OpenSpec.upto fnExactCutLinesSpec)

/-- 'laws.FnExactReadMessage', WHERE WHAT IT READS IS OF BULK AT MOST 1048576: true; the input reads as it did. -/
def fnExactReadMessageUptoRow : OpenClaim := { program := "ytfbcedjheempfaa", sum := "d35c7eaff3e7543d45fd8f99a38bdb7d6b274155f88cbc9f51536209fff35f62", func := "loop.example/g00237/laws.FnExactReadMessage", spec := "fnExactReadMessage", apart := false, narrowed := true }
def FnExactReadMessageUptoSaid : Prop := fnExactReadMessageUptoRow.holds Try.pinned (OpenSpec.upto fnExactReadMessageSpec)

/-- 'laws.FnStoresSame', WHERE WHAT IT READS IS OF BULK AT MOST 1048576: true; the input reads as it did. -/
def fnStoresSameUptoRow : OpenClaim := { program := "ytfbcedjheempfaa", sum := "d35c7eaff3e7543d45fd8f99a38bdb7d6b274155f88cbc9f51536209fff35f62", func := "loop.example/g00237/laws.FnStoresSame", spec := "fnStoresSame", inPlace := ["internal/bytealg.abigen_runtime_cmpstring"], apart := false, narrowed := true }
def FnStoresSameUptoSaid : Prop := fnStoresSameUptoRow.holds Try.pinned (OpenSpec.upto fnStoresSameSpec)

/-- 'laws.FnExactStoreText', WHERE WHAT IT READS IS OF BULK AT MOST 1048576: true; the input reads as it did. -/
def fnExactStoreTextUptoRow : OpenClaim := { program := "ytfbcedjheempfaa", sum := "d35c7eaff3e7543d45fd8f99a38bdb7d6b274155f88cbc9f51536209fff35f62", func := "loop.example/g00237/laws.FnExactStoreText", spec := "fnExactStoreText", inPlace := ["internal/bytealg.abigen_runtime_cmpstring"], apart := false, narrowed := true }
def FnExactStoreTextUptoSaid : Prop := fnExactStoreTextUptoRow.holds Try.pinned (OpenSpec.upto fnExactStoreTextSpec)

/-- 'laws.FnExactReadStore', WHERE WHAT IT READS IS OF BULK AT MOST 1048576: true; the input reads as it did. -/
def fnExactReadStoreUptoRow : OpenClaim := { program := "ytfbcedjheempfaa", sum := "d35c7eaff3e7543d45fd8f99a38bdb7d6b274155f88cbc9f51536209fff35f62", func := "loop.example/g00237/laws.FnExactReadStore", spec := "fnExactReadStore", inPlace := ["internal/bytealg.abigen_runtime_cmpstring"], apart := false, narrowed := true }
def FnExactReadStoreUptoSaid : Prop := fnExactReadStoreUptoRow.holds Try.pinned (OpenSpec.upto fnExactReadStoreSpec)

/-- 'laws.FnStoreTexts', WHERE WHAT IT READS IS OF BULK AT MOST 1048576: true; the input reads as it did. -/
def fnStoreTextsUptoRow : OpenClaim := { program := "ytfbcedjheempfaa", sum := "d35c7eaff3e7543d45fd8f99a38bdb7d6b274155f88cbc9f51536209fff35f62", func := "loop.example/g00237/laws.FnStoreTexts", spec := "fnStoreTexts", inPlace := ["internal/bytealg.abigen_runtime_cmpstring"], apart := false, narrowed := true }
def FnStoreTextsUptoSaid : Prop := fnStoreTextsUptoRow.holds Try.pinned (OpenSpec.upto fnStoreTextsSpec)

end Rows
end Go.Proofs.Ytfbcedjheempfaa
