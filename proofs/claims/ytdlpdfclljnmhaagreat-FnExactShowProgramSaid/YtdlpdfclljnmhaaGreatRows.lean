/-
  No cell of these rows narrows 'for every input' (looked for: loops, veiled, ifaces, maps, wideKeys, modest, calm, conditions, laid).
  DERIVED. THE GIVEN ROWS OF THIS SEAT. 4 by the template 'for every input the law returns true; each argument reads behind the call as it read before'; 0 by the template 'total and deterministic' (their statements: YtdlpdfclljnmhaaGreatTotals.lean).
  GIVEN WITH THE SEED: the statements are not yours to turn. If you find one false, say at which input.
  Laid BY PROGRAM, IN A SANDBOX (cutbox-rows.mjs): the forced cells as the released guide's own fill.sh prints them over the translation afbd24c23bc76583… (all of the seat's roots in one cut). By AI agents, Wed Nov 11 2026. No macro, syntax, notation, axiom, sorry.
-/
import Derived.Test.YtdlpdfclljnmhaaGreatChecked
import GoSem.Claim
import GoSem.ClaimJoined
import GoSem.ClaimMapViews
import Derived.JoinedTies
import Derived.KernelRfl
namespace Go.Proofs.YtdlpdfclljnmhaaGreat
/- THE CELL 'sum', in the pinned program and in every row, IS THE sha256 OF THE DUMP (.gsa) THAT YtdlpdfclljnmhaaGreatProg.lean LOADS. Nothing in Lean hashes anything: it is a label: what it is worth is what the hold of that sum in a sandbox is worth. -/
noncomputable def Tryz.pinned : Pinned := { name := "ytdlpdfclljnmhaagreat", sum := "afbd24c23bc7658316da2480b089984dc53994facface3593ef2343e8a1e3c6a", checked := Tryz.checked }
namespace Rows
def none {H : Type} : Left H := { results := [], args := [] }

/-- 'laws.FnExactShowProgram': WHATEVER THE INPUT: true; the input reads as it did. -/
def fnExactShowProgramSpec : ChangeSpec := { name := "fnExactShowProgram", fn := fun _ => fun
  | [d] => { results := [.lit (.bool true)], args := [d] }
  | _ => none }
def fnExactShowProgramRow : OpenClaim := { program := "ytdlpdfclljnmhaagreat", sum := "afbd24c23bc7658316da2480b089984dc53994facface3593ef2343e8a1e3c6a", func := "loop.example/g00237/laws.FnExactShowProgram", spec := "fnExactShowProgram", inPlace := ["internal/bytealg.IndexByteString", "internal/bytealg.IndexString", "internal/abi.NoEscape", "internal/bytealg.MakeNoZero"], recurses := true, named := ["internal/bytealg.MaxLen"], apart := false }
def FnExactShowProgramSaid : Prop := fnExactShowProgramRow.holds Tryz.pinned (OpenSpec.ofChange fnExactShowProgramSpec)

/-- ITS FALSE NEIGHBOUR: 'it returns false'. Refute it at one input. -/
def fnExactShowProgramWrong : ChangeSpec := { name := "fnExactShowProgram", fn := fun _ => fun
  | [d] => { results := [.lit (.bool false)], args := [d] }
  | _ => none }
def FnExactShowProgramWrongFalsely : Prop := fnExactShowProgramRow.holds Tryz.pinned (OpenSpec.ofChange fnExactShowProgramWrong)

/-- 'laws.FnExactMergeable': WHATEVER THE INPUT: true; the input reads as it did. -/
def fnExactMergeableSpec : ChangeSpec := { name := "fnExactMergeable", fn := fun _ => fun
  | [d] => { results := [.lit (.bool true)], args := [d] }
  | _ => none }
def fnExactMergeableRow : OpenClaim := { program := "ytdlpdfclljnmhaagreat", sum := "afbd24c23bc7658316da2480b089984dc53994facface3593ef2343e8a1e3c6a", func := "loop.example/g00237/laws.FnExactMergeable", spec := "fnExactMergeable", inPlace := ["internal/bytealg.IndexByteString", "internal/bytealg.IndexString"], recurses := true, named := ["internal/bytealg.MaxLen"], apart := false }
def FnExactMergeableSaid : Prop := fnExactMergeableRow.holds Tryz.pinned (OpenSpec.ofChange fnExactMergeableSpec)

/-- ITS FALSE NEIGHBOUR: 'it returns false'. Refute it at one input. -/
def fnExactMergeableWrong : ChangeSpec := { name := "fnExactMergeable", fn := fun _ => fun
  | [d] => { results := [.lit (.bool false)], args := [d] }
  | _ => none }
def FnExactMergeableWrongFalsely : Prop := fnExactMergeableRow.holds Tryz.pinned (OpenSpec.ofChange fnExactMergeableWrong)

/-- 'laws.FnExactNames': WHATEVER THE INPUT: true; the input reads as it did. -/
def fnExactNamesSpec : ChangeSpec := { name := "fnExactNames", fn := fun _ => fun
  | [d] => { results := [.lit (.bool true)], args := [d] }
  | _ => none }
def fnExactNamesRow : OpenClaim := { program := "ytdlpdfclljnmhaagreat", sum := "afbd24c23bc7658316da2480b089984dc53994facface3593ef2343e8a1e3c6a", func := "loop.example/g00237/laws.FnExactNames", spec := "fnExactNames", inPlace := ["internal/bytealg.IndexByteString", "internal/bytealg.IndexString"], recurses := true, named := ["internal/bytealg.MaxLen"], apart := false }
def FnExactNamesSaid : Prop := fnExactNamesRow.holds Tryz.pinned (OpenSpec.ofChange fnExactNamesSpec)

/-- ITS FALSE NEIGHBOUR: 'it returns false'. Refute it at one input. -/
def fnExactNamesWrong : ChangeSpec := { name := "fnExactNames", fn := fun _ => fun
  | [d] => { results := [.lit (.bool false)], args := [d] }
  | _ => none }
def FnExactNamesWrongFalsely : Prop := fnExactNamesRow.holds Tryz.pinned (OpenSpec.ofChange fnExactNamesWrong)

/-- 'laws.FnExactCompile': WHATEVER THE INPUT: true; the input reads as it did. -/
def fnExactCompileSpec : ChangeSpec := { name := "fnExactCompile", fn := fun _ => fun
  | [d] => { results := [.lit (.bool true)], args := [d] }
  | _ => none }
def fnExactCompileRow : OpenClaim := { program := "ytdlpdfclljnmhaagreat", sum := "afbd24c23bc7658316da2480b089984dc53994facface3593ef2343e8a1e3c6a", func := "loop.example/g00237/laws.FnExactCompile", spec := "fnExactCompile", inPlace := ["internal/bytealg.IndexByteString", "internal/bytealg.IndexString"], unfollowed := true, recurses := true, named := ["internal/bytealg.MaxLen"], apart := false }
def FnExactCompileSaid : Prop := fnExactCompileRow.holds Tryz.pinned (OpenSpec.ofChange fnExactCompileSpec)

/-- ITS FALSE NEIGHBOUR: 'it returns false'. Refute it at one input. -/
def fnExactCompileWrong : ChangeSpec := { name := "fnExactCompile", fn := fun _ => fun
  | [d] => { results := [.lit (.bool false)], args := [d] }
  | _ => none }
def FnExactCompileWrongFalsely : Prop := fnExactCompileRow.holds Tryz.pinned (OpenSpec.ofChange fnExactCompileWrong)

/- THE SECOND FORM. 'bulk': how many values and letters a reading holds, each counted each time it is reached (what is shared counts as often as it is met; a slice's spare places count too). A statement '..UptoSaid' is the law's where the arguments, and the package variables that the reading takes, are together of bulk at most 1048576: NARROWER than '..Said'. Prove '..Said' where nothing that the law and all that it calls make is longer than what came in: it says more and counts as full. Else prove '..UptoSaid'. A law counts once. -/
mutual
def uptoBulk {H : Type} : DataW H → Nat
  | .lit (.string bytes) => bytes.length + 1
  | .lit _ => 1
  | .nil => 1
  | .ptr d => uptoBulk d + 1
  | .slice elems spare => uptoBulkAll elems + uptoBulkAll spare + 1
  | .agg parts => uptoBulkAll parts + 1
  | .iface _ d => uptoBulk d + 1
  | .map entries => uptoBulkEntries entries + 1
  | .held _ => 1
def uptoBulkAll {H : Type} : List (DataW H) → Nat
  | [] => 0
  | d :: r => uptoBulk d + uptoBulkAll r
def uptoBulkEntries {H : Type} : List (Lit × DataW H) → Nat
  | [] => 0
  | x :: r => uptoBulkEntry x + uptoBulkEntries r
def uptoBulkEntry {H : Type} : Lit × DataW H → Nat
  | (.string bytes, d) => bytes.length + uptoBulk d + 1
  | (_, d) => uptoBulk d + 1
 end
def uptoSmall : (H : Type) → List (DataW H) → Bool := fun _ ds => decide (uptoBulkAll ds ≤ 1048576)
def OpenSpec.upto (s : _root_.Go.ChangeSpec) : _root_.Go.OpenSpec := { _root_.Go.OpenSpec.ofChange s with cond := some uptoSmall }

/-- 'laws.FnExactShowProgram', WHERE WHAT IT READS IS OF BULK AT MOST 1048576: true; the input reads as it did. -/
def fnExactShowProgramUptoRow : OpenClaim := { program := "ytdlpdfclljnmhaagreat", sum := "afbd24c23bc7658316da2480b089984dc53994facface3593ef2343e8a1e3c6a", func := "loop.example/g00237/laws.FnExactShowProgram", spec := "fnExactShowProgram", inPlace := ["internal/bytealg.IndexByteString", "internal/bytealg.IndexString", "internal/abi.NoEscape", "internal/bytealg.MakeNoZero"], recurses := true, named := ["internal/bytealg.MaxLen"], apart := false, narrowed := true }
def FnExactShowProgramUptoSaid : Prop := fnExactShowProgramUptoRow.holds Tryz.pinned (OpenSpec.upto fnExactShowProgramSpec)

/-- 'laws.FnExactMergeable', WHERE WHAT IT READS IS OF BULK AT MOST 1048576: true; the input reads as it did. -/
def fnExactMergeableUptoRow : OpenClaim := { program := "ytdlpdfclljnmhaagreat", sum := "afbd24c23bc7658316da2480b089984dc53994facface3593ef2343e8a1e3c6a", func := "loop.example/g00237/laws.FnExactMergeable", spec := "fnExactMergeable", inPlace := ["internal/bytealg.IndexByteString", "internal/bytealg.IndexString"], recurses := true, named := ["internal/bytealg.MaxLen"], apart := false, narrowed := true }
def FnExactMergeableUptoSaid : Prop := fnExactMergeableUptoRow.holds Tryz.pinned (OpenSpec.upto fnExactMergeableSpec)

/-- 'laws.FnExactNames', WHERE WHAT IT READS IS OF BULK AT MOST 1048576: true; the input reads as it did. -/
def fnExactNamesUptoRow : OpenClaim := { program := "ytdlpdfclljnmhaagreat", sum := "afbd24c23bc7658316da2480b089984dc53994facface3593ef2343e8a1e3c6a", func := "loop.example/g00237/laws.FnExactNames", spec := "fnExactNames", inPlace := ["internal/bytealg.IndexByteString", "internal/bytealg.IndexString"], recurses := true, named := ["internal/bytealg.MaxLen"], apart := false, narrowed := true }
def FnExactNamesUptoSaid : Prop := fnExactNamesUptoRow.holds Tryz.pinned (OpenSpec.upto fnExactNamesSpec)

/-- 'laws.FnExactCompile', WHERE WHAT IT READS IS OF BULK AT MOST 1048576: true; the input reads as it did. -/
def fnExactCompileUptoRow : OpenClaim := { program := "ytdlpdfclljnmhaagreat", sum := "afbd24c23bc7658316da2480b089984dc53994facface3593ef2343e8a1e3c6a", func := "loop.example/g00237/laws.FnExactCompile", spec := "fnExactCompile", inPlace := ["internal/bytealg.IndexByteString", "internal/bytealg.IndexString"], unfollowed := true, recurses := true, named := ["internal/bytealg.MaxLen"], apart := false, narrowed := true }
def FnExactCompileUptoSaid : Prop := fnExactCompileUptoRow.holds Tryz.pinned (OpenSpec.upto fnExactCompileSpec)

end Rows
end Go.Proofs.YtdlpdfclljnmhaaGreat
