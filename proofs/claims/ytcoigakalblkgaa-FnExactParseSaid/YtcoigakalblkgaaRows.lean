/-
  No cell of these rows narrows 'for every input' (looked for: loops, veiled, ifaces, maps, wideKeys, modest, calm, conditions, laid).
  DERIVED. THE GIVEN ROWS OF THIS SEAT. 6 by the template 'for every input the law returns true; each argument reads behind the call as it read before'; 0 by the template 'total and deterministic' (their statements: YtcoigakalblkgaaTotals.lean).
  GIVEN WITH THE SEED: the statements are not yours to turn. If you find one false, say at which input.
  Laid BY PROGRAM, IN A SANDBOX (cutbox-rows.mjs): the forced cells as the released guide's own fill.sh prints them over the translation 2574605612cdfa9b… (all of the seat's roots in one cut). By AI agents, Wed Nov 11 2026. No macro, syntax, notation, axiom, sorry.
-/
import Derived.Test.YtcoigakalblkgaaChecked
import GoSem.Claim
import GoSem.ClaimJoined
import GoSem.ClaimMapViews
import Derived.JoinedTies
import Derived.KernelRfl
namespace Go.Proofs.Ytcoigakalblkgaa
/- THE CELL 'sum', in the pinned program and in every row, IS THE sha256 OF THE DUMP (.gsa) THAT YtcoigakalblkgaaProg.lean LOADS. Nothing in Lean hashes anything: it is a label: what it is worth is what the hold of that sum in a sandbox is worth. -/
noncomputable def Try.pinned : Pinned := { name := "ytcoigakalblkgaa", sum := "2574605612cdfa9b48bd1f323c7dc42d4c910b496c384f8c23651df90563049e", checked := Try.checked }
namespace Rows
def none {H : Type} : Left H := { results := [], args := [] }

/-- 'laws.FnExactLink': WHATEVER THE INPUT: true; the input reads as it did. -/
def fnExactLinkSpec : ChangeSpec := { name := "fnExactLink", fn := fun _ => fun
  | [d] => { results := [.lit (.bool true)], args := [d] }
  | _ => none }
def fnExactLinkRow : OpenClaim := { program := "ytcoigakalblkgaa", sum := "2574605612cdfa9b48bd1f323c7dc42d4c910b496c384f8c23651df90563049e", func := "loop.example/g00286/laws.FnExactLink", spec := "fnExactLink", unfollowed := true, recurses := true, apart := false }
def FnExactLinkSaid : Prop := fnExactLinkRow.holds Try.pinned (OpenSpec.ofChange fnExactLinkSpec)

/-- ITS FALSE NEIGHBOUR: 'it returns false'. Refute it at one input. -/
def fnExactLinkWrong : ChangeSpec := { name := "fnExactLink", fn := fun _ => fun
  | [d] => { results := [.lit (.bool false)], args := [d] }
  | _ => none }
def FnExactLinkWrongFalsely : Prop := fnExactLinkRow.holds Try.pinned (OpenSpec.ofChange fnExactLinkWrong)

/-- 'laws.FnExactMachineText': WHATEVER THE INPUT: true; the input reads as it did. -/
def fnExactMachineTextSpec : ChangeSpec := { name := "fnExactMachineText", fn := fun _ => fun
  | [d] => { results := [.lit (.bool true)], args := [d] }
  | _ => none }
def fnExactMachineTextRow : OpenClaim := { program := "ytcoigakalblkgaa", sum := "2574605612cdfa9b48bd1f323c7dc42d4c910b496c384f8c23651df90563049e", func := "loop.example/g00286/laws.FnExactMachineText", spec := "fnExactMachineText", unfollowed := true, recurses := true, apart := false }
def FnExactMachineTextSaid : Prop := fnExactMachineTextRow.holds Try.pinned (OpenSpec.ofChange fnExactMachineTextSpec)

/-- ITS FALSE NEIGHBOUR: 'it returns false'. Refute it at one input. -/
def fnExactMachineTextWrong : ChangeSpec := { name := "fnExactMachineText", fn := fun _ => fun
  | [d] => { results := [.lit (.bool false)], args := [d] }
  | _ => none }
def FnExactMachineTextWrongFalsely : Prop := fnExactMachineTextRow.holds Try.pinned (OpenSpec.ofChange fnExactMachineTextWrong)

/-- 'laws.FnExactBoot': WHATEVER THE INPUT: true; the input reads as it did. -/
def fnExactBootSpec : ChangeSpec := { name := "fnExactBoot", fn := fun _ => fun
  | [d1, d2, d3, d4, d5] => { results := [.lit (.bool true)], args := [d1, d2, d3, d4, d5] }
  | _ => none }
def fnExactBootRow : OpenClaim := { program := "ytcoigakalblkgaa", sum := "2574605612cdfa9b48bd1f323c7dc42d4c910b496c384f8c23651df90563049e", func := "loop.example/g00286/laws.FnExactBoot", spec := "fnExactBoot", unfollowed := true, recurses := true, apart := false }
def FnExactBootSaid : Prop := fnExactBootRow.holds Try.pinned (OpenSpec.ofChange fnExactBootSpec)

/-- ITS FALSE NEIGHBOUR: 'it returns false'. Refute it at one input. -/
def fnExactBootWrong : ChangeSpec := { name := "fnExactBoot", fn := fun _ => fun
  | [d1, d2, d3, d4, d5] => { results := [.lit (.bool false)], args := [d1, d2, d3, d4, d5] }
  | _ => none }
def FnExactBootWrongFalsely : Prop := fnExactBootRow.holds Try.pinned (OpenSpec.ofChange fnExactBootWrong)

/-- 'laws.FnExactWorldText': WHATEVER THE INPUT: true; the input reads as it did. -/
def fnExactWorldTextSpec : ChangeSpec := { name := "fnExactWorldText", fn := fun _ => fun
  | [d] => { results := [.lit (.bool true)], args := [d] }
  | _ => none }
def fnExactWorldTextRow : OpenClaim := { program := "ytcoigakalblkgaa", sum := "2574605612cdfa9b48bd1f323c7dc42d4c910b496c384f8c23651df90563049e", func := "loop.example/g00286/laws.FnExactWorldText", spec := "fnExactWorldText", recurses := true, apart := false }
def FnExactWorldTextSaid : Prop := fnExactWorldTextRow.holds Try.pinned (OpenSpec.ofChange fnExactWorldTextSpec)

/-- ITS FALSE NEIGHBOUR: 'it returns false'. Refute it at one input. -/
def fnExactWorldTextWrong : ChangeSpec := { name := "fnExactWorldText", fn := fun _ => fun
  | [d] => { results := [.lit (.bool false)], args := [d] }
  | _ => none }
def FnExactWorldTextWrongFalsely : Prop := fnExactWorldTextRow.holds Try.pinned (OpenSpec.ofChange fnExactWorldTextWrong)

/-- 'laws.FnExactJoin': WHATEVER THE INPUT: true; the input reads as it did. -/
def fnExactJoinSpec : ChangeSpec := { name := "fnExactJoin", fn := fun _ => fun
  | [d] => { results := [.lit (.bool true)], args := [d] }
  | _ => none }
def fnExactJoinRow : OpenClaim := { program := "ytcoigakalblkgaa", sum := "2574605612cdfa9b48bd1f323c7dc42d4c910b496c384f8c23651df90563049e", func := "loop.example/g00286/laws.FnExactJoin", spec := "fnExactJoin", unfollowed := true, recurses := true, apart := false }
def FnExactJoinSaid : Prop := fnExactJoinRow.holds Try.pinned (OpenSpec.ofChange fnExactJoinSpec)

/-- ITS FALSE NEIGHBOUR: 'it returns false'. Refute it at one input. -/
def fnExactJoinWrong : ChangeSpec := { name := "fnExactJoin", fn := fun _ => fun
  | [d] => { results := [.lit (.bool false)], args := [d] }
  | _ => none }
def FnExactJoinWrongFalsely : Prop := fnExactJoinRow.holds Try.pinned (OpenSpec.ofChange fnExactJoinWrong)

/-- 'laws.FnExactParse': WHATEVER THE INPUT: true; the input reads as it did. -/
def fnExactParseSpec : ChangeSpec := { name := "fnExactParse", fn := fun _ => fun
  | [d] => { results := [.lit (.bool true)], args := [d] }
  | _ => none }
def fnExactParseRow : OpenClaim := { program := "ytcoigakalblkgaa", sum := "2574605612cdfa9b48bd1f323c7dc42d4c910b496c384f8c23651df90563049e", func := "loop.example/g00286/laws.FnExactParse", spec := "fnExactParse", inPlace := ["internal/bytealg.IndexByteString"], unfollowed := true, recurses := true, apart := false }
def FnExactParseSaid : Prop := fnExactParseRow.holds Try.pinned (OpenSpec.ofChange fnExactParseSpec)

/-- ITS FALSE NEIGHBOUR: 'it returns false'. Refute it at one input. -/
def fnExactParseWrong : ChangeSpec := { name := "fnExactParse", fn := fun _ => fun
  | [d] => { results := [.lit (.bool false)], args := [d] }
  | _ => none }
def FnExactParseWrongFalsely : Prop := fnExactParseRow.holds Try.pinned (OpenSpec.ofChange fnExactParseWrong)

/- THE SECOND FORM. 'bulk': how many values and letters a reading holds, each counted each time it is reached (what is shared counts as often as it is met; a slice's spare places count too). A statement '..UptoSaid' is the law's where the arguments, and the package variables that the reading takes, are together of bulk at most 1048576: NARROWER than '..Said'. Prove '..Said' where nothing that the law and all that it calls make is longer than what came in: it says more and counts as full. Else prove '..UptoSaid'. A law counts once. -/
mutual
def uptoBulk {H : Type} : DataW H → Nat
  | .lit (.string bytes) => bytes.length + 1
  | .lit _ => 1
  | .nil => 1
  | .ptr d => uptoBulk d + 1
  | .slice elems spare => uptoBulkAll elems + uptoBulkAll spare + 1
  | .agg parts => uptoBulkAll parts + 1
  | .iface _ d => uptoBulk d + 1
  | .map entries => uptoBulkEntries entries + 1
  | .held _ => 1
def uptoBulkAll {H : Type} : List (DataW H) → Nat
  | [] => 0
  | d :: r => uptoBulk d + uptoBulkAll r
def uptoBulkEntries {H : Type} : List (Lit × DataW H) → Nat
  | [] => 0
  | x :: r => uptoBulkEntry x + uptoBulkEntries r
def uptoBulkEntry {H : Type} : Lit × DataW H → Nat
  | (.string bytes, d) => bytes.length + uptoBulk d + 1
  | (_, d) => uptoBulk d + 1
 end
def uptoSmall : (H : Type) → List (DataW H) → Bool := fun _ ds => decide (uptoBulkAll ds ≤ 1048576)
def OpenSpec.upto (s : _root_.Go.ChangeSpec) : _root_.Go.OpenSpec := { _root_.Go.OpenSpec.ofChange s with cond := some uptoSmall }

/-- 'laws.FnExactLink', WHERE WHAT IT READS IS OF BULK AT MOST 1048576: true; the input reads as it did. -/
def fnExactLinkUptoRow : OpenClaim := { program := "ytcoigakalblkgaa", sum := "2574605612cdfa9b48bd1f323c7dc42d4c910b496c384f8c23651df90563049e", func := "loop.example/g00286/laws.FnExactLink", spec := "fnExactLink", unfollowed := true, recurses := true, apart := false, narrowed := true }
def FnExactLinkUptoSaid : Prop := fnExactLinkUptoRow.holds Try.pinned (OpenSpec.upto fnExactLinkSpec)

/-- 'laws.FnExactMachineText', WHERE WHAT IT READS IS OF BULK AT MOST 1048576: true; the input reads as it did. -/
def fnExactMachineTextUptoRow : OpenClaim := { program := "ytcoigakalblkgaa", sum := "2574605612cdfa9b48bd1f323c7dc42d4c910b496c384f8c23651df90563049e", func := "loop.example/g00286/laws.FnExactMachineText", spec := "fnExactMachineText", unfollowed := true, recurses := true, apart := false, narrowed := true }
def FnExactMachineTextUptoSaid : Prop := fnExactMachineTextUptoRow.holds Try.pinned (OpenSpec.upto fnExactMachineTextSpec)

/-- 'laws.FnExactBoot', WHERE WHAT IT READS IS OF BULK AT MOST 1048576: true; the input reads as it did. -/
def fnExactBootUptoRow : OpenClaim := { program := "ytcoigakalblkgaa", sum := "2574605612cdfa9b48bd1f323c7dc42d4c910b496c384f8c23651df90563049e", func := "loop.example/g00286/laws.FnExactBoot", spec := "fnExactBoot", unfollowed := true, recurses := true, apart := false, narrowed := true }
def FnExactBootUptoSaid : Prop := fnExactBootUptoRow.holds Try.pinned (OpenSpec.upto fnExactBootSpec)

/-- 'laws.FnExactWorldText', WHERE WHAT IT READS IS OF BULK AT MOST 1048576: true; the input reads as it did. -/
def fnExactWorldTextUptoRow : OpenClaim := { program := "ytcoigakalblkgaa", sum := "2574605612cdfa9b48bd1f323c7dc42d4c910b496c384f8c23651df90563049e", func := "loop.example/g00286/laws.FnExactWorldText", spec := "fnExactWorldText", recurses := true, apart := false, narrowed := true }
def FnExactWorldTextUptoSaid : Prop := fnExactWorldTextUptoRow.holds Try.pinned (OpenSpec.upto fnExactWorldTextSpec)

/-- 'laws.FnExactJoin', WHERE WHAT IT READS IS OF BULK AT MOST 1048576: true; the input reads as it did. -/
def fnExactJoinUptoRow : OpenClaim := { program := "ytcoigakalblkgaa", sum := "2574605612cdfa9b48bd1f323c7dc42d4c910b496c384f8c23651df90563049e", func := "loop.example/g00286/laws.FnExactJoin", spec := "fnExactJoin", unfollowed := true, recurses := true, apart := false, narrowed := true }
def FnExactJoinUptoSaid : Prop := fnExactJoinUptoRow.holds Try.pinned (OpenSpec.upto fnExactJoinSpec)

/-- 'laws.FnExactParse', WHERE WHAT IT READS IS OF BULK AT MOST 1048576: true; the input reads as it did. -/
def fnExactParseUptoRow : OpenClaim := { program := "ytcoigakalblkgaa", sum := "2574605612cdfa9b48bd1f323c7dc42d4c910b496c384f8c23651df90563049e", func := "loop.example/g00286/laws.FnExactParse", spec := "fnExactParse", inPlace := ["internal/bytealg.IndexByteString"], unfollowed := true, recurses := true, apart := false, narrowed := true }
def FnExactParseUptoSaid : Prop := fnExactParseUptoRow.holds Try.pinned (OpenSpec.upto fnExactParseSpec)

end Rows
end Go.Proofs.Ytcoigakalblkgaa
