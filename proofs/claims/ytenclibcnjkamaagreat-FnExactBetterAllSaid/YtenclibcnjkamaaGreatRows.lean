/-
  No cell of these rows narrows 'for every input' (looked for: loops, veiled, ifaces, maps, wideKeys, modest, calm, conditions, laid).
  DERIVED. THE GIVEN ROWS OF THIS SEAT. 5 by the template 'for every input the law returns true; each argument reads behind the call as it read before'; 0 by the template 'total and deterministic' (their statements: YtenclibcnjkamaaGreatTotals.lean).
  GIVEN WITH THE SEED: the statements are not yours to turn. If you find one false, say at which input.
  Laid BY PROGRAM, IN A SANDBOX (cutbox-rows.mjs): the forced cells as the released guide's own fill.sh prints them over the translation 154e945b4a09642f… (all of the seat's roots in one cut). By AI agents, Wed Nov 11 2026. No macro, syntax, notation, axiom, sorry.
-/
import Derived.Test.YtenclibcnjkamaaGreatChecked
import GoSem.Claim
import GoSem.ClaimJoined
import GoSem.ClaimMapViews
import Derived.JoinedTies
import Derived.KernelRfl
namespace Go.Proofs.YtenclibcnjkamaaGreat
/- THE CELL 'sum', in the pinned program and in every row, IS THE sha256 OF THE DUMP (.gsa) THAT YtenclibcnjkamaaGreatProg.lean LOADS. Nothing in Lean hashes anything: it is a label: what it is worth is what the hold of that sum in a sandbox is worth. -/
noncomputable def Tryz.pinned : Pinned := { name := "ytenclibcnjkamaagreat", sum := "154e945b4a09642f403394bcfded12a19aea5cf1c73d2fa60ca4e026a9c47209", checked := Tryz.checked }
namespace Rows
def none {H : Type} : Left H := { results := [], args := [] }

/-- 'laws.FnExactNeed': WHATEVER THE INPUT: true; the input reads as it did. -/
def fnExactNeedSpec : ChangeSpec := { name := "fnExactNeed", fn := fun _ => fun
  | [d1, d2] => { results := [.lit (.bool true)], args := [d1, d2] }
  | _ => none }
def fnExactNeedRow : OpenClaim := { program := "ytenclibcnjkamaagreat", sum := "154e945b4a09642f403394bcfded12a19aea5cf1c73d2fa60ca4e026a9c47209", func := "loop.example/g00286/laws.FnExactNeed", spec := "fnExactNeed", unfollowed := true, recurses := true, apart := false }
def FnExactNeedSaid : Prop := fnExactNeedRow.holds Tryz.pinned (OpenSpec.ofChange fnExactNeedSpec)

/-- ITS FALSE NEIGHBOUR: 'it returns false'. Refute it at one input. -/
def fnExactNeedWrong : ChangeSpec := { name := "fnExactNeed", fn := fun _ => fun
  | [d1, d2] => { results := [.lit (.bool false)], args := [d1, d2] }
  | _ => none }
def FnExactNeedWrongFalsely : Prop := fnExactNeedRow.holds Tryz.pinned (OpenSpec.ofChange fnExactNeedWrong)

/-- 'laws.FnExactBetter': WHATEVER THE INPUT: true; the input reads as it did. -/
def fnExactBetterSpec : ChangeSpec := { name := "fnExactBetter", fn := fun _ => fun
  | [d] => { results := [.lit (.bool true)], args := [d] }
  | _ => none }
def fnExactBetterRow : OpenClaim := { program := "ytenclibcnjkamaagreat", sum := "154e945b4a09642f403394bcfded12a19aea5cf1c73d2fa60ca4e026a9c47209", func := "loop.example/g00286/laws.FnExactBetter", spec := "fnExactBetter", unfollowed := true, recurses := true, apart := false }
def FnExactBetterSaid : Prop := fnExactBetterRow.holds Tryz.pinned (OpenSpec.ofChange fnExactBetterSpec)

/-- ITS FALSE NEIGHBOUR: 'it returns false'. Refute it at one input. -/
def fnExactBetterWrong : ChangeSpec := { name := "fnExactBetter", fn := fun _ => fun
  | [d] => { results := [.lit (.bool false)], args := [d] }
  | _ => none }
def FnExactBetterWrongFalsely : Prop := fnExactBetterRow.holds Tryz.pinned (OpenSpec.ofChange fnExactBetterWrong)

/-- 'laws.FnExactBetterAll': WHATEVER THE INPUT: true; the input reads as it did. -/
def fnExactBetterAllSpec : ChangeSpec := { name := "fnExactBetterAll", fn := fun _ => fun
  | [d] => { results := [.lit (.bool true)], args := [d] }
  | _ => none }
def fnExactBetterAllRow : OpenClaim := { program := "ytenclibcnjkamaagreat", sum := "154e945b4a09642f403394bcfded12a19aea5cf1c73d2fa60ca4e026a9c47209", func := "loop.example/g00286/laws.FnExactBetterAll", spec := "fnExactBetterAll", unfollowed := true, recurses := true, apart := false }
def FnExactBetterAllSaid : Prop := fnExactBetterAllRow.holds Tryz.pinned (OpenSpec.ofChange fnExactBetterAllSpec)

/-- ITS FALSE NEIGHBOUR: 'it returns false'. Refute it at one input. -/
def fnExactBetterAllWrong : ChangeSpec := { name := "fnExactBetterAll", fn := fun _ => fun
  | [d] => { results := [.lit (.bool false)], args := [d] }
  | _ => none }
def FnExactBetterAllWrongFalsely : Prop := fnExactBetterAllRow.holds Tryz.pinned (OpenSpec.ofChange fnExactBetterAllWrong)

/-- 'laws.FnExactEmit': WHATEVER THE INPUT: true; the input reads as it did. -/
def fnExactEmitSpec : ChangeSpec := { name := "fnExactEmit", fn := fun _ => fun
  | [d] => { results := [.lit (.bool true)], args := [d] }
  | _ => none }
def fnExactEmitRow : OpenClaim := { program := "ytenclibcnjkamaagreat", sum := "154e945b4a09642f403394bcfded12a19aea5cf1c73d2fa60ca4e026a9c47209", func := "loop.example/g00286/laws.FnExactEmit", spec := "fnExactEmit", unfollowed := true, recurses := true, apart := false }
def FnExactEmitSaid : Prop := fnExactEmitRow.holds Tryz.pinned (OpenSpec.ofChange fnExactEmitSpec)

/-- ITS FALSE NEIGHBOUR: 'it returns false'. Refute it at one input. -/
def fnExactEmitWrong : ChangeSpec := { name := "fnExactEmit", fn := fun _ => fun
  | [d] => { results := [.lit (.bool false)], args := [d] }
  | _ => none }
def FnExactEmitWrongFalsely : Prop := fnExactEmitRow.holds Tryz.pinned (OpenSpec.ofChange fnExactEmitWrong)

/-- 'laws.FnExactAssemble': WHATEVER THE INPUT: true; the input reads as it did. -/
def fnExactAssembleSpec : ChangeSpec := { name := "fnExactAssemble", fn := fun _ => fun
  | [d] => { results := [.lit (.bool true)], args := [d] }
  | _ => none }
def fnExactAssembleRow : OpenClaim := { program := "ytenclibcnjkamaagreat", sum := "154e945b4a09642f403394bcfded12a19aea5cf1c73d2fa60ca4e026a9c47209", func := "loop.example/g00286/laws.FnExactAssemble", spec := "fnExactAssemble", unfollowed := true, recurses := true, apart := false }
def FnExactAssembleSaid : Prop := fnExactAssembleRow.holds Tryz.pinned (OpenSpec.ofChange fnExactAssembleSpec)

/-- ITS FALSE NEIGHBOUR: 'it returns false'. Refute it at one input. -/
def fnExactAssembleWrong : ChangeSpec := { name := "fnExactAssemble", fn := fun _ => fun
  | [d] => { results := [.lit (.bool false)], args := [d] }
  | _ => none }
def FnExactAssembleWrongFalsely : Prop := fnExactAssembleRow.holds Tryz.pinned (OpenSpec.ofChange fnExactAssembleWrong)

/- THE SECOND FORM. 'bulk': how many values and letters a reading holds, each counted each time it is reached (what is shared counts as often as it is met; a slice's spare places count too). A statement '..UptoSaid' is the law's where the arguments, and the package variables that the reading takes, are together of bulk at most 1048576: NARROWER than '..Said'. Prove '..Said' where nothing that the law and all that it calls make is longer than what came in: it says more and counts as full. Else prove '..UptoSaid'. A law counts once. -/
mutual
def uptoBulk {H : Type} : DataW H → Nat
  | .lit (.string bytes) => bytes.length + 1
  | .lit _ => 1
  | .nil => 1
  | .ptr d => uptoBulk d + 1
  | .slice elems spare => uptoBulkAll elems + uptoBulkAll spare + 1
  | .agg parts => uptoBulkAll parts + 1
  | .iface _ d => uptoBulk d + 1
  | .map entries => uptoBulkEntries entries + 1
  | .held _ => 1
def uptoBulkAll {H : Type} : List (DataW H) → Nat
  | [] => 0
  | d :: r => uptoBulk d + uptoBulkAll r
def uptoBulkEntries {H : Type} : List (Lit × DataW H) → Nat
  | [] => 0
  | x :: r => uptoBulkEntry x + uptoBulkEntries r
def uptoBulkEntry {H : Type} : Lit × DataW H → Nat
  | (.string bytes, d) => bytes.length + uptoBulk d + 1
  | (_, d) => uptoBulk d + 1
 end
def uptoSmall : (H : Type) → List (DataW H) → Bool := fun _ ds => decide (uptoBulkAll ds ≤ 1048576)
def OpenSpec.upto (s : _root_.Go.ChangeSpec) : _root_.Go.OpenSpec := { _root_.Go.OpenSpec.ofChange s with cond := some uptoSmall }

/-- 'laws.FnExactNeed', WHERE WHAT IT READS IS OF BULK AT MOST 1048576: true; the input reads as it did. -/
def fnExactNeedUptoRow : OpenClaim := { program := "ytenclibcnjkamaagreat", sum := "154e945b4a09642f403394bcfded12a19aea5cf1c73d2fa60ca4e026a9c47209", func := "loop.example/g00286/laws.FnExactNeed", spec := "fnExactNeed", unfollowed := true, recurses := true, apart := false, narrowed := true }
def FnExactNeedUptoSaid : Prop := fnExactNeedUptoRow.holds Tryz.pinned (OpenSpec.upto fnExactNeedSpec)

/-- 'laws.FnExactBetter', WHERE WHAT IT READS IS OF BULK AT MOST 1048576: true; the input reads as it did. -/
def fnExactBetterUptoRow : OpenClaim := { program := "ytenclibcnjkamaagreat", sum := "154e945b4a09642f403394bcfded12a19aea5cf1c73d2fa60ca4e026a9c47209", func := "loop.example/g00286/laws.FnExactBetter", spec := "fnExactBetter", unfollowed := true, recurses := true, apart := false, narrowed := true }
def FnExactBetterUptoSaid : Prop := fnExactBetterUptoRow.holds Tryz.pinned (OpenSpec.upto fnExactBetterSpec)

/-- 'laws.FnExactBetterAll', WHERE WHAT IT READS IS OF BULK AT MOST 1048576: true; the input reads as it did. -/
def fnExactBetterAllUptoRow : OpenClaim := { program := "ytenclibcnjkamaagreat", sum := "154e945b4a09642f403394bcfded12a19aea5cf1c73d2fa60ca4e026a9c47209", func := "loop.example/g00286/laws.FnExactBetterAll", spec := "fnExactBetterAll", unfollowed := true, recurses := true, apart := false, narrowed := true }
def FnExactBetterAllUptoSaid : Prop := fnExactBetterAllUptoRow.holds Tryz.pinned (OpenSpec.upto fnExactBetterAllSpec)

/-- 'laws.FnExactEmit', WHERE WHAT IT READS IS OF BULK AT MOST 1048576: true; the input reads as it did. -/
def fnExactEmitUptoRow : OpenClaim := { program := "ytenclibcnjkamaagreat", sum := "154e945b4a09642f403394bcfded12a19aea5cf1c73d2fa60ca4e026a9c47209", func := "loop.example/g00286/laws.FnExactEmit", spec := "fnExactEmit", unfollowed := true, recurses := true, apart := false, narrowed := true }
def FnExactEmitUptoSaid : Prop := fnExactEmitUptoRow.holds Tryz.pinned (OpenSpec.upto fnExactEmitSpec)

/-- 'laws.FnExactAssemble', WHERE WHAT IT READS IS OF BULK AT MOST 1048576: true; the input reads as it did. -/
def fnExactAssembleUptoRow : OpenClaim := { program := "ytenclibcnjkamaagreat", sum := "154e945b4a09642f403394bcfded12a19aea5cf1c73d2fa60ca4e026a9c47209", func := "loop.example/g00286/laws.FnExactAssemble", spec := "fnExactAssemble", unfollowed := true, recurses := true, apart := false, narrowed := true }
def FnExactAssembleUptoSaid : Prop := fnExactAssembleUptoRow.holds Tryz.pinned (OpenSpec.upto fnExactAssembleSpec)

end Rows
end Go.Proofs.YtenclibcnjkamaaGreat
