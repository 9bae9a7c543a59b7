/-
  No cell of these rows narrows 'for every input' (looked for: loops, veiled, ifaces, maps, wideKeys, modest, calm, conditions, laid).
  DERIVED. THE GIVEN ROWS OF THIS SEAT. 6 by the template 'for every input the law returns true; each argument reads behind the call as it read before'; 0 by the template 'total and deterministic' (their statements: YtonoomibdlhonaaTotals.lean).
  GIVEN WITH THE SEED: the statements are not yours to turn. If you find one false, say at which input.
  Laid BY PROGRAM, IN A SANDBOX (cutbox-rows.mjs): the forced cells as the released guide's own fill.sh prints them over the translation 35b66af55a909456… (all of the seat's roots in one cut). By AI agents, Wed Nov 11 2026. No macro, syntax, notation, axiom, sorry.
-/
import Derived.Test.YtonoomibdlhonaaChecked
import GoSem.Claim
import GoSem.ClaimJoined
import GoSem.ClaimMapViews
import Derived.JoinedTies
import Derived.KernelRfl
namespace Go.Proofs.Ytonoomibdlhonaa
/- THE CELL 'sum', in the pinned program and in every row, IS THE sha256 OF THE DUMP (.gsa) THAT YtonoomibdlhonaaProg.lean LOADS. Nothing in Lean hashes anything: it is a label: what it is worth is what the hold of that sum in a sandbox is worth. -/
noncomputable def Try.pinned : Pinned := { name := "ytonoomibdlhonaa", sum := "35b66af55a9094561e9c5a087b2e189b74208eee3de7f7fd6f4c0f492a6e1113", checked := Try.checked }
namespace Rows
def none {H : Type} : Left H := { results := [], args := [] }

/-- 'laws.FnExactNoteText': WHATEVER THE INPUT: true; the input reads as it did. -/
def fnExactNoteTextSpec : ChangeSpec := { name := "fnExactNoteText", fn := fun _ => fun
  | [d] => { results := [.lit (.bool true)], args := [d] }
  | _ => none }
def fnExactNoteTextRow : OpenClaim := { program := "ytonoomibdlhonaa", sum := "35b66af55a9094561e9c5a087b2e189b74208eee3de7f7fd6f4c0f492a6e1113", func := "loop.example/g00286/laws.FnExactNoteText", spec := "fnExactNoteText", recurses := true, apart := false }
def FnExactNoteTextSaid : Prop := fnExactNoteTextRow.holds Try.pinned (OpenSpec.ofChange fnExactNoteTextSpec)

/-- ITS FALSE NEIGHBOUR: 'it returns false'. Refute it at one input. -/
def fnExactNoteTextWrong : ChangeSpec := { name := "fnExactNoteText", fn := fun _ => fun
  | [d] => { results := [.lit (.bool false)], args := [d] }
  | _ => none }
def FnExactNoteTextWrongFalsely : Prop := fnExactNoteTextRow.holds Try.pinned (OpenSpec.ofChange fnExactNoteTextWrong)

/-- 'laws.FnExactImageText': WHATEVER THE INPUT: true; the input reads as it did. -/
def fnExactImageTextSpec : ChangeSpec := { name := "fnExactImageText", fn := fun _ => fun
  | [d] => { results := [.lit (.bool true)], args := [d] }
  | _ => none }
def fnExactImageTextRow : OpenClaim := { program := "ytonoomibdlhonaa", sum := "35b66af55a9094561e9c5a087b2e189b74208eee3de7f7fd6f4c0f492a6e1113", func := "loop.example/g00286/laws.FnExactImageText", spec := "fnExactImageText", recurses := true, apart := false }
def FnExactImageTextSaid : Prop := fnExactImageTextRow.holds Try.pinned (OpenSpec.ofChange fnExactImageTextSpec)

/-- ITS FALSE NEIGHBOUR: 'it returns false'. Refute it at one input. -/
def fnExactImageTextWrong : ChangeSpec := { name := "fnExactImageText", fn := fun _ => fun
  | [d] => { results := [.lit (.bool false)], args := [d] }
  | _ => none }
def FnExactImageTextWrongFalsely : Prop := fnExactImageTextRow.holds Try.pinned (OpenSpec.ofChange fnExactImageTextWrong)

/-- 'laws.FnExactPlaceOf': WHATEVER THE INPUT: true; the input reads as it did. -/
def fnExactPlaceOfSpec : ChangeSpec := { name := "fnExactPlaceOf", fn := fun _ => fun
  | [d1, d2] => { results := [.lit (.bool true)], args := [d1, d2] }
  | _ => none }
def fnExactPlaceOfRow : OpenClaim := { program := "ytonoomibdlhonaa", sum := "35b66af55a9094561e9c5a087b2e189b74208eee3de7f7fd6f4c0f492a6e1113", func := "loop.example/g00286/laws.FnExactPlaceOf", spec := "fnExactPlaceOf", apart := false }
def FnExactPlaceOfSaid : Prop := fnExactPlaceOfRow.holds Try.pinned (OpenSpec.ofChange fnExactPlaceOfSpec)

/-- ITS FALSE NEIGHBOUR: 'it returns false'. Refute it at one input. -/
def fnExactPlaceOfWrong : ChangeSpec := { name := "fnExactPlaceOf", fn := fun _ => fun
  | [d1, d2] => { results := [.lit (.bool false)], args := [d1, d2] }
  | _ => none }
def FnExactPlaceOfWrongFalsely : Prop := fnExactPlaceOfRow.holds Try.pinned (OpenSpec.ofChange fnExactPlaceOfWrong)

/-- 'laws.FnExactBodyText': WHATEVER THE INPUT: true; the input reads as it did. -/
def fnExactBodyTextSpec : ChangeSpec := { name := "fnExactBodyText", fn := fun _ => fun
  | [d] => { results := [.lit (.bool true)], args := [d] }
  | _ => none }
def fnExactBodyTextRow : OpenClaim := { program := "ytonoomibdlhonaa", sum := "35b66af55a9094561e9c5a087b2e189b74208eee3de7f7fd6f4c0f492a6e1113", func := "loop.example/g00286/laws.FnExactBodyText", spec := "fnExactBodyText", recurses := true, apart := false }
def FnExactBodyTextSaid : Prop := fnExactBodyTextRow.holds Try.pinned (OpenSpec.ofChange fnExactBodyTextSpec)

/-- ITS FALSE NEIGHBOUR: 'it returns false'. Refute it at one input. -/
def fnExactBodyTextWrong : ChangeSpec := { name := "fnExactBodyText", fn := fun _ => fun
  | [d] => { results := [.lit (.bool false)], args := [d] }
  | _ => none }
def FnExactBodyTextWrongFalsely : Prop := fnExactBodyTextRow.holds Try.pinned (OpenSpec.ofChange fnExactBodyTextWrong)

/-- 'laws.FnExactLocked': WHATEVER THE INPUT: true; the input reads as it did. -/
def fnExactLockedSpec : ChangeSpec := { name := "fnExactLocked", fn := fun _ => fun
  | [d] => { results := [.lit (.bool true)], args := [d] }
  | _ => none }
def fnExactLockedRow : OpenClaim := { program := "ytonoomibdlhonaa", sum := "35b66af55a9094561e9c5a087b2e189b74208eee3de7f7fd6f4c0f492a6e1113", func := "loop.example/g00286/laws.FnExactLocked", spec := "fnExactLocked", apart := false }
def FnExactLockedSaid : Prop := fnExactLockedRow.holds Try.pinned (OpenSpec.ofChange fnExactLockedSpec)

/-- ITS FALSE NEIGHBOUR: 'it returns false'. Refute it at one input. -/
def fnExactLockedWrong : ChangeSpec := { name := "fnExactLocked", fn := fun _ => fun
  | [d] => { results := [.lit (.bool false)], args := [d] }
  | _ => none }
def FnExactLockedWrongFalsely : Prop := fnExactLockedRow.holds Try.pinned (OpenSpec.ofChange fnExactLockedWrong)

/-- 'laws.FnExactOnCores': WHATEVER THE INPUT: true; the input reads as it did. -/
def fnExactOnCoresSpec : ChangeSpec := { name := "fnExactOnCores", fn := fun _ => fun
  | [d] => { results := [.lit (.bool true)], args := [d] }
  | _ => none }
def fnExactOnCoresRow : OpenClaim := { program := "ytonoomibdlhonaa", sum := "35b66af55a9094561e9c5a087b2e189b74208eee3de7f7fd6f4c0f492a6e1113", func := "loop.example/g00286/laws.FnExactOnCores", spec := "fnExactOnCores", apart := false }
def FnExactOnCoresSaid : Prop := fnExactOnCoresRow.holds Try.pinned (OpenSpec.ofChange fnExactOnCoresSpec)

/-- ITS FALSE NEIGHBOUR: 'it returns false'. Refute it at one input. -/
def fnExactOnCoresWrong : ChangeSpec := { name := "fnExactOnCores", fn := fun _ => fun
  | [d] => { results := [.lit (.bool false)], args := [d] }
  | _ => none }
def FnExactOnCoresWrongFalsely : Prop := fnExactOnCoresRow.holds Try.pinned (OpenSpec.ofChange fnExactOnCoresWrong)

/- THE SECOND FORM. 'bulk': how many values and letters a reading holds, each counted each time it is reached (what is shared counts as often as it is met; a slice's spare places count too). A statement '..UptoSaid' is the law's where the arguments, and the package variables that the reading takes, are together of bulk at most 1048576: NARROWER than '..Said'. Prove '..Said' where nothing that the law and all that it calls make is longer than what came in: it says more and counts as full. Else prove '..UptoSaid'. A law counts once. -/
mutual
def uptoBulk {H : Type} : DataW H → Nat
  | .lit (.string bytes) => bytes.length + 1
  | .lit _ => 1
  | .nil => 1
  | .ptr d => uptoBulk d + 1
  | .slice elems spare => uptoBulkAll elems + uptoBulkAll spare + 1
  | .agg parts => uptoBulkAll parts + 1
  | .iface _ d => uptoBulk d + 1
  | .map entries => uptoBulkEntries entries + 1
  | .held _ => 1
def uptoBulkAll {H : Type} : List (DataW H) → Nat
  | [] => 0
  | d :: r => uptoBulk d + uptoBulkAll r
def uptoBulkEntries {H : Type} : List (Lit × DataW H) → Nat
  | [] => 0
  | x :: r => uptoBulkEntry x + uptoBulkEntries r
def uptoBulkEntry {H : Type} : Lit × DataW H → Nat
  | (.string bytes, d) => bytes.length + uptoBulk d + 1
  | (_, d) => uptoBulk d + 1
 end
def uptoSmall : (H : Type) → List (DataW H) → Bool := fun _ ds => decide (uptoBulkAll ds ≤ 1048576)
def OpenSpec.upto (s : _root_.Go.ChangeSpec) : _root_.Go.OpenSpec := { _root_.Go.OpenSpec.ofChange s with cond := some uptoSmall }

/-- 'laws.FnExactNoteText', WHERE WHAT IT READS IS OF BULK AT MOST 1048576: true; the input reads as it did. -/
def fnExactNoteTextUptoRow : OpenClaim := { program := "ytonoomibdlhonaa", sum := "35b66af55a9094561e9c5a087b2e189b74208eee3de7f7fd6f4c0f492a6e1113", func := "loop.example/g00286/laws.FnExactNoteText", spec := "fnExactNoteText", recurses := true, apart := false, narrowed := true }
def FnExactNoteTextUptoSaid : Prop := fnExactNoteTextUptoRow.holds Try.pinned (OpenSpec.upto fnExactNoteTextSpec)

/-- 'laws.FnExactImageText', WHERE WHAT IT READS IS OF BULK AT MOST 1048576: true; the input reads as it did. -/
def fnExactImageTextUptoRow : OpenClaim := { program := "ytonoomibdlhonaa", sum := "35b66af55a9094561e9c5a087b2e189b74208eee3de7f7fd6f4c0f492a6e1113", func := "loop.example/g00286/laws.FnExactImageText", spec := "fnExactImageText", recurses := true, apart := false, narrowed := true }
def FnExactImageTextUptoSaid : Prop := fnExactImageTextUptoRow.holds Try.pinned (OpenSpec.upto fnExactImageTextSpec)

/-- 'laws.FnExactPlaceOf', WHERE WHAT IT READS IS OF BULK AT MOST 1048576: true; the input reads as it did. -/
def fnExactPlaceOfUptoRow : OpenClaim := { program := "ytonoomibdlhonaa", sum := "35b66af55a9094561e9c5a087b2e189b74208eee3de7f7fd6f4c0f492a6e1113", func := "loop.example/g00286/laws.FnExactPlaceOf", spec := "fnExactPlaceOf", apart := false, narrowed := true }
def FnExactPlaceOfUptoSaid : Prop := fnExactPlaceOfUptoRow.holds Try.pinned (OpenSpec.upto fnExactPlaceOfSpec)

/-- 'laws.FnExactBodyText', WHERE WHAT IT READS IS OF BULK AT MOST 1048576: true; the input reads as it did. -/
def fnExactBodyTextUptoRow : OpenClaim := { program := "ytonoomibdlhonaa", sum := "35b66af55a9094561e9c5a087b2e189b74208eee3de7f7fd6f4c0f492a6e1113", func := "loop.example/g00286/laws.FnExactBodyText", spec := "fnExactBodyText", recurses := true, apart := false, narrowed := true }
def FnExactBodyTextUptoSaid : Prop := fnExactBodyTextUptoRow.holds Try.pinned (OpenSpec.upto fnExactBodyTextSpec)

/-- 'laws.FnExactLocked', WHERE WHAT IT READS IS OF BULK AT MOST 1048576: true; the input reads as it did. -/
def fnExactLockedUptoRow : OpenClaim := { program := "ytonoomibdlhonaa", sum := "35b66af55a9094561e9c5a087b2e189b74208eee3de7f7fd6f4c0f492a6e1113", func := "loop.example/g00286/laws.FnExactLocked", spec := "fnExactLocked", apart := false, narrowed := true }
def FnExactLockedUptoSaid : Prop := fnExactLockedUptoRow.holds Try.pinned (OpenSpec.upto fnExactLockedSpec)

/-- 'laws.FnExactOnCores', WHERE WHAT IT READS IS OF BULK AT MOST 1048576: true; the input reads as it did. -/
def fnExactOnCoresUptoRow : OpenClaim := { program := "ytonoomibdlhonaa", sum := "35b66af55a9094561e9c5a087b2e189b74208eee3de7f7fd6f4c0f492a6e1113", func := "loop.example/g00286/laws.FnExactOnCores", spec := "fnExactOnCores", apart := false, narrowed := true }
def FnExactOnCoresUptoSaid : Prop := fnExactOnCoresUptoRow.holds Try.pinned (OpenSpec.upto fnExactOnCoresSpec)

end Rows
end Go.Proofs.Ytonoomibdlhonaa
