/-
  NARROWER THAN 'FOR EVERY INPUT', by the rows' own cells (each row's printed sentence says how): FnExactEval: loops · FnExactLower: loops.
  DERIVED. THE GIVEN ROWS OF THIS SEAT. 4 by the template 'for every input the law returns true; each argument reads behind the call as it read before'; 0 by the template 'total and deterministic' (their statements: YtcaonmepamlclaaGreatTotals.lean).
  GIVEN WITH THE SEED: the statements are not yours to turn. If you find one false, say at which input.
  Laid BY PROGRAM, IN A SANDBOX (cutbox-rows.mjs): the forced cells as the released guide's own fill.sh prints them over the translation d1d86d19bd72d5fd… (all of the seat's roots in one cut). By AI agents, Wed Nov 11 2026. No macro, syntax, notation, axiom, sorry.
-/
import Derived.Test.YtcaonmepamlclaaGreatChecked
import GoSem.Claim
import GoSem.ClaimJoined
import GoSem.ClaimMapViews
import Derived.JoinedTies
import Derived.KernelRfl
namespace Go.Proofs.YtcaonmepamlclaaGreat
/- THE CELL 'sum', in the pinned program and in every row, IS THE sha256 OF THE DUMP (.gsa) THAT YtcaonmepamlclaaGreatProg.lean LOADS. Nothing in Lean hashes anything: it is a label: what it is worth is what the hold of that sum in a sandbox is worth. -/
noncomputable def Tryz.pinned : Pinned := { name := "ytcaonmepamlclaagreat", sum := "d1d86d19bd72d5fd8ebf863d42a26e9fb77e1421ff3b2f6a50fbd9a1a940affa", checked := Tryz.checked }
namespace Rows
def none {H : Type} : Left H := { results := [], args := [] }

/-- 'laws.FnExactEval': WHATEVER THE INPUT: true; the input reads as it did. -/
def fnExactEvalSpec : ChangeSpec := { name := "fnExactEval", fn := fun _ => fun
  | [d1, d2, d3, d4] => { results := [.lit (.bool true)], args := [d1, d2, d3, d4] }
  | _ => none }
def fnExactEvalRow : OpenClaim := { program := "ytcaonmepamlclaagreat", sum := "d1d86d19bd72d5fd8ebf863d42a26e9fb77e1421ff3b2f6a50fbd9a1a940affa", func := "loop.example/g00286/laws.FnExactEval", spec := "fnExactEval", unfollowed := true, recurses := true, loops := true, apart := false }
def FnExactEvalSaid : Prop := fnExactEvalRow.holds Tryz.pinned (OpenSpec.ofChange fnExactEvalSpec)

/-- ITS FALSE NEIGHBOUR: 'it returns false'. Refute it at one input. -/
def fnExactEvalWrong : ChangeSpec := { name := "fnExactEval", fn := fun _ => fun
  | [d1, d2, d3, d4] => { results := [.lit (.bool false)], args := [d1, d2, d3, d4] }
  | _ => none }
def FnExactEvalWrongFalsely : Prop := fnExactEvalRow.holds Tryz.pinned (OpenSpec.ofChange fnExactEvalWrong)

/-- 'laws.FnExactLower': WHATEVER THE INPUT: true; the input reads as it did. -/
def fnExactLowerSpec : ChangeSpec := { name := "fnExactLower", fn := fun _ => fun
  | [d1, d2] => { results := [.lit (.bool true)], args := [d1, d2] }
  | _ => none }
def fnExactLowerRow : OpenClaim := { program := "ytcaonmepamlclaagreat", sum := "d1d86d19bd72d5fd8ebf863d42a26e9fb77e1421ff3b2f6a50fbd9a1a940affa", func := "loop.example/g00286/laws.FnExactLower", spec := "fnExactLower", unfollowed := true, recurses := true, loops := true, apart := false }
def FnExactLowerSaid : Prop := fnExactLowerRow.holds Tryz.pinned (OpenSpec.ofChange fnExactLowerSpec)

/-- ITS FALSE NEIGHBOUR: 'it returns false'. Refute it at one input. -/
def fnExactLowerWrong : ChangeSpec := { name := "fnExactLower", fn := fun _ => fun
  | [d1, d2] => { results := [.lit (.bool false)], args := [d1, d2] }
  | _ => none }
def FnExactLowerWrongFalsely : Prop := fnExactLowerRow.holds Tryz.pinned (OpenSpec.ofChange fnExactLowerWrong)

/-- 'laws.FnExactSchedUnits': WHATEVER THE INPUT: true; the input reads as it did. -/
def fnExactSchedUnitsSpec : ChangeSpec := { name := "fnExactSchedUnits", fn := fun _ => fun
  | [] => { results := [.lit (.bool true)], args := [] }
  | _ => none }
def fnExactSchedUnitsRow : OpenClaim := { program := "ytcaonmepamlclaagreat", sum := "d1d86d19bd72d5fd8ebf863d42a26e9fb77e1421ff3b2f6a50fbd9a1a940affa", func := "loop.example/g00286/laws.FnExactSchedUnits", spec := "fnExactSchedUnits", inPlace := ["internal/bytealg.IndexByteString"], unfollowed := true, recurses := true, apart := false }
def FnExactSchedUnitsSaid : Prop := fnExactSchedUnitsRow.holds Tryz.pinned (OpenSpec.ofChange fnExactSchedUnitsSpec)

/-- ITS FALSE NEIGHBOUR: 'it returns false'. Refute it at one input. -/
def fnExactSchedUnitsWrong : ChangeSpec := { name := "fnExactSchedUnits", fn := fun _ => fun
  | [] => { results := [.lit (.bool false)], args := [] }
  | _ => none }
def FnExactSchedUnitsWrongFalsely : Prop := fnExactSchedUnitsRow.holds Tryz.pinned (OpenSpec.ofChange fnExactSchedUnitsWrong)

/-- 'laws.FnExactJoinAll': WHATEVER THE INPUT: true; the input reads as it did. -/
def fnExactJoinAllSpec : ChangeSpec := { name := "fnExactJoinAll", fn := fun _ => fun
  | [d] => { results := [.lit (.bool true)], args := [d] }
  | _ => none }
def fnExactJoinAllRow : OpenClaim := { program := "ytcaonmepamlclaagreat", sum := "d1d86d19bd72d5fd8ebf863d42a26e9fb77e1421ff3b2f6a50fbd9a1a940affa", func := "loop.example/g00286/laws.FnExactJoinAll", spec := "fnExactJoinAll", inPlace := ["internal/bytealg.IndexByteString"], unfollowed := true, recurses := true, apart := false }
def FnExactJoinAllSaid : Prop := fnExactJoinAllRow.holds Tryz.pinned (OpenSpec.ofChange fnExactJoinAllSpec)

/-- ITS FALSE NEIGHBOUR: 'it returns false'. Refute it at one input. -/
def fnExactJoinAllWrong : ChangeSpec := { name := "fnExactJoinAll", fn := fun _ => fun
  | [d] => { results := [.lit (.bool false)], args := [d] }
  | _ => none }
def FnExactJoinAllWrongFalsely : Prop := fnExactJoinAllRow.holds Tryz.pinned (OpenSpec.ofChange fnExactJoinAllWrong)

/- THE SECOND FORM. 'bulk': how many values and letters a reading holds, each counted each time it is reached (what is shared counts as often as it is met; a slice's spare places count too). A statement '..UptoSaid' is the law's where the arguments, and the package variables that the reading takes, are together of bulk at most 1048576: NARROWER than '..Said'. Prove '..Said' where nothing that the law and all that it calls make is longer than what came in: it says more and counts as full. Else prove '..UptoSaid'. A law counts once. -/
mutual
def uptoBulk {H : Type} : DataW H → Nat
  | .lit (.string bytes) => bytes.length + 1
  | .lit _ => 1
  | .nil => 1
  | .ptr d => uptoBulk d + 1
  | .slice elems spare => uptoBulkAll elems + uptoBulkAll spare + 1
  | .agg parts => uptoBulkAll parts + 1
  | .iface _ d => uptoBulk d + 1
  | .map entries => uptoBulkEntries entries + 1
  | .held _ => 1
def uptoBulkAll {H : Type} : List (DataW H) → Nat
  | [] => 0
  | d :: r => uptoBulk d + uptoBulkAll r
def uptoBulkEntries {H : Type} : List (Lit × DataW H) → Nat
  | [] => 0
  | x :: r => uptoBulkEntry x + uptoBulkEntries r
def uptoBulkEntry {H : Type} : Lit × DataW H → Nat
  | (.string bytes, d) => bytes.length + uptoBulk d + 1
  | (_, d) => uptoBulk d + 1
 end
def uptoSmall : (H : Type) → List (DataW H) → Bool := fun _ ds => decide (uptoBulkAll ds ≤ 1048576)
def OpenSpec.upto (s : _root_.Go.ChangeSpec) : _root_.Go.OpenSpec := { _root_.Go.OpenSpec.ofChange s with cond := some uptoSmall }

/-- 'laws.FnExactEval', WHERE WHAT IT READS IS OF BULK AT MOST 1048576: true; the input reads as it did. -/
def fnExactEvalUptoRow : OpenClaim := { program := "ytcaonmepamlclaagreat", sum := "d1d86d19bd72d5fd8ebf863d42a26e9fb77e1421ff3b2f6a50fbd9a1a940affa", func := "loop.example/g00286/laws.FnExactEval", spec := "fnExactEval", unfollowed := true, recurses := true, loops := true, apart := false, narrowed := true }
def FnExactEvalUptoSaid : Prop := fnExactEvalUptoRow.holds Tryz.pinned (OpenSpec.upto fnExactEvalSpec)

/-- 'laws.FnExactLower', WHERE WHAT IT READS IS OF BULK AT MOST 1048576: true; the input reads as it did. -/
def fnExactLowerUptoRow : OpenClaim := { program := "ytcaonmepamlclaagreat", sum := "d1d86d19bd72d5fd8ebf863d42a26e9fb77e1421ff3b2f6a50fbd9a1a940affa", func := "loop.example/g00286/laws.FnExactLower", spec := "fnExactLower", unfollowed := true, recurses := true, loops := true, apart := false, narrowed := true }
def FnExactLowerUptoSaid : Prop := fnExactLowerUptoRow.holds Tryz.pinned (OpenSpec.upto fnExactLowerSpec)

/-- 'laws.FnExactSchedUnits', WHERE WHAT IT READS IS OF BULK AT MOST 1048576: true; the input reads as it did. -/
def fnExactSchedUnitsUptoRow : OpenClaim := { program := "ytcaonmepamlclaagreat", sum := "d1d86d19bd72d5fd8ebf863d42a26e9fb77e1421ff3b2f6a50fbd9a1a940affa", func := "loop.example/g00286/laws.FnExactSchedUnits", spec := "fnExactSchedUnits", inPlace := ["internal/bytealg.IndexByteString"], unfollowed := true, recurses := true, apart := false, narrowed := true }
def FnExactSchedUnitsUptoSaid : Prop := fnExactSchedUnitsUptoRow.holds Tryz.pinned (OpenSpec.upto fnExactSchedUnitsSpec)

/-- 'laws.FnExactJoinAll', WHERE WHAT IT READS IS OF BULK AT MOST 1048576: true; the input reads as it did. -/
def fnExactJoinAllUptoRow : OpenClaim := { program := "ytcaonmepamlclaagreat", sum := "d1d86d19bd72d5fd8ebf863d42a26e9fb77e1421ff3b2f6a50fbd9a1a940affa", func := "loop.example/g00286/laws.FnExactJoinAll", spec := "fnExactJoinAll", inPlace := ["internal/bytealg.IndexByteString"], unfollowed := true, recurses := true, apart := false, narrowed := true }
def FnExactJoinAllUptoSaid : Prop := fnExactJoinAllUptoRow.holds Tryz.pinned (OpenSpec.upto fnExactJoinAllSpec)

end Rows
end Go.Proofs.YtcaonmepamlclaaGreat
