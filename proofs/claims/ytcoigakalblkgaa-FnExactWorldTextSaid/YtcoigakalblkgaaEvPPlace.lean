/- The places of names. -/
import Derived.Test.YtcoigakalblkgaaEvQLine
set_option linter.all false
namespace Go.Ev.G
set_option maxRecDepth 8000
set_option maxHeartbeats 4000000
abbrev noS : ByteArray := ⟨#[]⟩
/-- The number of the place that follows a name. -/
def placeL (name : ByteArray) : Int → List TLine → Int
  | _, [] => -1
  | n, x :: xs => if x.fName = noS then placeL name (n + 1) xs else if x.fName = name then n else placeL name n xs
/-- How often a name stands. -/
def nameCt (name : ByteArray) : List TLine → Int
  | [] => 0
  | x :: xs => if x.fName = noS then nameCt name xs else if x.fName = name then nameCt name xs + 1 else nameCt name xs
theorem nameCt_nn (name : ByteArray) : ∀ xs : List TLine, 0 ≤ nameCt name xs ∧ nameCt name xs ≤ xs.length
  | [] => by simp [nameCt]
  | x :: xs => by
    have := nameCt_nn name xs
    simp only [nameCt, List.length_cons]
    split
    · omega
    · split <;> omega
theorem placeL_no : ∀ (n : Int) (xs : List TLine), placeL noS n xs = -1
  | _, [] => rfl
  | n, x :: xs => by
    rw [placeL]
    split
    · exact placeL_no _ xs
    · exact placeL_no _ xs
end Go.Ev.G
