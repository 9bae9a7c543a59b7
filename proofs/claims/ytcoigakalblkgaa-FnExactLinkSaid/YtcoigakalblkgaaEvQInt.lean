/- The laws' own helpers on slices of whole numbers. -/
import Derived.Test.YtcoigakalblkgaaEvBase
import Derived.Test.YtcoigakalblkgaaEvTab
set_option linter.all false
namespace Go.Ev.G
set_option maxRecDepth 8000
set_option maxHeartbeats 4000000
/-- Numbers in turn. -/
def mkInt : Int → List Int → List Int
  | _, [] => []
  | k, _ :: ns => k :: mkInt (k + 1) ns
theorem mkInt_len : ∀ (k : Int) (ns : List Int), (mkInt k ns).length = ns.length
  | _, [] => rfl
  | k, _ :: ns => by simp [mkInt, mkInt_len (k + 1) ns]
end Go.Ev.G
