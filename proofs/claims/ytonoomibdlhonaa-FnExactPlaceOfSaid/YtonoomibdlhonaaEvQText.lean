/- The laws' own letter m and digits. -/
import Derived.Test.YtonoomibdlhonaaEvQInt
import Derived.Test.YtonoomibdlhonaaEvPWord
set_option linter.all false
namespace Go.Ev.G
set_option maxRecDepth 8000
set_option maxHeartbeats 4000000
/-- m and a number's digits. -/
def mtxt (k : Int) : ByteArray := ⟨#[109]⟩ ++ digN k.toNat
theorem w64m (k : Int) : k = k := rfl
end Go.Ev.G
