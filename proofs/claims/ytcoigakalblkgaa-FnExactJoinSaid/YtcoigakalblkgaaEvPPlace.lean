/- The places of names. -/
import Derived.Test.YtcoigakalblkgaaEvQLine
set_option linter.all false
namespace Go.Ev.G
set_option maxRecDepth 8000
set_option maxHeartbeats 4000000
abbrev noS : ByteArray := ⟨#[]⟩
/-- The number of the place that follows a name. -/
/-- How often a name stands. -/
end Go.Ev.G
