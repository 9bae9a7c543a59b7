/- The places of names. -/
import Derived.Test.YtcoigakalblkgaaEvQLine
set_option linter.all false
namespace Go.Ev.G
set_option maxRecDepth 8000
set_option maxHeartbeats 4000000
abbrev noS : ByteArray := ⟨#[]⟩
end Go.Ev.G
