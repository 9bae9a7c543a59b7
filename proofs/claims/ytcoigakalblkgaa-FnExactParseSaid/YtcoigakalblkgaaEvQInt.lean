/- The laws' own helpers on slices of whole numbers. -/
import Derived.Test.YtcoigakalblkgaaEvBase
import Derived.Test.YtcoigakalblkgaaEvTab
set_option linter.all false
namespace Go.Ev.G
set_option maxRecDepth 8000
set_option maxHeartbeats 4000000
end Go.Ev.G
