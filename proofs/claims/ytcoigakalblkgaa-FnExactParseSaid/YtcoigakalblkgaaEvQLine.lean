/- The laws' own helpers on the type Line: written by genq.py. -/
import Derived.Test.YtcoigakalblkgaaEvQInt
import Derived.Test.YtcoigakalblkgaaEvQText
import Derived.Test.YtcoigakalblkgaaEvQIns
set_option linter.all false
namespace Go.Ev.G
set_option maxRecDepth 8000
set_option maxHeartbeats 4000000
end Go.Ev.G
