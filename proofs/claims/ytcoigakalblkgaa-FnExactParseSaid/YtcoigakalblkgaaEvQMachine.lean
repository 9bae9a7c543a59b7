/- The laws' own helpers on the type Machine: written by genq.py. -/
import Derived.Test.YtcoigakalblkgaaEvQInt
import Derived.Test.YtcoigakalblkgaaEvQIns
import Derived.Test.YtcoigakalblkgaaEvQCore
import Derived.Test.YtcoigakalblkgaaEvQNote
set_option linter.all false
namespace Go.Ev.G
set_option maxRecDepth 8000
set_option maxHeartbeats 4000000
end Go.Ev.G
