/- Functions of slices that take a function: written by gensl.py. -/
import Derived.Test.YtcoigakalblkgaaEvQIns
import Derived.Test.YtcoigakalblkgaaEvQMachine
set_option linter.all false
namespace Go.Ev.G
set_option maxRecDepth 8000
set_option maxHeartbeats 4000000
end Go.Ev.G
