import Derived.Test.YtenclibcnjkamaaGreatEvPUnit2
import Derived.Test.YtenclibcnjkamaaGreatEvPHom13
set_option linter.all false
namespace Go.Ev.G
set_option maxRecDepth 8000
set_option maxHeartbeats 4000000
set_option maxRecDepth 8000
set_option maxHeartbeats 8000000
set_option maxRecDepth 8000
set_option maxHeartbeats 8000000
end Go.Ev.G
