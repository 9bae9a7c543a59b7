/- Names of trees' fields, in the walks' simp set. -/
import Derived.Test.YtcoigakalblkgaaEvPMach
import Derived.Test.YtcoigakalblkgaaEvQToken
import Derived.Test.YtcoigakalblkgaaEvQFunc
set_option linter.all false
namespace Go.Ev.G
attribute [go_sem] TNode.op_mk TNode.tx_mk TNode.v_mk TNode.ks_mk
end Go.Ev.G
