/- Names that the walks use, in one simp set. -/
import Derived.Test.YtcoigakalblkgaaEvQInt
import Derived.Test.YtcoigakalblkgaaEvQText
set_option linter.all false
namespace Go.Ev.G
attribute [go_sem] ltT ltF leT leF neF eqT baT baF bvT bvF catT mkT appT wrap_id List.length_map Int.toNat_natCast Bool.not_not condK_n condK_bt condK_bf condK_bg guardK_nt guardK_nf guardK_tT guardK_fT guardK_tF guardK_fF guardK_tG guardK_fG pickK_n pickK_bt pickK_bf pickK_bg
end Go.Ev.G
