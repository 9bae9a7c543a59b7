import Derived.Test.YtenclibcnjkamaaGreatEvBase
import Derived.Test.YtenclibcnjkamaaGreatEvPLiv5
set_option linter.all false
namespace Go.Ev.G
set_option maxRecDepth 8000
set_option maxHeartbeats 4000000
variable{H0:Heap}{kd kf fc:Nat}
abbrev cl(fc kf:Nat):X:= .clo fc [.ptr (0,kf) [] 0 0]
theorem nG(zs:List Int)(j:Nat)(z:Int):(aP zs).set j [DI z]=aP (zs.set j z):=by simp[aP,List.map_set]
set_option maxRecDepth 8000
set_option maxHeartbeats 4000000
variable{H0:Heap}{kd kf fc:Nat}
abbrev gL(zs:List Int)(k:Int):Int:=(zs[k.toNat]?).getD 0
theorem eQ{zs:List Int}{k:Int}(h0:0≤k)(h:k<zs.length):(aP zs)[k.toNat]? = some [DI (gL zs k)]∧gL zs k∈zs:=by
 have e:=List.getElem?_eq_getElem (l:=zs) (i:=k.toNat) (by omega)
 refine⟨by simp[aP,gL,e],?_⟩
 simp only[gL,e,Option.getD_some]
 exact List.getElem_mem _
end Go.Ev.G
