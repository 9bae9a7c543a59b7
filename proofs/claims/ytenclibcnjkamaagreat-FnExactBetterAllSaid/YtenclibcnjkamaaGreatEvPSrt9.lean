import Derived.Test.YtenclibcnjkamaaGreatEvBase
import Derived.Test.YtenclibcnjkamaaGreatEvPLiv5
set_option linter.all false
namespace Go.Ev.G
set_option maxRecDepth 8000
set_option maxHeartbeats 4000000
variable{H0:Heap}{kd kf fc:Nat}
abbrev cl(fc kf:Nat):X:= .clo fc [.ptr (0,kf) [] 0 0]
theorem oJ(zs:List Int)(j:Nat)(z:Int):(aP zs).set j [DI z]=aP (zs.set j z):=by simp[aP,List.map_set]
set_option maxRecDepth 8000
set_option maxHeartbeats 4000000
variable{H0:Heap}{kd kf fc:Nat}
abbrev gO(zs:List Int)(k:Int):Int:=(zs[k.toNat]?).getD 0
theorem fF{zs:List Int}{k:Int}(h0:0≤k)(h:k<zs.length):(aP zs)[k.toNat]? = some [DI (gO zs k)]∧gO zs k∈zs:=by
 have e:=List.getElem?_eq_getElem (l:=zs) (i:=k.toNat) (by omega)
 refine⟨by simp[aP,gO,e],?_⟩
 simp only[gO,e,Option.getD_some]
 exact List.getElem_mem _
set_option maxRecDepth 8000
set_option maxHeartbeats 4000000
variable{H0:Heap}{kd kf fc:Nat}
set_option maxRecDepth 8000
set_option maxHeartbeats 8000000
variable{H0:Heap}{kd kf fc:Nat}
set_option maxRecDepth 8000
set_option maxHeartbeats 8000000
variable{H0:Heap}{kd kf fc:Nat}
set_option maxRecDepth 8000
set_option maxHeartbeats 8000000
variable{H0:Heap}{kd kf fc:Nat}
set_option maxRecDepth 8000
set_option maxHeartbeats 8000000
variable{H0:Heap}{kd kf fc:Nat}
set_option maxRecDepth 8000
set_option maxHeartbeats 8000000
variable{H0:Heap}{kd kf fc:Nat}
end Go.Ev.G
