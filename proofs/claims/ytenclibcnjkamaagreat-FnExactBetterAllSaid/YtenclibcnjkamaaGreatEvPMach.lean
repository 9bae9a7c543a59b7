import Derived.Test.YtenclibcnjkamaaGreatEvQText
set_option linter.all false
namespace Go.Ev.G
set_option maxRecDepth 8000
set_option maxHeartbeats 4000000
set_option maxRecDepth 8000
set_option maxHeartbeats 4000000
set_option maxRecDepth 8000
set_option maxHeartbeats 4000000
abbrev noS:ByteArray:=⟨#[]⟩
set_option maxRecDepth 8000
set_option maxHeartbeats 4000000
def inB(x lo hi:Int):Bool:=decide (lo≤x)&&decide (x≤hi)
theorem dC(x lo hi:Int):call tab dX [I x,I lo,I hi]=some (B (inB x lo hi)):=by
 rw[E7,inB]
theorem Ko(n:Int):call tab sL [I n]=some (B (inB n (-2147483648) 2147483647)):=by
 rw[aQ Oz _ rfl,De]
 simp -implicitDefEqProofs (disch:=first|assumption|omega|(simp only[aE,aF,aD,i64,sa,aB,lm,la,lc,ln];omega)) only[go_sem,simprocAttr,E7,inB]
def zYj(h m:Int):Bool:= !decide (bits .and .i64 h m=0)
theorem cT(x lo hi:Int):call tab cX [I x,I lo,I hi]=some (B (inB x lo hi)):=by
 rw[zE,inB]
theorem Ns(n:Int):call tab r7 [I n]=some (B (inB n (-2147483648) 2147483647)):=by
 rw[aQ Og _ rfl,Dq]
 simp -implicitDefEqProofs (disch:=first|assumption|omega|(simp only[aE,aF,aD,i64,sa,aB,lm,la,lc,ln];omega)) only[go_sem,simprocAttr,zE,inB]
set_option maxRecDepth 8000
set_option maxHeartbeats 4000000
set_option maxRecDepth 8000
set_option maxHeartbeats 4000000
set_option maxRecDepth 8000
set_option maxHeartbeats 4000000
set_option maxRecDepth 8000
set_option maxHeartbeats 4000000
set_option maxRecDepth 8000
set_option maxHeartbeats 4000000
set_option maxRecDepth 8000
set_option maxHeartbeats 4000000
def zYT(n:Int):Bool:=inB n (-2147483648) 2147483647
theorem Ol(n:Int):call tab sL [I n]=some (B (zYT n)):=Ko n
theorem Pm(n:Int):call tab r7 [I n]=some (B (zYT n)):=Ns n
theorem zku(fr k:Nat)(h:Heap)(x:Option D):a8 (fr+1) (upd h (0,k) x)=upd (a8 (fr+1) h) (0,k) x:=by
 funext id
 simp only[a8,upd]
 by_cases e:id=(0,k)
 ·subst e;simp
 ·simp[e]
theorem zYy{α:Type}(p:α→Bool)(l:List α):(l.any fun x=> !p x)= !l.all p:=by
 induction l with
 |nil=>rfl
 |cons x l ih=>simp[List.any_cons,List.all_cons,ih,Bool.not_and]
end Go.Ev.G
