import Derived.Test.YtenclibcnjkamaaGreatEvQText
set_option linter.all false
namespace Go.Ev.G
set_option maxRecDepth 8000
set_option maxHeartbeats 4000000
set_option maxRecDepth 8000
set_option maxHeartbeats 4000000
set_option maxRecDepth 8000
set_option maxHeartbeats 4000000
abbrev noS:ByteArray:=⟨#[]⟩
set_option maxRecDepth 8000
set_option maxHeartbeats 4000000
def inB(x lo hi:Int):Bool:=decide (lo≤x)&&decide (x≤hi)
theorem dP(x lo hi:Int):call tab eK [I x,I lo,I hi]=some (B (inB x lo hi)):=by
 rw[Aq,inB]
theorem Hy(n:Int):call tab qF [I n]=some (B (inB n (-2147483648) 2147483647)):=by
 rw[aS It _ rfl,yL]
 simp -implicitDefEqProofs (disch:=first|assumption|omega|(simp only[aI,aP,aH,i64,sa,aC,lm,la,lc,ln];omega)) only[go_sem,simprocAttr,Aq,inB]
def zVt(h m:Int):Bool:= !decide (bits .and .i64 h m=0)
theorem dI(x lo hi:Int):call tab dK [I x,I lo,I hi]=some (B (inB x lo hi)):=by
 rw[wE,inB]
theorem E1(n:Int):call tab p9 [I n]=some (B (inB n (-2147483648) 2147483647)):=by
 rw[aS J2 _ rfl,yM]
 simp -implicitDefEqProofs (disch:=first|assumption|omega|(simp only[aI,aP,aH,i64,sa,aC,lm,la,lc,ln];omega)) only[go_sem,simprocAttr,wE,inB]
set_option maxRecDepth 8000
set_option maxHeartbeats 4000000
set_option maxRecDepth 8000
set_option maxHeartbeats 4000000
set_option maxRecDepth 8000
set_option maxHeartbeats 4000000
set_option maxRecDepth 8000
set_option maxHeartbeats 4000000
set_option maxRecDepth 8000
set_option maxHeartbeats 4000000
set_option maxRecDepth 8000
set_option maxHeartbeats 4000000
def zZx(n:Int):Bool:=inB n (-2147483648) 2147483647
theorem Iy(n:Int):call tab qF [I n]=some (B (zZx n)):=Hy n
theorem Jr(n:Int):call tab p9 [I n]=some (B (zZx n)):=E1 n
theorem Zj(fr k:Nat)(h:Heap)(x:Option D):bU (fr+1) (upd h (0,k) x)=upd (bU (fr+1) h) (0,k) x:=by
 funext id
 simp only[bU,upd]
 by_cases e:id=(0,k)
 ·subst e;simp
 ·simp[e]
theorem zZt{α:Type}(p:α→Bool)(l:List α):(l.any fun x=> !p x)= !l.all p:=by
 induction l with
 |nil=>rfl
 |cons x l ih=>simp[List.any_cons,List.all_cons,ih,Bool.not_and]
end Go.Ev.G
