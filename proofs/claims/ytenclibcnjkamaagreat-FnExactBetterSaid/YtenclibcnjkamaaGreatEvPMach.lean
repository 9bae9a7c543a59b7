import Derived.Test.YtenclibcnjkamaaGreatEvQText
set_option linter.all false
namespace Go.Ev.G
set_option maxRecDepth 8000
set_option maxHeartbeats 4000000
set_option maxRecDepth 8000
set_option maxHeartbeats 4000000
set_option maxRecDepth 8000
set_option maxHeartbeats 4000000
abbrev noS:ByteArray:=⟨#[]⟩
set_option maxRecDepth 8000
set_option maxHeartbeats 4000000
def inB(x lo hi:Int):Bool:=decide (lo≤x)&&decide (x≤hi)
theorem cW(x lo hi:Int):call tab dL [I x,I lo,I hi]=some (B (inB x lo hi)):=by
 rw[D7,inB]
theorem Ji(n:Int):call tab qL [I n]=some (B (inB n (-2147483648) 2147483647)):=by
 rw[aQ Ln _ rfl,A1]
 simp -implicitDefEqProofs (disch:=first|assumption|omega|(simp only[aE,aF,aD,i64,sa,aB,lm,la,lc,ln];omega)) only[go_sem,simprocAttr,D7,inB]
def zVO(h m:Int):Bool:= !decide (bits .and .i64 h m=0)
theorem cO(x lo hi:Int):call tab cS [I x,I lo,I hi]=some (B (inB x lo hi)):=by
 rw[zN,inB]
theorem J1(n:Int):call tab q7 [I n]=some (B (inB n (-2147483648) 2147483647)):=by
 rw[aQ Lb _ rfl,A5]
 simp -implicitDefEqProofs (disch:=first|assumption|omega|(simp only[aE,aF,aD,i64,sa,aB,lm,la,lc,ln];omega)) only[go_sem,simprocAttr,zN,inB]
set_option maxRecDepth 8000
set_option maxHeartbeats 4000000
set_option maxRecDepth 8000
set_option maxHeartbeats 4000000
set_option maxRecDepth 8000
set_option maxHeartbeats 4000000
set_option maxRecDepth 8000
set_option maxHeartbeats 4000000
set_option maxRecDepth 8000
set_option maxHeartbeats 4000000
set_option maxRecDepth 8000
set_option maxHeartbeats 4000000
def zV3(n:Int):Bool:=inB n (-2147483648) 2147483647
theorem K5(n:Int):call tab qL [I n]=some (B (zV3 n)):=Ji n
theorem Nb(n:Int):call tab q7 [I n]=some (B (zV3 n)):=J1 n
theorem zz8(fr k:Nat)(h:Heap)(x:Option D):bA (fr+1) (upd h (0,k) x)=upd (bA (fr+1) h) (0,k) x:=by
 funext id
 simp only[bA,upd]
 by_cases e:id=(0,k)
 ·subst e;simp
 ·simp[e]
theorem zQ2{α:Type}(p:α→Bool)(l:List α):(l.any fun x=> !p x)= !l.all p:=by
 induction l with
 |nil=>rfl
 |cons x l ih=>simp[List.any_cons,List.all_cons,ih,Bool.not_and]
end Go.Ev.G
