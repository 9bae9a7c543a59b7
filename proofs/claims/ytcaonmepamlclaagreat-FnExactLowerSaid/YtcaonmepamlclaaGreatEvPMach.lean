import Derived.Test.YtcaonmepamlclaaGreatEvQText
set_option linter.all false
namespace Go.Ev.G
set_option maxRecDepth 8000
set_option maxHeartbeats 4000000
set_option maxRecDepth 8000
set_option maxHeartbeats 4000000
set_option maxRecDepth 8000
set_option maxHeartbeats 4000000
abbrev noS:ByteArray:=⟨#[]⟩
set_option maxRecDepth 8000
set_option maxHeartbeats 4000000
def inB(x lo hi:Int):Bool:=decide (lo≤x)&&decide (x≤hi)
theorem bR(x lo hi:Int):call tab cH [I x,I lo,I hi]=some (B (inB x lo hi)):=by
 rw[Kz,inB]
theorem Ve(n:Int):call tab wQ [I n]=some (B (inB n (-2147483648) 2147483647)):=by
 rw[aJ W1 _ rfl,Il]
 simp -implicitDefEqProofs (disch:=first|assumption|omega|(simp only[aE,aQ,aD,i64,sa,aC,lm,la,lc,ln];omega)) only[go_sem,simprocAttr,Kz,inB]
def z2j(h m:Int):Bool:= !decide (bits .and .i64 h m=0)
theorem bU(x lo hi:Int):call tab cM [I x,I lo,I hi]=some (B (inB x lo hi)):=by
 rw[E5,inB]
theorem Ta(n:Int):call tab xD [I n]=some (B (inB n (-2147483648) 2147483647)):=by
 rw[aJ Xz _ rfl,I5]
 simp -implicitDefEqProofs (disch:=first|assumption|omega|(simp only[aE,aQ,aD,i64,sa,aC,lm,la,lc,ln];omega)) only[go_sem,simprocAttr,E5,inB]
theorem z3N(s:ByteArray)(k:Nat):s[k]? = s.data.toList[k]? := by
 by_cases h:k<s.size
 ·rw[getElem?_pos s k h,List.getElem?_eq_getElem (by simpa using h)];rfl
 ·rw[getElem?_neg s k h,List.getElem?_eq_none (by simpa using h)]
set_option maxRecDepth 8000
set_option maxHeartbeats 4000000
set_option maxRecDepth 8000
set_option maxHeartbeats 4000000
set_option maxRecDepth 8000
set_option maxHeartbeats 4000000
set_option maxRecDepth 8000
set_option maxHeartbeats 4000000
set_option maxRecDepth 8000
set_option maxHeartbeats 4000000
set_option maxRecDepth 8000
set_option maxHeartbeats 4000000
def z8S(n:Int):Bool:=inB n (-2147483648) 2147483647
theorem X6(n:Int):call tab wQ [I n]=some (B (z8S n)):=Ve n
theorem Yl(n:Int):call tab xD [I n]=some (B (z8S n)):=Ta n
theorem zZc(fr k:Nat)(h:Heap)(x:Option D):bS (fr+1) (upd h (0,k) x)=upd (bS (fr+1) h) (0,k) x:=by
 funext id
 simp only[bS,upd]
 by_cases e:id=(0,k)
 ·subst e;simp
 ·simp[e]
theorem z8t{α:Type}(p:α→Bool)(l:List α):(l.any fun x=> !p x)= !l.all p:=by
 induction l with
 |nil=>rfl
 |cons x l ih=>simp[List.any_cons,List.all_cons,ih,Bool.not_and]
end Go.Ev.G
