import Derived.Test.YtenclibcnjkamaaGreatEvBase
import Derived.Test.YtenclibcnjkamaaGreatEvTab
set_option linter.all false
namespace Go.Ev.G
attribute [go_sem] ltT ltF leT leF neF eqT baT baF bvT bvF zYj mkT zYi An List.length_map Int.toNat_natCast Bool.not_not zZu zq8 zk4 zyU zqU zj4 zza zj1 zzt zjZ zzz zzD zQK zwR zwy zyk
set_option maxRecDepth 8000
set_option maxHeartbeats 4000000
theorem vJ(xs:List Int)(hx:xs.length≤1048576):∀(B A:List Int),xs=A++B →
  loopW tab [0,3,4] kQ {env:=upd (upd (upd emp 4 (some (I (A.length:Int)))) 3 (some (.ref (0,0) []))) 0 (some (.d (.r (aK xs)))),heap:=upd emp (0,0) (some (.s 1 (aK A++List.replicate B.length [DI 0]))),fr:=0,next:=1}=some (.ext 0,{env:=upd emp 3 (some (.ref (0,0) [])),heap:=upd emp (0,0) (some (.s 1 (aK xs))),fr:=0,next:=1})
 |[],A,h=>by
  rw[List.append_nil] at h
  subst h
  unfold loopW
  conv=>lhs;arg 1;unfold kQ
  simp -implicitDefEqProofs (disch:=first|assumption|omega|(simp only[aI,aP,aH,i64,sa,aC,lm,la,lc,ln];omega)) only[go_sem,simprocAttr,aK,List.replicate_zero]
 |x::B,A,h=>by
  unfold loopW
  conv=>lhs;arg 1;unfold kQ
  have hl:xs.length=A.length+(B.length+1):=by rw[h];simp
  have h2:(aK xs)[A.length]? = some [DI x]:=by rw[h];simp
  have ih:=vJ xs hx B (A++[x]) (by simp[h])
  rw[show(((A++[x]).length:Nat):Int)=(A.length:Int)+1 by simp] at ih
  simp only[aK,List.map_append,mc,mn,List.append_assoc,List.cons_append,List.nil_append] at ih h2
  simp -implicitDefEqProofs (disch:=first|assumption|omega|(simp only[aI,aP,aH,i64,sa,aC,lm,la,lc,ln];omega)) only[go_sem,simprocAttr,aK,lc,List.replicate_succ,Nx,N7,Ll,h2,ih]
theorem Gs(xs:List Int)(hx:xs.length≤1048576):call tab wH [.d (.r (aK xs))]=some (.d (.s 1 (aK xs))):=by
 rw[aS Ik _ rfl,yB]
 have hl:=vJ xs hx xs [] rfl
 simp only[aK,mn,List.nil_append,ln,Int.cast_ofNat_Int] at hl
 simp -implicitDefEqProofs (disch:=first|assumption|omega|(simp only[aI,aP,aH,i64,sa,aC,lm,la,lc,ln];omega)) only[go_sem,simprocAttr,aK,hl]
theorem w9(xs:List Int)(hx:xs.length≤1048576):∀(B A:List Int),xs=A++B →
  loopW tab [0,1,5] kS {env:=upd (upd (upd emp 5 (some (I (A.length:Int)))) 1 (some (.d (.r (aK xs))))) 0 (some (.d (.r (aK xs)))),heap:=emp,fr:=0,next:=0}=some (.ext 0,{env:=emp,heap:=emp,fr:=0,next:=0})
 |[],A,h=>by
  rw[List.append_nil] at h
  subst h
  unfold loopW
  conv=>lhs;arg 1;unfold kS
  simp -implicitDefEqProofs (disch:=first|assumption|omega|(simp only[aI,aP,aH,i64,sa,aC,lm,la,lc,ln];omega)) only[go_sem,simprocAttr,aK]
 |x::B,A,h=>by
  unfold loopW
  conv=>lhs;arg 1;unfold kS
  have hl:xs.length=A.length+(B.length+1):=by rw[h];simp
  have h2:(aK xs)[A.length]? = some [DI x]:=by rw[h];simp
  have ih:=w9 xs hx B (A++[x]) (by simp[h])
  rw[show(((A++[x]).length:Nat):Int)=(A.length:Int)+1 by simp] at ih
  simp only[aK] at ih h2
  simp -implicitDefEqProofs (disch:=first|assumption|omega|(simp only[aI,aP,aH,i64,sa,aC,lm,la,lc,ln];omega)) only[go_sem,simprocAttr,aK,h2,ih]
theorem Hr(xs:List Int)(hx:xs.length≤1048576):call tab vY [.d (.r (aK xs)),.d (.r (aK xs))]=some (B true):=by
 rw[aS Ix _ rfl,yJ]
 have hl:=w9 xs hx xs [] rfl
 simp only[aK,ln,Int.cast_ofNat_Int] at hl
 simp -implicitDefEqProofs (disch:=first|assumption|omega|(simp only[aI,aP,aH,i64,sa,aC,lm,la,lc,ln];omega)) only[go_sem,simprocAttr,aK,hl]
theorem Gd(xs:List Int)(n:Int)(hn: -1≤n∧n≤1048576)(hx:xs.length≤4611686018427387904):call tab wG [.d (.r (aK xs)),I n]=some (I (if n-xs.length<0 then -1 else n-xs.length)):=by
 rw[aS Jz _ rfl,x5]
 by_cases h:n-(xs.length:Int)<0
 ·rw[if_pos h]
  simp -implicitDefEqProofs (disch:=first|assumption|omega|(simp only[aI,aP,aH,i64,sa,aC,lm,la,lc,ln];omega)) only[go_sem,simprocAttr,aK,h]
 ·rw[if_neg h]
  simp -implicitDefEqProofs (disch:=first|assumption|omega|(simp only[aI,aP,aH,i64,sa,aC,lm,la,lc,ln];omega)) only[go_sem,simprocAttr,aK,h]
set_option maxRecDepth 4000
set_option maxHeartbeats 2000000
theorem Aq(x lo hi:Int):call tab eK [I x,I lo,I hi]=some (B (decide (lo≤x)&&decide (x≤hi))):=by
 rw[aS Qh _ rfl,Dk]
 by_cases h:lo≤x
 ·simp only[go_sem,Nat.reduceEqDiff,Nat.reduceBEq,Nat.reduceAdd,Nat.reduceSub,Nat.reduceMul,Nat.reduceLeDiff,Nat.reduceLT,↓reduceIte,reduceCtorEq,Int.reduceEq,Int.reduceLE,Int.reduceLT,Int.reduceToNat,Int.reduceNeg,Int.reduceSub,Int.reduceAdd,Int.reduceMul,h]
 ·simp only[go_sem,Nat.reduceEqDiff,Nat.reduceBEq,Nat.reduceAdd,Nat.reduceSub,Nat.reduceMul,Nat.reduceLeDiff,Nat.reduceLT,↓reduceIte,reduceCtorEq,Int.reduceEq,Int.reduceLE,Int.reduceLT,Int.reduceToNat,Int.reduceNeg,Int.reduceSub,Int.reduceAdd,Int.reduceMul,h]
theorem wE(x lo hi:Int):call tab dK [I x,I lo,I hi]=some (B (decide (lo≤x)&&decide (x≤hi))):=by
 rw[aS Iw _ rfl,yH]
 by_cases h:lo≤x
 ·simp only[go_sem,Nat.reduceEqDiff,Nat.reduceBEq,Nat.reduceAdd,Nat.reduceSub,Nat.reduceMul,Nat.reduceLeDiff,Nat.reduceLT,↓reduceIte,reduceCtorEq,Int.reduceEq,Int.reduceLE,Int.reduceLT,Int.reduceToNat,Int.reduceNeg,Int.reduceSub,Int.reduceAdd,Int.reduceMul,h]
 ·simp only[go_sem,Nat.reduceEqDiff,Nat.reduceBEq,Nat.reduceAdd,Nat.reduceSub,Nat.reduceMul,Nat.reduceLeDiff,Nat.reduceLT,↓reduceIte,reduceCtorEq,Int.reduceEq,Int.reduceLE,Int.reduceLT,Int.reduceToNat,Int.reduceNeg,Int.reduceSub,Int.reduceAdd,Int.reduceMul,h]
set_option maxRecDepth 8000
set_option maxHeartbeats 4000000
end Go.Ev.G
