import Derived.Test.YtenclibcnjkamaaGreatEvBase
import Derived.Test.YtenclibcnjkamaaGreatEvTab
set_option linter.all false
namespace Go.Ev.G
attribute [go_sem] ltT ltF leT leF neF eqT baT baF bvT bvF z6t mkT z6q zWH List.length_map Int.toNat_natCast Bool.not_not zVV zZU zKN zZM zyo zkG zwY zyr zvk zwe zyx zkO zXG zJB zVL zxs
set_option maxRecDepth 8000
set_option maxHeartbeats 4000000
theorem zV(xs:List Int)(hx:xs.length≤1048576):∀(B A:List Int),xs=A++B →
  loopW tab [0,3,4] lL {env:=upd (upd (upd emp 4 (some (I (A.length:Int)))) 3 (some (.ref (0,0) []))) 0 (some (.d (.r (aP xs)))),heap:=upd emp (0,0) (some (.s 1 (aP A++List.replicate B.length [DI 0]))),fr:=0,next:=1}=some (.ext 0,{env:=upd emp 3 (some (.ref (0,0) [])),heap:=upd emp (0,0) (some (.s 1 (aP xs))),fr:=0,next:=1})
 |[],A,h=>by
  rw[zqe] at h
  subst h
  unfold loopW
  conv=>lhs;arg 1;unfold lL
  simp -implicitDefEqProofs (disch:=first|assumption|omega|(simp only[aE,aF,aD,i64,sa,aB,lm,la,lc,ln];omega)) only[go_sem,simprocAttr,aP,List.replicate_zero]
 |x::B,A,h=>by
  unfold loopW
  conv=>lhs;arg 1;unfold lL
  have hl:xs.length=A.length+(B.length+1):=by rw[h];simp
  have h2:(aP xs)[A.length]? = some [DI x]:=by rw[h];simp
  have ih:=zV xs hx B (A++[x]) (by simp[h])
  rw[show(((A++[x]).length:Nat):Int)=(A.length:Int)+1 by simp] at ih
  simp only[aP,List.map_append,mc,mn,zqc,List.cons_append,zqf] at ih h2
  simp -implicitDefEqProofs (disch:=first|assumption|omega|(simp only[aE,aF,aD,i64,sa,aB,lm,la,lc,ln];omega)) only[go_sem,simprocAttr,aP,lc,List.replicate_succ,xD,xI,wC,h2,ih]
theorem Mr(xs:List Int)(hx:xs.length≤1048576):call tab An [.d (.r (aP xs))]=some (.d (.s 1 (aP xs))):=by
 rw[aQ O2 _ rfl,Dh]
 have hl:=zV xs hx xs [] rfl
 simp only[aP,mn,zqf,ln,Int.cast_ofNat_Int] at hl
 simp -implicitDefEqProofs (disch:=first|assumption|omega|(simp only[aE,aF,aD,i64,sa,aB,lm,la,lc,ln];omega)) only[go_sem,simprocAttr,aP,hl]
theorem Be(xs:List Int)(hx:xs.length≤1048576):∀(B A:List Int),xs=A++B →
  loopW tab [0,1,5] lI {env:=upd (upd (upd emp 5 (some (I (A.length:Int)))) 1 (some (.d (.r (aP xs))))) 0 (some (.d (.r (aP xs)))),heap:=emp,fr:=0,next:=0}=some (.ext 0,{env:=emp,heap:=emp,fr:=0,next:=0})
 |[],A,h=>by
  rw[zqe] at h
  subst h
  unfold loopW
  conv=>lhs;arg 1;unfold lI
  simp -implicitDefEqProofs (disch:=first|assumption|omega|(simp only[aE,aF,aD,i64,sa,aB,lm,la,lc,ln];omega)) only[go_sem,simprocAttr,aP]
 |x::B,A,h=>by
  unfold loopW
  conv=>lhs;arg 1;unfold lI
  have hl:xs.length=A.length+(B.length+1):=by rw[h];simp
  have h2:(aP xs)[A.length]? = some [DI x]:=by rw[h];simp
  have ih:=Be xs hx B (A++[x]) (by simp[h])
  rw[show(((A++[x]).length:Nat):Int)=(A.length:Int)+1 by simp] at ih
  simp only[aP] at ih h2
  simp -implicitDefEqProofs (disch:=first|assumption|omega|(simp only[aE,aF,aD,i64,sa,aB,lm,la,lc,ln];omega)) only[go_sem,simprocAttr,aP,h2,ih]
theorem L6(xs:List Int)(hx:xs.length≤1048576):call tab Ba [.d (.r (aP xs)),.d (.r (aP xs))]=some (B true):=by
 rw[aQ Om _ rfl,Do]
 have hl:=Be xs hx xs [] rfl
 simp only[aP,ln,Int.cast_ofNat_Int] at hl
 simp -implicitDefEqProofs (disch:=first|assumption|omega|(simp only[aE,aF,aD,i64,sa,aB,lm,la,lc,ln];omega)) only[go_sem,simprocAttr,aP,hl]
theorem Nh(xs:List Int)(n:Int)(hn: -1≤n∧n≤1048576)(hx:xs.length≤4611686018427387904):call tab By [.d (.r (aP xs)),I n]=some (I (if n-xs.length<0 then -1 else n-xs.length)):=by
 rw[aQ Ot _ rfl,Da]
 by_cases h:n-(xs.length:Int)<0
 ·rw[if_pos h]
  simp -implicitDefEqProofs (disch:=first|assumption|omega|(simp only[aE,aF,aD,i64,sa,aB,lm,la,lc,ln];omega)) only[go_sem,simprocAttr,aP,h]
 ·rw[if_neg h]
  simp -implicitDefEqProofs (disch:=first|assumption|omega|(simp only[aE,aF,aD,i64,sa,aB,lm,la,lc,ln];omega)) only[go_sem,simprocAttr,aP,h]
def pI:Int→List Int→List Int
 |_,[]=>[]
 |k,_::ns=>k::pI (k+1) ns
theorem Ro:∀(k:Int) (ns:List Int),(pI k ns).length=ns.length
 |_,[]=>rfl
 |k,_::ns=>by simp[pI,Ro (k+1) ns]
theorem uW:∀(B A:List Int) (k:Int),A.length+B.length≤1099511627776→0≤k∧k+B.length≤4611686018427387904 →
  loopW tab [0,1,5] jC {env:=upd (upd (upd emp 5 (some (I (A.length:Int)))) 1 (some (I k))) 0 (some (.ref (0,0) [])),heap:=upd emp (0,0) (some (.s 1 (A.map (fun n=>[DI n])++B.map (fun n=>[DI n])))),fr:=1,next:=0}=some (.ext 0,{env:=upd emp 1 (some (I (k+B.length))),heap:=upd emp (0,0) (some (.s 1 (A.map (fun n=>[DI n])++(pI k B).map (fun n=>[DI n])))),fr:=1,next:=0})
 |[],A,k,h,hk=>by
  unfold loopW
  conv=>lhs;arg 1;unfold jC
  simp -implicitDefEqProofs (disch:=first|assumption|omega|(simp only[aE,aF,aD,i64,sa,aB,lm,la,lc,ln];omega)) only[go_sem,simprocAttr,pI,Int.add_zero]
 |x::B,A,k,h,hk=>by
  unfold loopW
  conv=>lhs;arg 1;unfold jC
  simp only[lc] at h hk
  have ih:=uW B (A++[k]) (k+1) (by simp;omega) (by omega)
  rw[show(((A++[k]).length:Nat):Int)=(A.length:Int)+1 by simp,show k+1+(B.length:Int)=k+((B.length+1:Nat):Int) by omega] at ih
  simp only[List.map_append,mc,mn,zqc,List.cons_append,zqf] at ih
  simp -implicitDefEqProofs (disch:=first|assumption|omega|(simp only[aE,aF,aD,i64,sa,aB,lm,la,lc,ln];omega)) only[go_sem,simprocAttr,pI,lc,xD,xI,wC,ih]
theorem Hh(ns:List Int)(k:Int)(h:ns.length≤1099511627776)(hk:0≤k∧k+ns.length≤4611686018427387904):evCW tab sX [.ref (0,0) [],I k] (upd emp (0,0) (some (.s 1 (aP ns)))) 1=some (I (k+ns.length),upd emp (0,0) (some (.s 1 (aP (pI k ns))))):=by
 rw[bU Jd _ _ _ rfl,yK]
 have hl:=uW ns [] k (by simpa using h) hk
 simp only[mn,zqf,ln,Int.cast_ofNat_Int] at hl
 simp -implicitDefEqProofs (disch:=first|assumption|omega|(simp only[aE,aF,aD,i64,sa,aB,lm,la,lc,ln];omega)) only[go_sem,simprocAttr,aP,hl]
theorem vJ(full:List (List D)):∀(B A:List Int) (k:Int),full=A.map (fun n=>[DI n])++(pI k B).map (fun n=>[DI n])→A.length+B.length≤1099511627776→0≤k∧k+B.length≤4611686018427387904 →
  loopW tab [0,1,5] i4 {env:=upd (upd (upd emp 5 (some (I (A.length:Int)))) 1 (some (I k))) 0 (some (.d (.r full))),heap:=emp,fr:=0,next:=0}=some (.ext 0,{env:=upd emp 1 (some (I (k+B.length))),heap:=emp,fr:=0,next:=0})
 |[],A,k,hf,h,hk=>by
  subst hf
  unfold loopW
  conv=>lhs;arg 1;unfold i4
  simp -implicitDefEqProofs (disch:=first|assumption|omega|(simp only[aE,aF,aD,i64,sa,aB,lm,la,lc,ln];omega)) only[go_sem,simprocAttr,pI,Int.add_zero,zqe]
 |x::B,A,k,hf,h,hk=>by
  simp only[lc] at h hk
  have ih:=vJ full B (A++[k]) (k+1) (by rw[hf];simp[pI]) (by simp;omega) (by omega)
  subst hf
  unfold loopW
  conv=>lhs;arg 1;unfold i4
  rw[show(((A++[k]).length:Nat):Int)=(A.length:Int)+1 by simp,show k+1+(B.length:Int)=k+((B.length+1:Nat):Int) by omega] at ih
  simp only[pI,mc] at ih
  simp -implicitDefEqProofs (disch:=first|assumption|omega|(simp only[aE,aF,aD,i64,sa,aB,lm,la,lc,ln];omega)) only[go_sem,simprocAttr,pI,lc,xD,xI,wC,ih,mc,Ro]
theorem Gi(ns:List Int)(k:Int)(h:ns.length≤1099511627776)(hk:0≤k∧k+ns.length≤4611686018427387904):call tab tX [.d (.r (aP (pI k ns))),I k]=some (I (k+ns.length)):=by
 rw[aQ Ji _ rfl,xW]
 have hl:=vJ _ ns [] k rfl (by simpa using h) hk
 simp only[mn,zqf,ln,Int.cast_ofNat_Int] at hl
 simp -implicitDefEqProofs (disch:=first|assumption|omega|(simp only[aE,aF,aD,i64,sa,aB,lm,la,lc,ln];omega)) only[go_sem,simprocAttr,aP,hl]
set_option maxRecDepth 4000
set_option maxHeartbeats 2000000
theorem E7(x lo hi:Int):call tab dX [I x,I lo,I hi]=some (B (decide (lo≤x)&&decide (x≤hi))):=by
 rw[aQ Ve _ rfl,Ic]
 by_cases h:lo≤x
 ·simp only[go_sem,Nat.reduceEqDiff,Nat.reduceBEq,Nat.reduceAdd,Nat.reduceSub,Nat.reduceMul,Nat.reduceLeDiff,Nat.reduceLT,↓reduceIte,reduceCtorEq,Int.reduceEq,Int.reduceLE,Int.reduceLT,Int.reduceToNat,Int.reduceNeg,Int.reduceSub,Int.reduceAdd,Int.reduceMul,h]
 ·simp only[go_sem,Nat.reduceEqDiff,Nat.reduceBEq,Nat.reduceAdd,Nat.reduceSub,Nat.reduceMul,Nat.reduceLeDiff,Nat.reduceLT,↓reduceIte,reduceCtorEq,Int.reduceEq,Int.reduceLE,Int.reduceLT,Int.reduceToNat,Int.reduceNeg,Int.reduceSub,Int.reduceAdd,Int.reduceMul,h]
theorem zE(x lo hi:Int):call tab cX [I x,I lo,I hi]=some (B (decide (lo≤x)&&decide (x≤hi))):=by
 rw[aQ Qb _ rfl,Dg]
 by_cases h:lo≤x
 ·simp only[go_sem,Nat.reduceEqDiff,Nat.reduceBEq,Nat.reduceAdd,Nat.reduceSub,Nat.reduceMul,Nat.reduceLeDiff,Nat.reduceLT,↓reduceIte,reduceCtorEq,Int.reduceEq,Int.reduceLE,Int.reduceLT,Int.reduceToNat,Int.reduceNeg,Int.reduceSub,Int.reduceAdd,Int.reduceMul,h]
 ·simp only[go_sem,Nat.reduceEqDiff,Nat.reduceBEq,Nat.reduceAdd,Nat.reduceSub,Nat.reduceMul,Nat.reduceLeDiff,Nat.reduceLT,↓reduceIte,reduceCtorEq,Int.reduceEq,Int.reduceLE,Int.reduceLT,Int.reduceToNat,Int.reduceNeg,Int.reduceSub,Int.reduceAdd,Int.reduceMul,h]
def D5(n:Nat):ByteArray:=if n<10 then⟨#[UInt8.ofNat (48+n)]⟩ else D5 (n / 10)++⟨#[UInt8.ofNat (48+n % 10)]⟩
def Vv(n:Nat):ByteArray:=if n=0 then⟨#[]⟩ else D5 n
theorem zyF:∀(k n:Nat),n<10 ^ (k+1)→(D5 n).size≤k+1:=by
 intro k
 induction k with
 |zero =>
  intro n h
  unfold D5
  rw[if_pos (by simpa using h)]
  simp[ByteArray.size]
 |succ k ih =>
  intro n h
  unfold D5
  split
  ·simp[ByteArray.size]
  ·rw[sa]
   have:=ih (n / 10) (by
    rw[Nat.div_lt_iff_lt_mul (by omega)]
    rw[Nat.pow_succ] at h
    exact h)
   have h1:(⟨#[UInt8.ofNat (48+n % 10)]⟩:ByteArray).size=1:=rfl
   omega
theorem Zw{n:Nat}(h:n≤9223372036854775808):(D5 n).size≤19:=zyF 18 n (by omega)
theorem zkM{m:Nat}(h:m≠0):Vv m=Vv (m / 10)++⟨#[UInt8.ofNat (48+m % 10)]⟩:=by
 unfold Vv
 rw[if_neg h]
 rw[D5]
 split
 ·rename_i h1
  rw[if_pos (by omega)]
  have:m % 10=m:=by omega
  rw[this]
  rfl
 ·rename_i h1
  rw[if_neg (by omega)]
theorem Zl(m:Nat)(x:Int)(hx:x=((m % 10:Nat):Int)):ByteArray.empty.push (UInt8.ofNat (IntKind.u8.wrap (IntKind.i64.wrap (48+x))).toNat)=⟨#[UInt8.ofNat (48+m % 10)]⟩:=by
 subst hx
 rw[w64 (by constructor<;>omega),wu8 (by omega)]
 have:(48+((m % 10:Nat):Int)).toNat=48+m % 10:=by omega
 rw[this]
 rfl
theorem zKJ(b:UInt8):(⟨#[b]⟩:ByteArray).size=1:=rfl
set_option maxRecDepth 8000
set_option maxHeartbeats 4000000
def Pn(k:Int):ByteArray:=⟨#[109]⟩++D5 k.toNat
theorem Ha:∀(m n:Nat) (out:ByteArray),n=m→(n:Int)≤9223372036854775807→out.size+(Vv n).size≤100 →
  loopW tab [0,3] mJ {env:=upd (upd emp 3 (some (Str out))) 0 (some (I (n:Int))),heap:=emp,fr:=0,next:=0}=some (.ext 0,{env:=upd emp 3 (some (Str (Vv n++out))),heap:=emp,fr:=0,next:=0}):=by
 intro m
 induction m using Nat.strongRecOn with
 |_ m ih =>
  intro n out hm hn hs
  unfold loopW
  conv=>lhs;arg 1;unfold mJ
  by_cases h0:n=0
  ·subst h0
   have h1:(⟨#[]⟩:ByteArray)++out=out:=ByteArray.empty_append
   simp -implicitDefEqProofs (disch:=first|assumption|omega|(simp only[aE,aF,aD,i64,sa,aB,lm,la,lc,ln];omega)) only[go_sem,simprocAttr,Vv,h1]
  ·have hd:=zkM h0
   rw[hd,sa,zKJ] at hs
   have hc:∀b,aE ⟨#[b]⟩ out:=fun b=>by show 1+out.size≤_;omega
   have h1:(n:Int).tmod 10=((n % 10:Nat):Int):=by
    have:=Ci (n:=(n:Int)) (by omega) 10
    simpa using this
   have h2:(n:Int).tdiv 10=((n / 10:Nat):Int):=by
    have:=zqr (n:=(n:Int)) (by omega) 10
    simpa using this
   have e2:IntKind.i64.wrap ((n / 10:Nat):Int)=((n / 10:Nat):Int):=w64 (by constructor<;>omega)
   have h3:=Zl n ((n:Int).tmod 10) h1
   rw[h1] at h3
   have ih':=ih (n / 10) (by omega) (n / 10) (⟨#[UInt8.ofNat (48+n % 10)]⟩++out) rfl (by omega) (by rw[sa,zKJ];omega)
   have hg:(0:Int)<(n:Int):=by omega
   simp only[go_sem,Nat.reduceEqDiff,Nat.reduceBEq,Nat.reduceAdd,Nat.reduceSub,Nat.reduceMul,Nat.reduceLeDiff,Nat.reduceLT,↓reduceIte,reduceCtorEq,Int.reduceEq,Int.reduceLE,Int.reduceLT,Int.reduceToNat,Int.reduceNeg,Int.reduceSub,Int.reduceAdd,Int.reduceMul,hg,h1,h2,e2,hc,zwI,List.foldl_cons,List.foldl_nil,h3,zKJ]
   rw[ih',hd,ByteArray.append_assoc]
theorem kG(k:Int)(hk:0≤k∧k≤4611686018427387904):call tab iS [I k]=some (Str (Pn k)):=by
 rw[aQ Jn _ rfl,xV]
 by_cases h0:k≤0
 ·have:k=0:=by omega
  subst this
  have h1:Pn 0=⟨#[109,48]⟩:=by unfold Pn D5;rfl
  simp -implicitDefEqProofs (disch:=first|assumption|omega|(simp only[aE,aF,aD,i64,sa,aB,lm,la,lc,ln];omega)) only[go_sem,simprocAttr,h1]
 ·have hsz:=Zw (n:=k.toNat) (by omega)
  have hd0:Vv k.toNat=D5 k.toNat:=by unfold Vv;rw[if_neg (by omega)]
  have hl:=Ha k.toNat k.toNat ⟨#[]⟩ rfl (by omega) (by rw[hd0];have:(⟨#[]⟩:ByteArray).size=0:=rfl;omega)
  rw[show((k.toNat:Nat):Int)=k by omega,hd0,show D5 k.toNat++(⟨#[]⟩:ByteArray)=D5 k.toNat from ByteArray.append_empty] at hl
  have hc:aE ⟨#[109]⟩ (D5 k.toNat):=by show 1+(D5 k.toNat).size≤_;omega
  have h1:Pn k=⟨#[109]⟩++D5 k.toNat:=rfl
  simp -implicitDefEqProofs (disch:=first|assumption|omega|(simp only[aE,aF,aD,i64,sa,aB,lm,la,lc,ln];omega)) only[go_sem,simprocAttr,h0,hl,hc,h1]
end Go.Ev.G
