import Derived.Test.YtcaonmepamlclaaGreatEvBase
import Derived.Test.YtcaonmepamlclaaGreatEvTab
set_option linter.all false
namespace Go.Ev.G
attribute [go_sem] ltT ltF leT leF neF eqT baT baF bvT bvF z1D mkT z1p z66 List.length_map Int.toNat_natCast Bool.not_not z5C zYH zW5 zYK zZK zJM zJJ zKL zQj zKQ zKV zKq z5a zXM zXL zY3
set_option maxRecDepth 8000
set_option maxHeartbeats 4000000
theorem G7(xs:List Int)(hx:xs.length≤1048576):∀(B A:List Int),xs=A++B →
  loopW tab [0,1,5] n7 {env:=upd (upd (upd emp 5 (some (I (A.length:Int)))) 1 (some (.d (.r (bB xs))))) 0 (some (.d (.r (bB xs)))),heap:=emp,fr:=0,next:=0}=some (.ext 0,{env:=emp,heap:=emp,fr:=0,next:=0})
 |[],A,h=>by
  rw[List.append_nil] at h
  subst h
  unfold loopW
  conv=>lhs;arg 1;unfold n7
  simp -implicitDefEqProofs (disch:=first|assumption|omega|(simp only[aE,aQ,aD,i64,sa,aC,lm,la,lc,ln];omega)) only[go_sem,simprocAttr,bB]
 |x::B,A,h=>by
  unfold loopW
  conv=>lhs;arg 1;unfold n7
  have hl:xs.length=A.length+(B.length+1):=by rw[h];simp
  have h2:(bB xs)[A.length]? = some [DI x]:=by rw[h];simp
  have ih:=G7 xs hx B (A++[x]) (by simp[h])
  rw[show(((A++[x]).length:Nat):Int)=(A.length:Int)+1 by simp] at ih
  simp only[bB] at ih h2
  simp -implicitDefEqProofs (disch:=first|assumption|omega|(simp only[aE,aQ,aD,i64,sa,aC,lm,la,lc,ln];omega)) only[go_sem,simprocAttr,bB,h2,ih]
theorem Ut(xs:List Int)(hx:xs.length≤1048576):call tab Ew [.d (.r (bB xs)),.d (.r (bB xs))]=some (B true):=by
 rw[aJ Yk _ rfl,Iw]
 have hl:=G7 xs hx xs [] rfl
 simp only[bB,ln,Int.cast_ofNat_Int] at hl
 simp -implicitDefEqProofs (disch:=first|assumption|omega|(simp only[aE,aQ,aD,i64,sa,aC,lm,la,lc,ln];omega)) only[go_sem,simprocAttr,bB,hl]
def tO:Int→List Int→List Int
 |_,[]=>[]
 |k,_::ns=>k::tO (k+1) ns
theorem Zu:∀(k:Int) (ns:List Int),(tO k ns).length=ns.length
 |_,[]=>rfl
 |k,_::ns=>by simp[tO,Zu (k+1) ns]
theorem Ac:∀(B A:List Int) (k:Int),A.length+B.length≤1099511627776→0≤k∧k+B.length≤4611686018427387904 →
  loopW tab [0,1,5] lJ {env:=upd (upd (upd emp 5 (some (I (A.length:Int)))) 1 (some (I k))) 0 (some (.ref (0,0) [])),heap:=upd emp (0,0) (some (.s 1 (A.map (fun n=>[DI n])++B.map (fun n=>[DI n])))),fr:=1,next:=0}=some (.ext 0,{env:=upd emp 1 (some (I (k+B.length))),heap:=upd emp (0,0) (some (.s 1 (A.map (fun n=>[DI n])++(tO k B).map (fun n=>[DI n])))),fr:=1,next:=0})
 |[],A,k,h,hk=>by
  unfold loopW
  conv=>lhs;arg 1;unfold lJ
  simp -implicitDefEqProofs (disch:=first|assumption|omega|(simp only[aE,aQ,aD,i64,sa,aC,lm,la,lc,ln];omega)) only[go_sem,simprocAttr,tO,Int.add_zero]
 |x::B,A,k,h,hk=>by
  unfold loopW
  conv=>lhs;arg 1;unfold lJ
  simp only[lc] at h hk
  have ih:=Ac B (A++[k]) (k+1) (by simp;omega) (by omega)
  rw[show(((A++[k]).length:Nat):Int)=(A.length:Int)+1 by simp,show k+1+(B.length:Int)=k+((B.length+1:Nat):Int) by omega] at ih
  simp only[List.map_append,mc,mn,List.append_assoc,List.cons_append,List.nil_append] at ih
  simp -implicitDefEqProofs (disch:=first|assumption|omega|(simp only[aE,aQ,aD,i64,sa,aC,lm,la,lc,ln];omega)) only[go_sem,simprocAttr,tO,lc,qW,qX,qY,ih]
theorem Nl(ns:List Int)(k:Int)(h:ns.length≤1099511627776)(hk:0≤k∧k+ns.length≤4611686018427387904):evCW tab y9 [.ref (0,0) [],I k] (upd emp (0,0) (some (.s 1 (bB ns)))) 1=some (I (k+ns.length),upd emp (0,0) (some (.s 1 (bB (tO k ns))))):=by
 rw[aP Po _ _ _ rfl,D3]
 have hl:=Ac ns [] k (by simpa using h) hk
 simp only[mn,List.nil_append,ln,Int.cast_ofNat_Int] at hl
 simp -implicitDefEqProofs (disch:=first|assumption|omega|(simp only[aE,aQ,aD,i64,sa,aC,lm,la,lc,ln];omega)) only[go_sem,simprocAttr,bB,hl]
theorem Ao(full:List (List D)):∀(B A:List Int) (k:Int),full=A.map (fun n=>[DI n])++(tO k B).map (fun n=>[DI n])→A.length+B.length≤1099511627776→0≤k∧k+B.length≤4611686018427387904 →
  loopW tab [0,1,5] lI {env:=upd (upd (upd emp 5 (some (I (A.length:Int)))) 1 (some (I k))) 0 (some (.d (.r full))),heap:=emp,fr:=0,next:=0}=some (.ext 0,{env:=upd emp 1 (some (I (k+B.length))),heap:=emp,fr:=0,next:=0})
 |[],A,k,hf,h,hk=>by
  subst hf
  unfold loopW
  conv=>lhs;arg 1;unfold lI
  simp -implicitDefEqProofs (disch:=first|assumption|omega|(simp only[aE,aQ,aD,i64,sa,aC,lm,la,lc,ln];omega)) only[go_sem,simprocAttr,tO,Int.add_zero,List.append_nil]
 |x::B,A,k,hf,h,hk=>by
  simp only[lc] at h hk
  have ih:=Ao full B (A++[k]) (k+1) (by rw[hf];simp[tO]) (by simp;omega) (by omega)
  subst hf
  unfold loopW
  conv=>lhs;arg 1;unfold lI
  rw[show(((A++[k]).length:Nat):Int)=(A.length:Int)+1 by simp,show k+1+(B.length:Int)=k+((B.length+1:Nat):Int) by omega] at ih
  simp only[tO,mc] at ih
  simp -implicitDefEqProofs (disch:=first|assumption|omega|(simp only[aE,aQ,aD,i64,sa,aC,lm,la,lc,ln];omega)) only[go_sem,simprocAttr,tO,lc,qW,qX,qY,ih,mc,Zu]
theorem Nv(ns:List Int)(k:Int)(h:ns.length≤1099511627776)(hk:0≤k∧k+ns.length≤4611686018427387904):call tab yH [.d (.r (bB (tO k ns))),I k]=some (I (k+ns.length)):=by
 rw[aJ Pq _ rfl,Dd]
 have hl:=Ao _ ns [] k rfl (by simpa using h) hk
 simp only[mn,List.nil_append,ln,Int.cast_ofNat_Int] at hl
 simp -implicitDefEqProofs (disch:=first|assumption|omega|(simp only[aE,aQ,aD,i64,sa,aC,lm,la,lc,ln];omega)) only[go_sem,simprocAttr,bB,hl]
set_option maxRecDepth 4000
set_option maxHeartbeats 2000000
theorem Kz(x lo hi:Int):call tab cH [I x,I lo,I hi]=some (B (decide (lo≤x)&&decide (x≤hi))):=by
 rw[aJ zkU _ rfl,Pi]
 by_cases h:lo≤x
 ·simp only[go_sem,Nat.reduceEqDiff,Nat.reduceBEq,Nat.reduceAdd,Nat.reduceSub,Nat.reduceMul,Nat.reduceLeDiff,Nat.reduceLT,↓reduceIte,reduceCtorEq,Int.reduceEq,Int.reduceLE,Int.reduceLT,Int.reduceToNat,Int.reduceNeg,Int.reduceSub,Int.reduceAdd,Int.reduceMul,h]
 ·simp only[go_sem,Nat.reduceEqDiff,Nat.reduceBEq,Nat.reduceAdd,Nat.reduceSub,Nat.reduceMul,Nat.reduceLeDiff,Nat.reduceLT,↓reduceIte,reduceCtorEq,Int.reduceEq,Int.reduceLE,Int.reduceLT,Int.reduceToNat,Int.reduceNeg,Int.reduceSub,Int.reduceAdd,Int.reduceMul,h]
theorem E5(x lo hi:Int):call tab cM [I x,I lo,I hi]=some (B (decide (lo≤x)&&decide (x≤hi))):=by
 rw[aJ Yq _ rfl,Je]
 by_cases h:lo≤x
 ·simp only[go_sem,Nat.reduceEqDiff,Nat.reduceBEq,Nat.reduceAdd,Nat.reduceSub,Nat.reduceMul,Nat.reduceLeDiff,Nat.reduceLT,↓reduceIte,reduceCtorEq,Int.reduceEq,Int.reduceLE,Int.reduceLT,Int.reduceToNat,Int.reduceNeg,Int.reduceSub,Int.reduceAdd,Int.reduceMul,h]
 ·simp only[go_sem,Nat.reduceEqDiff,Nat.reduceBEq,Nat.reduceAdd,Nat.reduceSub,Nat.reduceMul,Nat.reduceLeDiff,Nat.reduceLT,↓reduceIte,reduceCtorEq,Int.reduceEq,Int.reduceLE,Int.reduceLT,Int.reduceToNat,Int.reduceNeg,Int.reduceSub,Int.reduceAdd,Int.reduceMul,h]
def Ju(n:Nat):ByteArray:=if n<10 then⟨#[UInt8.ofNat (48+n)]⟩ else Ju (n / 10)++⟨#[UInt8.ofNat (48+n % 10)]⟩
def zve(n:Nat):ByteArray:=if n=0 then⟨#[]⟩ else Ju n
theorem zQ7:∀(k n:Nat),n<10 ^ (k+1)→(Ju n).size≤k+1:=by
 intro k
 induction k with
 |zero =>
  intro n h
  unfold Ju
  rw[if_pos (by simpa using h)]
  simp[ByteArray.size]
 |succ k ih =>
  intro n h
  unfold Ju
  split
  ·simp[ByteArray.size]
  ·rw[sa]
   have:=ih (n / 10) (by
    rw[Nat.div_lt_iff_lt_mul (by omega)]
    rw[Nat.pow_succ] at h
    exact h)
   have h1:(⟨#[UInt8.ofNat (48+n % 10)]⟩:ByteArray).size=1:=rfl
   omega
theorem zwf{n:Nat}(h:n≤9223372036854775808):(Ju n).size≤19:=zQ7 18 n (by omega)
theorem zQE{m:Nat}(h:m≠0):zve m=zve (m / 10)++⟨#[UInt8.ofNat (48+m % 10)]⟩:=by
 unfold zve
 rw[if_neg h]
 rw[Ju]
 split
 ·rename_i h1
  rw[if_pos (by omega)]
  have:m % 10=m:=by omega
  rw[this]
  rfl
 ·rename_i h1
  rw[if_neg (by omega)]
theorem zw7(m:Nat)(x:Int)(hx:x=((m % 10:Nat):Int)):ByteArray.empty.push (UInt8.ofNat (IntKind.u8.wrap (IntKind.i64.wrap (48+x))).toNat)=⟨#[UInt8.ofNat (48+m % 10)]⟩:=by
 subst hx
 rw[w64 (by constructor<;>omega),wu8 (by omega)]
 have:(48+((m % 10:Nat):Int)).toNat=48+m % 10:=by omega
 rw[this]
 rfl
theorem z9Y(b:UInt8):(⟨#[b]⟩:ByteArray).size=1:=rfl
set_option maxRecDepth 8000
set_option maxHeartbeats 4000000
def Hy(k:Int):ByteArray:=⟨#[109]⟩++Ju k.toNat
theorem Of:∀(m n:Nat) (out:ByteArray),n=m→(n:Int)≤9223372036854775807→out.size+(zve n).size≤100 →
  loopW tab [0,3] pF {env:=upd (upd emp 3 (some (Str out))) 0 (some (I (n:Int))),heap:=emp,fr:=0,next:=0}=some (.ext 0,{env:=upd emp 3 (some (Str (zve n++out))),heap:=emp,fr:=0,next:=0}):=by
 intro m
 induction m using Nat.strongRecOn with
 |_ m ih =>
  intro n out hm hn hs
  unfold loopW
  conv=>lhs;arg 1;unfold pF
  by_cases h0:n=0
  ·subst h0
   have h1:(⟨#[]⟩:ByteArray)++out=out:=ByteArray.empty_append
   simp -implicitDefEqProofs (disch:=first|assumption|omega|(simp only[aE,aQ,aD,i64,sa,aC,lm,la,lc,ln];omega)) only[go_sem,simprocAttr,zve,h1]
  ·have hd:=zQE h0
   rw[hd,sa,z9Y] at hs
   have hc:∀b,aE ⟨#[b]⟩ out:=fun b=>by show 1+out.size≤_;omega
   have h1:(n:Int).tmod 10=((n % 10:Nat):Int):=by
    have:=L3 (n:=(n:Int)) (by omega) 10
    simpa using this
   have h2:(n:Int).tdiv 10=((n / 10:Nat):Int):=by
    have:=zxH (n:=(n:Int)) (by omega) 10
    simpa using this
   have e2:IntKind.i64.wrap ((n / 10:Nat):Int)=((n / 10:Nat):Int):=w64 (by constructor<;>omega)
   have h3:=zw7 n ((n:Int).tmod 10) h1
   rw[h1] at h3
   have ih':=ih (n / 10) (by omega) (n / 10) (⟨#[UInt8.ofNat (48+n % 10)]⟩++out) rfl (by omega) (by rw[sa,z9Y];omega)
   have hg:(0:Int)<(n:Int):=by omega
   simp only[go_sem,Nat.reduceEqDiff,Nat.reduceBEq,Nat.reduceAdd,Nat.reduceSub,Nat.reduceMul,Nat.reduceLeDiff,Nat.reduceLT,↓reduceIte,reduceCtorEq,Int.reduceEq,Int.reduceLE,Int.reduceLT,Int.reduceToNat,Int.reduceNeg,Int.reduceSub,Int.reduceAdd,Int.reduceMul,hg,h1,h2,e2,hc,zJt,List.foldl_cons,List.foldl_nil,h3,z9Y]
   rw[ih',hd,ByteArray.append_assoc]
theorem eW(k:Int)(hk:0≤k∧k≤4611686018427387904):call tab eE [I k]=some (Str (Hy k)):=by
 rw[aJ Qx _ rfl,Dc]
 by_cases h0:k≤0
 ·have:k=0:=by omega
  subst this
  have h1:Hy 0=⟨#[109,48]⟩:=by unfold Hy Ju;rfl
  simp -implicitDefEqProofs (disch:=first|assumption|omega|(simp only[aE,aQ,aD,i64,sa,aC,lm,la,lc,ln];omega)) only[go_sem,simprocAttr,h1]
 ·have hsz:=zwf (n:=k.toNat) (by omega)
  have hd0:zve k.toNat=Ju k.toNat:=by unfold zve;rw[if_neg (by omega)]
  have hl:=Of k.toNat k.toNat ⟨#[]⟩ rfl (by omega) (by rw[hd0];have:(⟨#[]⟩:ByteArray).size=0:=rfl;omega)
  rw[show((k.toNat:Nat):Int)=k by omega,hd0,show Ju k.toNat++(⟨#[]⟩:ByteArray)=Ju k.toNat from ByteArray.append_empty] at hl
  have hc:aE ⟨#[109]⟩ (Ju k.toNat):=by show 1+(Ju k.toNat).size≤_;omega
  have h1:Hy k=⟨#[109]⟩++Ju k.toNat:=rfl
  simp -implicitDefEqProofs (disch:=first|assumption|omega|(simp only[aE,aQ,aD,i64,sa,aC,lm,la,lc,ln];omega)) only[go_sem,simprocAttr,h0,hl,hc,h1]
end Go.Ev.G
