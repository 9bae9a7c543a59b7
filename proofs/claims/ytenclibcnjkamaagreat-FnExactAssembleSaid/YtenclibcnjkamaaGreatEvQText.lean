import Derived.Test.YtenclibcnjkamaaGreatEvBase
import Derived.Test.YtenclibcnjkamaaGreatEvTab
set_option linter.all false
namespace Go.Ev.G
attribute [go_sem] ltT ltF leT leF neF eqT baT baF bvT bvF z4j mkT z4s Iq List.length_map Int.toNat_natCast Bool.not_not zXu zV3 zKz zQx zyA zyj zwn zwv zyp zZk zyi zxU zX2 zWd zKf zJg
set_option maxRecDepth 8000
set_option maxHeartbeats 4000000
theorem Dv(xs:List Int)(hx:xs.length≤1048576):∀(B A:List Int),xs=A++B →
  loopW tab [0,3,4] nN {env:=upd (upd (upd emp 4 (some (I (A.length:Int)))) 3 (some (.ref (0,0) []))) 0 (some (.d (.r (aG xs)))),heap:=upd emp (0,0) (some (.s 1 (aG A++List.replicate B.length [DI 0]))),fr:=0,next:=1}=some (.ext 0,{env:=upd emp 3 (some (.ref (0,0) [])),heap:=upd emp (0,0) (some (.s 1 (aG xs))),fr:=0,next:=1})
 |[],A,h=>by
  rw[zqe] at h
  subst h
  unfold loopW
  conv=>lhs;arg 1;unfold nN
  simp -implicitDefEqProofs (disch:=first|assumption|omega|(simp only[aE,aL,aF,i64,sa,aB,lm,la,lc,ln];omega)) only[go_sem,simprocAttr,aG,List.replicate_zero]
 |x::B,A,h=>by
  unfold loopW
  conv=>lhs;arg 1;unfold nN
  have hl:xs.length=A.length+(B.length+1):=by rw[h];simp
  have h2:(aG xs)[A.length]? = some [DI x]:=by rw[h];simp
  have ih:=Dv xs hx B (A++[x]) (by simp[h])
  rw[show(((A++[x]).length:Nat):Int)=(A.length:Int)+1 by simp] at ih
  simp only[aG,List.map_append,mc,mn,zqc,List.cons_append,zqf] at ih h2
  simp -implicitDefEqProofs (disch:=first|assumption|omega|(simp only[aE,aL,aF,i64,sa,aB,lm,la,lc,ln];omega)) only[go_sem,simprocAttr,aG,lc,List.replicate_succ,yI,yL,zU,h2,ih]
theorem Oh(xs:List Int)(hx:xs.length≤1048576):call tab D3 [.d (.r (aG xs))]=some (.d (.s 1 (aG xs))):=by
 rw[aT Td _ rfl,E3]
 have hl:=Dv xs hx xs [] rfl
 simp only[aG,mn,zqf,ln,Int.cast_ofNat_Int] at hl
 simp -implicitDefEqProofs (disch:=first|assumption|omega|(simp only[aE,aL,aF,i64,sa,aB,lm,la,lc,ln];omega)) only[go_sem,simprocAttr,aG,hl]
theorem Cn(xs:List Int)(hx:xs.length≤1048576):∀(B A:List Int),xs=A++B →
  loopW tab [0,1,5] nJ {env:=upd (upd (upd emp 5 (some (I (A.length:Int)))) 1 (some (.d (.r (aG xs))))) 0 (some (.d (.r (aG xs)))),heap:=emp,fr:=0,next:=0}=some (.ext 0,{env:=emp,heap:=emp,fr:=0,next:=0})
 |[],A,h=>by
  rw[zqe] at h
  subst h
  unfold loopW
  conv=>lhs;arg 1;unfold nJ
  simp -implicitDefEqProofs (disch:=first|assumption|omega|(simp only[aE,aL,aF,i64,sa,aB,lm,la,lc,ln];omega)) only[go_sem,simprocAttr,aG]
 |x::B,A,h=>by
  unfold loopW
  conv=>lhs;arg 1;unfold nJ
  have hl:xs.length=A.length+(B.length+1):=by rw[h];simp
  have h2:(aG xs)[A.length]? = some [DI x]:=by rw[h];simp
  have ih:=Cn xs hx B (A++[x]) (by simp[h])
  rw[show(((A++[x]).length:Nat):Int)=(A.length:Int)+1 by simp] at ih
  simp only[aG] at ih h2
  simp -implicitDefEqProofs (disch:=first|assumption|omega|(simp only[aE,aL,aF,i64,sa,aB,lm,la,lc,ln];omega)) only[go_sem,simprocAttr,aG,h2,ih]
theorem Qn(xs:List Int)(hx:xs.length≤1048576):call tab Dp [.d (.r (aG xs)),.d (.r (aG xs))]=some (B true):=by
 rw[aT Rr _ rfl,Ez]
 have hl:=Cn xs hx xs [] rfl
 simp only[aG,ln,Int.cast_ofNat_Int] at hl
 simp -implicitDefEqProofs (disch:=first|assumption|omega|(simp only[aE,aL,aF,i64,sa,aB,lm,la,lc,ln];omega)) only[go_sem,simprocAttr,aG,hl]
theorem Qr(xs:List Int)(n:Int)(hn: -1≤n∧n≤1048576)(hx:xs.length≤4611686018427387904):call tab Dh [.d (.r (aG xs)),I n]=some (I (if n-xs.length<0 then -1 else n-xs.length)):=by
 rw[aT Tj _ rfl,Fb]
 by_cases h:n-(xs.length:Int)<0
 ·rw[if_pos h]
  simp -implicitDefEqProofs (disch:=first|assumption|omega|(simp only[aE,aL,aF,i64,sa,aB,lm,la,lc,ln];omega)) only[go_sem,simprocAttr,aG,h]
 ·rw[if_neg h]
  simp -implicitDefEqProofs (disch:=first|assumption|omega|(simp only[aE,aL,aF,i64,sa,aB,lm,la,lc,ln];omega)) only[go_sem,simprocAttr,aG,h]
def Np:Int→List Int→List Int
 |_,[]=>[]
 |k,_::ns=>k::Np (k+1) ns
theorem x7:∀(B A:List Int) (k:Int),A.length+B.length≤1099511627776→0≤k∧k+B.length≤4611686018427387904 →
  loopW tab [0,1,5] kP {env:=upd (upd (upd emp 5 (some (I (A.length:Int)))) 1 (some (I k))) 0 (some (.ref (0,0) [])),heap:=upd emp (0,0) (some (.s 1 (A.map (fun n=>[DI n])++B.map (fun n=>[DI n])))),fr:=1,next:=0}=some (.ext 0,{env:=upd emp 1 (some (I (k+B.length))),heap:=upd emp (0,0) (some (.s 1 (A.map (fun n=>[DI n])++(Np k B).map (fun n=>[DI n])))),fr:=1,next:=0})
 |[],A,k,h,hk=>by
  unfold loopW
  conv=>lhs;arg 1;unfold kP
  simp -implicitDefEqProofs (disch:=first|assumption|omega|(simp only[aE,aL,aF,i64,sa,aB,lm,la,lc,ln];omega)) only[go_sem,simprocAttr,Np,Int.add_zero]
 |x::B,A,k,h,hk=>by
  unfold loopW
  conv=>lhs;arg 1;unfold kP
  simp only[lc] at h hk
  have ih:=x7 B (A++[k]) (k+1) (by simp;omega) (by omega)
  rw[show(((A++[k]).length:Nat):Int)=(A.length:Int)+1 by simp,show k+1+(B.length:Int)=k+((B.length+1:Nat):Int) by omega] at ih
  simp only[List.map_append,mc,mn,zqc,List.cons_append,zqf] at ih
  simp -implicitDefEqProofs (disch:=first|assumption|omega|(simp only[aE,aL,aF,i64,sa,aB,lm,la,lc,ln];omega)) only[go_sem,simprocAttr,Np,lc,yI,yL,zU,ih]
theorem J5(ns:List Int)(k:Int)(h:ns.length≤1099511627776)(hk:0≤k∧k+ns.length≤4611686018427387904):evCW tab wP [.ref (0,0) [],I k] (upd emp (0,0) (some (.s 1 (aG ns)))) 1=some (I (k+ns.length),upd emp (0,0) (some (.s 1 (aG (Np k ns))))):=by
 rw[aR Lu _ _ _ rfl,A0]
 have hl:=x7 ns [] k (by simpa using h) hk
 simp only[mn,zqf,ln,Int.cast_ofNat_Int] at hl
 simp -implicitDefEqProofs (disch:=first|assumption|omega|(simp only[aE,aL,aF,i64,sa,aB,lm,la,lc,ln];omega)) only[go_sem,simprocAttr,aG,hl]
set_option maxRecDepth 4000
set_option maxHeartbeats 2000000
theorem Iy(x lo hi:Int):call tab eU [I x,I lo,I hi]=some (B (decide (lo≤x)&&decide (x≤hi))):=by
 rw[aT zz5 _ rfl,Kz]
 by_cases h:lo≤x
 ·simp only[go_sem,Nat.reduceEqDiff,Nat.reduceBEq,Nat.reduceAdd,Nat.reduceSub,Nat.reduceMul,Nat.reduceLeDiff,Nat.reduceLT,↓reduceIte,reduceCtorEq,Int.reduceEq,Int.reduceLE,Int.reduceLT,Int.reduceToNat,Int.reduceNeg,Int.reduceSub,Int.reduceAdd,Int.reduceMul,h]
 ·simp only[go_sem,Nat.reduceEqDiff,Nat.reduceBEq,Nat.reduceAdd,Nat.reduceSub,Nat.reduceMul,Nat.reduceLeDiff,Nat.reduceLT,↓reduceIte,reduceCtorEq,Int.reduceEq,Int.reduceLE,Int.reduceLT,Int.reduceToNat,Int.reduceNeg,Int.reduceSub,Int.reduceAdd,Int.reduceMul,h]
theorem Cp(x lo hi:Int):call tab dT [I x,I lo,I hi]=some (B (decide (lo≤x)&&decide (x≤hi))):=by
 rw[aT Tf _ rfl,Es]
 by_cases h:lo≤x
 ·simp only[go_sem,Nat.reduceEqDiff,Nat.reduceBEq,Nat.reduceAdd,Nat.reduceSub,Nat.reduceMul,Nat.reduceLeDiff,Nat.reduceLT,↓reduceIte,reduceCtorEq,Int.reduceEq,Int.reduceLE,Int.reduceLT,Int.reduceToNat,Int.reduceNeg,Int.reduceSub,Int.reduceAdd,Int.reduceMul,h]
 ·simp only[go_sem,Nat.reduceEqDiff,Nat.reduceBEq,Nat.reduceAdd,Nat.reduceSub,Nat.reduceMul,Nat.reduceLeDiff,Nat.reduceLT,↓reduceIte,reduceCtorEq,Int.reduceEq,Int.reduceLE,Int.reduceLT,Int.reduceToNat,Int.reduceNeg,Int.reduceSub,Int.reduceAdd,Int.reduceMul,h]
def oC(n:Nat):ByteArray:=if n<10 then⟨#[UInt8.ofNat (48+n)]⟩ else oC (n / 10)++⟨#[UInt8.ofNat (48+n % 10)]⟩
def Jd(n:Nat):ByteArray:=if n=0 then⟨#[]⟩ else oC n
def dig(n:Int):ByteArray:=if n<0 then⟨#[45]⟩++oC n.natAbs else oC n.natAbs
theorem zxe:∀(k n:Nat),n<10 ^ (k+1)→(oC n).size≤k+1:=by
 intro k
 induction k with
 |zero =>
  intro n h
  unfold oC
  rw[if_pos (by simpa using h)]
  simp[ByteArray.size]
 |succ k ih =>
  intro n h
  unfold oC
  split
  ·simp[ByteArray.size]
  ·rw[sa]
   have:=ih (n / 10) (by
    rw[Nat.div_lt_iff_lt_mul (by omega)]
    rw[Nat.pow_succ] at h
    exact h)
   have h1:(⟨#[UInt8.ofNat (48+n % 10)]⟩:ByteArray).size=1:=rfl
   omega
theorem Gj{n:Nat}(h:n≤9223372036854775808):(oC n).size≤19:=zxe 18 n (by omega)
theorem Uu{m:Nat}(h:m≠0):Jd m=Jd (m / 10)++⟨#[UInt8.ofNat (48+m % 10)]⟩:=by
 unfold Jd
 rw[if_neg h]
 rw[oC]
 split
 ·rename_i h1
  rw[if_pos (by omega)]
  have:m % 10=m:=by omega
  rw[this]
  rfl
 ·rename_i h1
  rw[if_neg (by omega)]
theorem Fx(m:Nat)(x:Int)(hx:x=((m % 10:Nat):Int)):ByteArray.empty.push (UInt8.ofNat (IntKind.u8.wrap (IntKind.i64.wrap (48+x))).toNat)=⟨#[UInt8.ofNat (48+m % 10)]⟩:=by
 subst hx
 rw[w64 (by constructor<;>omega),wu8 (by omega)]
 have:(48+((m % 10:Nat):Int)).toNat=48+m % 10:=by omega
 rw[this]
 rfl
theorem Qm(b:Bool):∀(k:Nat) (n:Int) (out:ByteArray),n.natAbs=k→i64 n→out.size+(Jd n.natAbs).size≤100 →
  loopW tab [0,3,4] qX {env:=upd (upd (upd emp 4 (some (Str out))) 3 (some (B b))) 0 (some (I n)),heap:=emp,fr:=0,next:=0}=some (.ext 0,{env:=upd (upd emp 4 (some (Str (Jd n.natAbs++out)))) 3 (some (B b)),heap:=emp,fr:=0,next:=0}):=by
 intro k
 induction k using Nat.strongRecOn with
 |_ k ih =>
  intro n out hk hn hs
  unfold loopW
  conv=>lhs;arg 1;unfold qX
  by_cases h0:n=0
  ·subst h0
   have:(⟨#[]⟩:ByteArray)++out=out:=ByteArray.empty_append
   simp only[go_sem,Nat.reduceEqDiff,Nat.reduceBEq,Nat.reduceAdd,Nat.reduceSub,Nat.reduceMul,Nat.reduceLeDiff,Nat.reduceLT,↓reduceIte,reduceCtorEq,Int.reduceEq,Int.reduceLE,Int.reduceLT,Int.reduceToNat,Int.reduceNeg,Int.reduceSub,Int.reduceAdd,Int.reduceMul,Jd,this,Int.natAbs_zero]
  ·have hd:=Uu (m:=n.natAbs) (by omega)
   rw[hd,sa] at hs
   have h1s:(⟨#[UInt8.ofNat (48+n.natAbs % 10)]⟩:ByteArray).size=1:=rfl
   rw[h1s] at hs
   have hc:∀b,aE ⟨#[b]⟩ out:=fun b=>by show 1+out.size≤_;omega
   by_cases h1:n.tmod 10<0
   ·have hneg:n≤0:=by
     refine Int.not_lt.1 fun h=> ?_
     have:=uQ (n:=n) (by omega) 10
     simp only[Int.cast_ofNat_Int] at this
     omega
    have ht:=Xg hneg 10
    have hq:=Vo hneg 10
    simp only[Int.cast_ofNat_Int] at ht hq
    have e1:IntKind.i64.wrap (-n.tmod 10)=((n.natAbs % 10:Nat):Int):=by rw[w64 (by constructor<;>omega)];omega
    have e2:IntKind.i64.wrap (n.tdiv 10)=n.tdiv 10:=w64 (by constructor<;>omega)
    simp only[go_sem,Nat.reduceEqDiff,Nat.reduceBEq,Nat.reduceAdd,Nat.reduceSub,Nat.reduceMul,Nat.reduceLeDiff,Nat.reduceLT,↓reduceIte,reduceCtorEq,Int.reduceEq,Int.reduceLE,Int.reduceLT,Int.reduceToNat,Int.reduceNeg,Int.reduceSub,Int.reduceAdd,Int.reduceMul,h0,h1,hc,e1,e2,X4,List.foldl_cons,List.foldl_nil,Fx n.natAbs _ rfl,h1s,Int.zero_sub]
    rw[ih (n.natAbs / 10) (by omega) (n.tdiv 10) _ (by omega) (by constructor<;>omega) (by rw[sa,h1s,show(n.tdiv 10).natAbs=n.natAbs / 10 by omega];omega)]
    rw[show(n.tdiv 10).natAbs=n.natAbs / 10 by omega,hd,ByteArray.append_assoc]
   ·have hpos:n.tmod 10=((n.natAbs % 10:Nat):Int):=by
     by_cases h:0≤n
     ·simpa using uQ h 10
     ·have:=Xg (n:=n) (by omega) 10
      simp only[Int.cast_ofNat_Int] at this
      omega
    have hq:(n.tdiv 10).natAbs=n.natAbs / 10:=by
     by_cases h:0≤n
     ·have:=M7 h 10
      simp only[Int.cast_ofNat_Int] at this
      omega
     ·have:=Vo (n:=n) (by omega) 10
      simp only[Int.cast_ofNat_Int] at this
      omega
    have e2:IntKind.i64.wrap (n.tdiv 10)=n.tdiv 10:=w64 (by constructor<;>omega)
    simp only[go_sem,Nat.reduceEqDiff,Nat.reduceBEq,Nat.reduceAdd,Nat.reduceSub,Nat.reduceMul,Nat.reduceLeDiff,Nat.reduceLT,↓reduceIte,reduceCtorEq,Int.reduceEq,Int.reduceLE,Int.reduceLT,Int.reduceToNat,Int.reduceNeg,Int.reduceSub,Int.reduceAdd,Int.reduceMul,h0,h1,hc,e2,X4,List.foldl_cons,List.foldl_nil,Fx n.natAbs _ hpos,h1s]
    rw[ih (n.natAbs / 10) (by omega) (n.tdiv 10) _ (by omega) (by constructor<;>omega) (by rw[sa,h1s,hq];omega)]
    rw[hq,hd,ByteArray.append_assoc]
theorem Qk{n:Int}(hn:i64 n):call tab Cu [I n]=some (Str (dig n)):=by
 rw[aT Tr _ rfl,E7]
 by_cases h0:n=0
 ·subst h0
  have:dig 0=⟨#[48]⟩:=by
   unfold dig oC
   rfl
  simp only[go_sem,Nat.reduceEqDiff,Nat.reduceBEq,Nat.reduceAdd,Nat.reduceSub,Nat.reduceMul,Nat.reduceLeDiff,Nat.reduceLT,↓reduceIte,reduceCtorEq,Int.reduceEq,Int.reduceLE,Int.reduceLT,Int.reduceToNat,Int.reduceNeg,Int.reduceSub,Int.reduceAdd,Int.reduceMul,this]
 ·have hsz:=Gj (n:=n.natAbs) (by omega)
  have hd0:Jd n.natAbs=oC n.natAbs:=by unfold Jd;rw[if_neg (by omega)]
  have hl:=fun b=>Qm b n.natAbs n ⟨#[]⟩ rfl hn (by rw[hd0];have:(⟨#[]⟩:ByteArray).size=0:=rfl;omega)
  have hap:oC n.natAbs++(⟨#[]⟩:ByteArray)=oC n.natAbs:=ByteArray.append_empty
  by_cases h1:n<0
  ·have hc:aE ⟨#[45]⟩ (oC n.natAbs):=by show 1+(oC n.natAbs).size≤_;omega
   simp only[go_sem,Nat.reduceEqDiff,Nat.reduceBEq,Nat.reduceAdd,Nat.reduceSub,Nat.reduceMul,Nat.reduceLeDiff,Nat.reduceLT,↓reduceIte,reduceCtorEq,Int.reduceEq,Int.reduceLE,Int.reduceLT,Int.reduceToNat,Int.reduceNeg,Int.reduceSub,Int.reduceAdd,Int.reduceMul,h0,h1,hl,hd0,hap,dig,hc]
  ·simp only[go_sem,Nat.reduceEqDiff,Nat.reduceBEq,Nat.reduceAdd,Nat.reduceSub,Nat.reduceMul,Nat.reduceLeDiff,Nat.reduceLT,↓reduceIte,reduceCtorEq,Int.reduceEq,Int.reduceLE,Int.reduceLT,Int.reduceToNat,Int.reduceNeg,Int.reduceSub,Int.reduceAdd,Int.reduceMul,h0,h1,hl,hd0,hap,dig]
theorem Un{d:Nat}(h:d<10):Utf8.encode (IntKind.i32.wrap (IntKind.i64.wrap (48+(d:Int))))=⟨#[UInt8.ofNat (48+d)]⟩:=by
 rw[w64 (by constructor<;>omega),w32 (by omega)]
 have:∀d:Nat,d<10→Utf8.encode (48+(d:Int))=⟨#[UInt8.ofNat (48+d)]⟩:=by
  intro d hd
  match d,hd with
  |0,_=>rfl
  |1,_=>rfl
  |2,_=>rfl
  |3,_=>rfl
  |4,_=>rfl
  |5,_=>rfl
  |6,_=>rfl
  |7,_=>rfl
  |8,_=>rfl
  |9,_=>rfl
 exact this d h
theorem Pz{m:Nat}(h:m<10):oC m=⟨#[UInt8.ofNat (48+m)]⟩:=by rw[oC,if_pos h]
theorem zzo{m:Nat}(h:10≤m):oC m=oC (m / 10)++⟨#[UInt8.ofNat (48+m % 10)]⟩:=by rw[oC,if_neg (by omega)]
theorem M0{n:Int}(h:n<0):dig n=⟨#[45]⟩++oC n.natAbs:=by unfold dig;rw[if_pos h]
theorem Jb{n:Int}(h:0≤n):dig n=oC n.natAbs:=by unfold dig;rw[if_neg (by omega)]
theorem zwj(b:UInt8):(⟨#[b]⟩:ByteArray).size=1:=rfl
theorem Hr{n:Int}(h:i64 n):(dig n).size≤20:=by
 have:=Gj (n:=n.natAbs) (by omega)
 by_cases h0:n<0
 ·rw[M0 h0,sa,zwj];omega
 ·rw[Jb (by omega)];omega
theorem Lz:∀(k:Nat) (n:Int),2*n.natAbs+(if n<0 then 1 else 0)=k→i64 n→call tab jK [I n]=some (Str (dig n)):=by
 intro k
 induction k using Nat.strongRecOn with
 |_ k ih =>
  intro n hk hn
  rw[aT S4 _ rfl,E1]
  by_cases h0:n<0
  ·rw[if_pos h0] at hk
   have hs:=Hr hn
   by_cases h1: -10<n
   ·have e1:IntKind.i64.wrap (0-n)= -n:=by rw[w64 (by constructor<;>omega)];omega
    have hr:=ih (2*(-n).natAbs+0) (by omega) (-n) (by rw[if_neg (by omega)]) (by constructor<;>omega)
    have e2:dig n=⟨#[45]⟩++dig (-n):=by rw[M0 h0,Jb (n:= -n) (by omega)];congr 2;omega
    have hc:aE ⟨#[45]⟩ (dig (-n)):=by
     show 1+(dig (-n)).size≤_
     have:=Hr (n:= -n) (by constructor<;>omega)
     omega
    simp only[go_sem,Nat.reduceEqDiff,Nat.reduceBEq,Nat.reduceAdd,Nat.reduceSub,Nat.reduceMul,Nat.reduceLeDiff,Nat.reduceLT,↓reduceIte,reduceCtorEq,Int.reduceEq,Int.reduceLE,Int.reduceLT,Int.reduceToNat,Int.reduceNeg,Int.reduceSub,Int.reduceAdd,Int.reduceMul,h0,h1,e1,hr,hc,e2]
   ·have ht:=Xg (n:=n) (by omega) 10
    have hq:=Vo (n:=n) (by omega) 10
    simp only[Int.cast_ofNat_Int] at ht hq
    have e1:IntKind.i64.wrap (n.tdiv 10)=n.tdiv 10:=w64 (by constructor<;>omega)
    have e2:IntKind.i64.wrap (0-n.tmod 10)=((n.natAbs % 10:Nat):Int):=by rw[w64 (by constructor<;>omega)];omega
    have hr:=ih (2*(n.tdiv 10).natAbs+1) (by omega) (n.tdiv 10) (by rw[if_pos (by omega)]) (by constructor<;>omega)
    have hr2:=ih (2*(n.natAbs % 10)+0) (by omega) ((n.natAbs % 10:Nat):Int) (by rw[if_neg (by omega)];omega) (by constructor<;>omega)
    have e3:dig (n.tdiv 10)++dig ((n.natAbs % 10:Nat):Int)=dig n:=by
     rw[M0 h0,M0 (n:=n.tdiv 10) (by omega),Jb (n:=((n.natAbs % 10:Nat):Int)) (by omega),zzo (m:=n.natAbs) (by omega),←Pz (m:=n.natAbs % 10) (by omega),show(n.tdiv 10).natAbs=n.natAbs / 10 by omega,Int.natAbs_natCast,ByteArray.append_assoc]
    have hc:aE (dig (n.tdiv 10)) (dig ((n.natAbs % 10:Nat):Int)):=by
     unfold aE
     rw[←ByteArray.size_append,e3];omega
    simp only[go_sem,Nat.reduceEqDiff,Nat.reduceBEq,Nat.reduceAdd,Nat.reduceSub,Nat.reduceMul,Nat.reduceLeDiff,Nat.reduceLT,↓reduceIte,reduceCtorEq,Int.reduceEq,Int.reduceLE,Int.reduceLT,Int.reduceToNat,Int.reduceNeg,Int.reduceSub,Int.reduceAdd,Int.reduceMul,h0,h1,e1,e2,hr,hr2,hc,e3]
  ·rw[if_neg h0] at hk
   have ht:=uQ (n:=n) (by omega) 10
   have hq:=M7 (n:=n) (by omega) 10
   simp only[Int.cast_ofNat_Int] at ht hq
   by_cases h1:n<10
   ·have e1:=Un (d:=n.natAbs) (by omega)
    rw[show((n.natAbs:Nat):Int)=n by omega,←Pz (by omega),←Jb (by omega)] at e1
    simp only[go_sem,Nat.reduceEqDiff,Nat.reduceBEq,Nat.reduceAdd,Nat.reduceSub,Nat.reduceMul,Nat.reduceLeDiff,Nat.reduceLT,↓reduceIte,reduceCtorEq,Int.reduceEq,Int.reduceLE,Int.reduceLT,Int.reduceToNat,Int.reduceNeg,Int.reduceSub,Int.reduceAdd,Int.reduceMul,h0,h1,e1]
   ·have e0:=Un (d:=n.natAbs % 10) (by omega)
    have e1:IntKind.i64.wrap (n.tdiv 10)=n.tdiv 10:=w64 (by constructor<;>omega)
    have hr:=ih (2*(n.tdiv 10).natAbs+0) (by omega) (n.tdiv 10) (by rw[if_neg (by omega)]) (by constructor<;>omega)
    rw[←ht] at e0
    have e3:dig (n.tdiv 10)++⟨#[UInt8.ofNat (48+n.natAbs % 10)]⟩=dig n:=by
     rw[Jb (n:=n) (by omega),Jb (n:=n.tdiv 10) (by omega),zzo (m:=n.natAbs) (by omega),show(n.tdiv 10).natAbs=n.natAbs / 10 by omega]
    have hc:aE (dig (n.tdiv 10)) ⟨#[UInt8.ofNat (48+n.natAbs % 10)]⟩:=by
     show(dig (n.tdiv 10)).size+1≤_
     have:=Hr (n:=n.tdiv 10) (by constructor<;>omega)
     omega
    simp only[go_sem,Nat.reduceEqDiff,Nat.reduceBEq,Nat.reduceAdd,Nat.reduceSub,Nat.reduceMul,Nat.reduceLeDiff,Nat.reduceLT,↓reduceIte,reduceCtorEq,Int.reduceEq,Int.reduceLE,Int.reduceLT,Int.reduceToNat,Int.reduceNeg,Int.reduceSub,Int.reduceAdd,Int.reduceMul,h0,h1,e0,e1,hr,hc,e3]
theorem N5{n:Int}(hn:i64 n):call tab jK [I n]=some (Str (dig n)):=Lz _ n rfl hn
set_option maxRecDepth 8000
set_option maxHeartbeats 4000000
def Hl(k:Int):ByteArray:=⟨#[109]⟩++oC k.toNat
theorem I6:∀(m n:Nat) (out:ByteArray),n=m→(n:Int)≤9223372036854775807→out.size+(Jd n).size≤100 →
  loopW tab [0,3] oR {env:=upd (upd emp 3 (some (Str out))) 0 (some (I (n:Int))),heap:=emp,fr:=0,next:=0}=some (.ext 0,{env:=upd emp 3 (some (Str (Jd n++out))),heap:=emp,fr:=0,next:=0}):=by
 intro m
 induction m using Nat.strongRecOn with
 |_ m ih =>
  intro n out hm hn hs
  unfold loopW
  conv=>lhs;arg 1;unfold oR
  by_cases h0:n=0
  ·subst h0
   have h1:(⟨#[]⟩:ByteArray)++out=out:=ByteArray.empty_append
   simp -implicitDefEqProofs (disch:=first|assumption|omega|(simp only[aE,aL,aF,i64,sa,aB,lm,la,lc,ln];omega)) only[go_sem,simprocAttr,Jd,h1]
  ·have hd:=Uu h0
   rw[hd,sa,zwj] at hs
   have hc:∀b,aE ⟨#[b]⟩ out:=fun b=>by show 1+out.size≤_;omega
   have h1:(n:Int).tmod 10=((n % 10:Nat):Int):=by
    have:=uQ (n:=(n:Int)) (by omega) 10
    simpa using this
   have h2:(n:Int).tdiv 10=((n / 10:Nat):Int):=by
    have:=M7 (n:=(n:Int)) (by omega) 10
    simpa using this
   have e2:IntKind.i64.wrap ((n / 10:Nat):Int)=((n / 10:Nat):Int):=w64 (by constructor<;>omega)
   have h3:=Fx n ((n:Int).tmod 10) h1
   rw[h1] at h3
   have ih':=ih (n / 10) (by omega) (n / 10) (⟨#[UInt8.ofNat (48+n % 10)]⟩++out) rfl (by omega) (by rw[sa,zwj];omega)
   have hg:(0:Int)<(n:Int):=by omega
   simp only[go_sem,Nat.reduceEqDiff,Nat.reduceBEq,Nat.reduceAdd,Nat.reduceSub,Nat.reduceMul,Nat.reduceLeDiff,Nat.reduceLT,↓reduceIte,reduceCtorEq,Int.reduceEq,Int.reduceLE,Int.reduceLT,Int.reduceToNat,Int.reduceNeg,Int.reduceSub,Int.reduceAdd,Int.reduceMul,hg,h1,h2,e2,hc,X4,List.foldl_cons,List.foldl_nil,h3,zwj]
   rw[ih',hd,ByteArray.append_assoc]
theorem l5(k:Int)(hk:0≤k∧k≤4611686018427387904):call tab fV [I k]=some (Str (Hl k)):=by
 rw[aT Lv _ rfl,Ae]
 by_cases h0:k≤0
 ·have:k=0:=by omega
  subst this
  have h1:Hl 0=⟨#[109,48]⟩:=by unfold Hl oC;rfl
  simp -implicitDefEqProofs (disch:=first|assumption|omega|(simp only[aE,aL,aF,i64,sa,aB,lm,la,lc,ln];omega)) only[go_sem,simprocAttr,h1]
 ·have hsz:=Gj (n:=k.toNat) (by omega)
  have hd0:Jd k.toNat=oC k.toNat:=by unfold Jd;rw[if_neg (by omega)]
  have hl:=I6 k.toNat k.toNat ⟨#[]⟩ rfl (by omega) (by rw[hd0];have:(⟨#[]⟩:ByteArray).size=0:=rfl;omega)
  rw[show((k.toNat:Nat):Int)=k by omega,hd0,show oC k.toNat++(⟨#[]⟩:ByteArray)=oC k.toNat from ByteArray.append_empty] at hl
  have hc:aE ⟨#[109]⟩ (oC k.toNat):=by show 1+(oC k.toNat).size≤_;omega
  have h1:Hl k=⟨#[109]⟩++oC k.toNat:=rfl
  simp -implicitDefEqProofs (disch:=first|assumption|omega|(simp only[aE,aL,aF,i64,sa,aB,lm,la,lc,ln];omega)) only[go_sem,simprocAttr,h0,hl,hc,h1]
end Go.Ev.G
