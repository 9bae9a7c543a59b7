import Derived.Test.YtenclibcnjkamaaGreatEvBase
import Derived.Test.YtenclibcnjkamaaGreatEvTab
set_option linter.all false
namespace Go.Ev.G
attribute [go_sem] ltT ltF leT leF neF eqT baT baF bvT bvF z7G mkT z7O E7 List.length_map Int.toNat_natCast Bool.not_not zVw zyn zZ1 zxx zvF zqS zkX zwL zvn zwh zqK zwj zKU zKd zxV zJe
set_option maxRecDepth 8000
set_option maxHeartbeats 4000000
theorem zF(xs:List Int)(hx:xs.length≤1048576):∀(B A:List Int),xs=A++B →
  loopW tab [0,3,4] mO {env:=upd (upd (upd emp 4 (some (I (A.length:Int)))) 3 (some (.ref (0,0) []))) 0 (some (.d (.r (aG xs)))),heap:=upd emp (0,0) (some (.s 1 (aG A++List.replicate B.length [DI 0]))),fr:=0,next:=1}=some (.ext 0,{env:=upd emp 3 (some (.ref (0,0) [])),heap:=upd emp (0,0) (some (.s 1 (aG xs))),fr:=0,next:=1})
 |[],A,h=>by
  rw[List.append_nil] at h
  subst h
  unfold loopW
  conv=>lhs;arg 1;unfold mO
  simp -implicitDefEqProofs (disch:=first|assumption|omega|(simp only[aE,aM,aF,i64,sa,aD,lm,la,lc,ln];omega)) only[go_sem,simprocAttr,aG,List.replicate_zero]
 |x::B,A,h=>by
  unfold loopW
  conv=>lhs;arg 1;unfold mO
  have hl:xs.length=A.length+(B.length+1):=by rw[h];simp
  have h2:(aG xs)[A.length]? = some [DI x]:=by rw[h];simp
  have ih:=zF xs hx B (A++[x]) (by simp[h])
  rw[show(((A++[x]).length:Nat):Int)=(A.length:Int)+1 by simp] at ih
  simp only[aG,List.map_append,mc,mn,List.append_assoc,List.cons_append,List.nil_append] at ih h2
  simp -implicitDefEqProofs (disch:=first|assumption|omega|(simp only[aE,aM,aF,i64,sa,aD,lm,la,lc,ln];omega)) only[go_sem,simprocAttr,aG,lc,List.replicate_succ,Em,Fx,Fn,h2,ih]
theorem Jo(xs:List Int)(hx:xs.length≤1048576):call tab As [.d (.r (aG xs))]=some (.d (.s 1 (aG xs))):=by
 rw[aY O9 _ rfl,Cn]
 have hl:=zF xs hx xs [] rfl
 simp only[aG,mn,List.nil_append,ln,Int.cast_ofNat_Int] at hl
 simp -implicitDefEqProofs (disch:=first|assumption|omega|(simp only[aE,aM,aF,i64,sa,aD,lm,la,lc,ln];omega)) only[go_sem,simprocAttr,aG,hl]
theorem yS(xs:List Int)(hx:xs.length≤1048576):∀(B A:List Int),xs=A++B →
  loopW tab [0,1,5] mG {env:=upd (upd (upd emp 5 (some (I (A.length:Int)))) 1 (some (.d (.r (aG xs))))) 0 (some (.d (.r (aG xs)))),heap:=emp,fr:=0,next:=0}=some (.ext 0,{env:=emp,heap:=emp,fr:=0,next:=0})
 |[],A,h=>by
  rw[List.append_nil] at h
  subst h
  unfold loopW
  conv=>lhs;arg 1;unfold mG
  simp -implicitDefEqProofs (disch:=first|assumption|omega|(simp only[aE,aM,aF,i64,sa,aD,lm,la,lc,ln];omega)) only[go_sem,simprocAttr,aG]
 |x::B,A,h=>by
  unfold loopW
  conv=>lhs;arg 1;unfold mG
  have hl:xs.length=A.length+(B.length+1):=by rw[h];simp
  have h2:(aG xs)[A.length]? = some [DI x]:=by rw[h];simp
  have ih:=yS xs hx B (A++[x]) (by simp[h])
  rw[show(((A++[x]).length:Nat):Int)=(A.length:Int)+1 by simp] at ih
  simp only[aG] at ih h2
  simp -implicitDefEqProofs (disch:=first|assumption|omega|(simp only[aE,aM,aF,i64,sa,aD,lm,la,lc,ln];omega)) only[go_sem,simprocAttr,aG,h2,ih]
theorem Ky(xs:List Int)(hx:xs.length≤1048576):call tab Ao [.d (.r (aG xs)),.d (.r (aG xs))]=some (B true):=by
 rw[aY No _ rfl,Cp]
 have hl:=yS xs hx xs [] rfl
 simp only[aG,ln,Int.cast_ofNat_Int] at hl
 simp -implicitDefEqProofs (disch:=first|assumption|omega|(simp only[aE,aM,aF,i64,sa,aD,lm,la,lc,ln];omega)) only[go_sem,simprocAttr,aG,hl]
theorem Mv(xs:List Int)(n:Int)(hn: -1≤n∧n≤1048576)(hx:xs.length≤4611686018427387904):call tab Bg [.d (.r (aG xs)),I n]=some (I (if n-xs.length<0 then -1 else n-xs.length)):=by
 rw[aY Oa _ rfl,C1]
 by_cases h:n-(xs.length:Int)<0
 ·rw[if_pos h]
  simp -implicitDefEqProofs (disch:=first|assumption|omega|(simp only[aE,aM,aF,i64,sa,aD,lm,la,lc,ln];omega)) only[go_sem,simprocAttr,aG,h]
 ·rw[if_neg h]
  simp -implicitDefEqProofs (disch:=first|assumption|omega|(simp only[aE,aM,aF,i64,sa,aD,lm,la,lc,ln];omega)) only[go_sem,simprocAttr,aG,h]
def Mu:Int→List Int→List Int
 |_,[]=>[]
 |k,_::ns=>k::Mu (k+1) ns
theorem vK:∀(B A:List Int) (k:Int),A.length+B.length≤1099511627776→0≤k∧k+B.length≤4611686018427387904 →
  loopW tab [0,1,5] kE {env:=upd (upd (upd emp 5 (some (I (A.length:Int)))) 1 (some (I k))) 0 (some (.ref (0,0) [])),heap:=upd emp (0,0) (some (.s 1 (A.map (fun n=>[DI n])++B.map (fun n=>[DI n])))),fr:=1,next:=0}=some (.ext 0,{env:=upd emp 1 (some (I (k+B.length))),heap:=upd emp (0,0) (some (.s 1 (A.map (fun n=>[DI n])++(Mu k B).map (fun n=>[DI n])))),fr:=1,next:=0})
 |[],A,k,h,hk=>by
  unfold loopW
  conv=>lhs;arg 1;unfold kE
  simp -implicitDefEqProofs (disch:=first|assumption|omega|(simp only[aE,aM,aF,i64,sa,aD,lm,la,lc,ln];omega)) only[go_sem,simprocAttr,Mu,Int.add_zero]
 |x::B,A,k,h,hk=>by
  unfold loopW
  conv=>lhs;arg 1;unfold kE
  simp only[lc] at h hk
  have ih:=vK B (A++[k]) (k+1) (by simp;omega) (by omega)
  rw[show(((A++[k]).length:Nat):Int)=(A.length:Int)+1 by simp,show k+1+(B.length:Int)=k+((B.length+1:Nat):Int) by omega] at ih
  simp only[List.map_append,mc,mn,List.append_assoc,List.cons_append,List.nil_append] at ih
  simp -implicitDefEqProofs (disch:=first|assumption|omega|(simp only[aE,aM,aF,i64,sa,aD,lm,la,lc,ln];omega)) only[go_sem,simprocAttr,Mu,lc,Em,Fx,Fn,ih]
theorem Gn(ns:List Int)(k:Int)(h:ns.length≤1099511627776)(hk:0≤k∧k+ns.length≤4611686018427387904):evCW tab tY [.ref (0,0) [],I k] (upd emp (0,0) (some (.s 1 (aG ns)))) 1=some (I (k+ns.length),upd emp (0,0) (some (.s 1 (aG (Mu k ns))))):=by
 rw[aR I2 _ _ _ rfl,xU]
 have hl:=vK ns [] k (by simpa using h) hk
 simp only[mn,List.nil_append,ln,Int.cast_ofNat_Int] at hl
 simp -implicitDefEqProofs (disch:=first|assumption|omega|(simp only[aE,aM,aF,i64,sa,aD,lm,la,lc,ln];omega)) only[go_sem,simprocAttr,aG,hl]
set_option maxRecDepth 4000
set_option maxHeartbeats 2000000
theorem Eu(x lo hi:Int):call tab eK [I x,I lo,I hi]=some (B (decide (lo≤x)&&decide (x≤hi))):=by
 rw[aY Wx _ rfl,Hp]
 by_cases h:lo≤x
 ·simp only[go_sem,Nat.reduceEqDiff,Nat.reduceBEq,Nat.reduceAdd,Nat.reduceSub,Nat.reduceMul,Nat.reduceLeDiff,Nat.reduceLT,↓reduceIte,reduceCtorEq,Int.reduceEq,Int.reduceLE,Int.reduceLT,Int.reduceToNat,Int.reduceNeg,Int.reduceSub,Int.reduceAdd,Int.reduceMul,h]
 ·simp only[go_sem,Nat.reduceEqDiff,Nat.reduceBEq,Nat.reduceAdd,Nat.reduceSub,Nat.reduceMul,Nat.reduceLeDiff,Nat.reduceLT,↓reduceIte,reduceCtorEq,Int.reduceEq,Int.reduceLE,Int.reduceLT,Int.reduceToNat,Int.reduceNeg,Int.reduceSub,Int.reduceAdd,Int.reduceMul,h]
theorem Ab(x lo hi:Int):call tab dO [I x,I lo,I hi]=some (B (decide (lo≤x)&&decide (x≤hi))):=by
 rw[aY O3 _ rfl,Cm]
 by_cases h:lo≤x
 ·simp only[go_sem,Nat.reduceEqDiff,Nat.reduceBEq,Nat.reduceAdd,Nat.reduceSub,Nat.reduceMul,Nat.reduceLeDiff,Nat.reduceLT,↓reduceIte,reduceCtorEq,Int.reduceEq,Int.reduceLE,Int.reduceLT,Int.reduceToNat,Int.reduceNeg,Int.reduceSub,Int.reduceAdd,Int.reduceMul,h]
 ·simp only[go_sem,Nat.reduceEqDiff,Nat.reduceBEq,Nat.reduceAdd,Nat.reduceSub,Nat.reduceMul,Nat.reduceLeDiff,Nat.reduceLT,↓reduceIte,reduceCtorEq,Int.reduceEq,Int.reduceLE,Int.reduceLT,Int.reduceToNat,Int.reduceNeg,Int.reduceSub,Int.reduceAdd,Int.reduceMul,h]
def nG(n:Nat):ByteArray:=if n<10 then⟨#[UInt8.ofNat (48+n)]⟩ else nG (n / 10)++⟨#[UInt8.ofNat (48+n % 10)]⟩
def F3(n:Nat):ByteArray:=if n=0 then⟨#[]⟩ else nG n
def dig(n:Int):ByteArray:=if n<0 then⟨#[45]⟩++nG n.natAbs else nG n.natAbs
theorem zkv:∀(k n:Nat),n<10 ^ (k+1)→(nG n).size≤k+1:=by
 intro k
 induction k with
 |zero =>
  intro n h
  unfold nG
  rw[if_pos (by simpa using h)]
  simp[ByteArray.size]
 |succ k ih =>
  intro n h
  unfold nG
  split
  ·simp[ByteArray.size]
  ·rw[sa]
   have:=ih (n / 10) (by
    rw[Nat.div_lt_iff_lt_mul (by omega)]
    rw[Nat.pow_succ] at h
    exact h)
   have h1:(⟨#[UInt8.ofNat (48+n % 10)]⟩:ByteArray).size=1:=rfl
   omega
theorem Du{n:Nat}(h:n≤9223372036854775808):(nG n).size≤19:=zkv 18 n (by omega)
theorem Qy{m:Nat}(h:m≠0):F3 m=F3 (m / 10)++⟨#[UInt8.ofNat (48+m % 10)]⟩:=by
 unfold F3
 rw[if_neg h]
 rw[nG]
 split
 ·rename_i h1
  rw[if_pos (by omega)]
  have:m % 10=m:=by omega
  rw[this]
  rfl
 ·rename_i h1
  rw[if_neg (by omega)]
theorem Do(m:Nat)(x:Int)(hx:x=((m % 10:Nat):Int)):ByteArray.empty.push (UInt8.ofNat (IntKind.u8.wrap (IntKind.i64.wrap (48+x))).toNat)=⟨#[UInt8.ofNat (48+m % 10)]⟩:=by
 subst hx
 rw[w64 (by constructor<;>omega),wu8 (by omega)]
 have:(48+((m % 10:Nat):Int)).toNat=48+m % 10:=by omega
 rw[this]
 rfl
theorem K0(b:Bool):∀(k:Nat) (n:Int) (out:ByteArray),n.natAbs=k→i64 n→out.size+(F3 n.natAbs).size≤100 →
  loopW tab [0,3,4] pS {env:=upd (upd (upd emp 4 (some (Str out))) 3 (some (B b))) 0 (some (I n)),heap:=emp,fr:=0,next:=0}=some (.ext 0,{env:=upd (upd emp 4 (some (Str (F3 n.natAbs++out)))) 3 (some (B b)),heap:=emp,fr:=0,next:=0}):=by
 intro k
 induction k using Nat.strongRecOn with
 |_ k ih =>
  intro n out hk hn hs
  unfold loopW
  conv=>lhs;arg 1;unfold pS
  by_cases h0:n=0
  ·subst h0
   have:(⟨#[]⟩:ByteArray)++out=out:=ByteArray.empty_append
   simp only[go_sem,Nat.reduceEqDiff,Nat.reduceBEq,Nat.reduceAdd,Nat.reduceSub,Nat.reduceMul,Nat.reduceLeDiff,Nat.reduceLT,↓reduceIte,reduceCtorEq,Int.reduceEq,Int.reduceLE,Int.reduceLT,Int.reduceToNat,Int.reduceNeg,Int.reduceSub,Int.reduceAdd,Int.reduceMul,F3,this,Int.natAbs_zero]
  ·have hd:=Qy (m:=n.natAbs) (by omega)
   rw[hd,sa] at hs
   have h1s:(⟨#[UInt8.ofNat (48+n.natAbs % 10)]⟩:ByteArray).size=1:=rfl
   rw[h1s] at hs
   have hc:∀b,aE ⟨#[b]⟩ out:=fun b=>by show 1+out.size≤_;omega
   by_cases h1:n.tmod 10<0
   ·have hneg:n≤0:=by
     refine Int.not_lt.1 fun h=> ?_
     have:=sW (n:=n) (by omega) 10
     simp only[Int.cast_ofNat_Int] at this
     omega
    have ht:=Sz hneg 10
    have hq:=Tv hneg 10
    simp only[Int.cast_ofNat_Int] at ht hq
    have e1:IntKind.i64.wrap (-n.tmod 10)=((n.natAbs % 10:Nat):Int):=by rw[w64 (by constructor<;>omega)];omega
    have e2:IntKind.i64.wrap (n.tdiv 10)=n.tdiv 10:=w64 (by constructor<;>omega)
    simp only[go_sem,Nat.reduceEqDiff,Nat.reduceBEq,Nat.reduceAdd,Nat.reduceSub,Nat.reduceMul,Nat.reduceLeDiff,Nat.reduceLT,↓reduceIte,reduceCtorEq,Int.reduceEq,Int.reduceLE,Int.reduceLT,Int.reduceToNat,Int.reduceNeg,Int.reduceSub,Int.reduceAdd,Int.reduceMul,h0,h1,hc,e1,e2,T8,List.foldl_cons,List.foldl_nil,Do n.natAbs _ rfl,h1s,Int.zero_sub]
    rw[ih (n.natAbs / 10) (by omega) (n.tdiv 10) _ (by omega) (by constructor<;>omega) (by rw[sa,h1s,show(n.tdiv 10).natAbs=n.natAbs / 10 by omega];omega)]
    rw[show(n.tdiv 10).natAbs=n.natAbs / 10 by omega,hd,ByteArray.append_assoc]
   ·have hpos:n.tmod 10=((n.natAbs % 10:Nat):Int):=by
     by_cases h:0≤n
     ·simpa using sW h 10
     ·have:=Sz (n:=n) (by omega) 10
      simp only[Int.cast_ofNat_Int] at this
      omega
    have hq:(n.tdiv 10).natAbs=n.natAbs / 10:=by
     by_cases h:0≤n
     ·have:=Jk h 10
      simp only[Int.cast_ofNat_Int] at this
      omega
     ·have:=Tv (n:=n) (by omega) 10
      simp only[Int.cast_ofNat_Int] at this
      omega
    have e2:IntKind.i64.wrap (n.tdiv 10)=n.tdiv 10:=w64 (by constructor<;>omega)
    simp only[go_sem,Nat.reduceEqDiff,Nat.reduceBEq,Nat.reduceAdd,Nat.reduceSub,Nat.reduceMul,Nat.reduceLeDiff,Nat.reduceLT,↓reduceIte,reduceCtorEq,Int.reduceEq,Int.reduceLE,Int.reduceLT,Int.reduceToNat,Int.reduceNeg,Int.reduceSub,Int.reduceAdd,Int.reduceMul,h0,h1,hc,e2,T8,List.foldl_cons,List.foldl_nil,Do n.natAbs _ hpos,h1s]
    rw[ih (n.natAbs / 10) (by omega) (n.tdiv 10) _ (by omega) (by constructor<;>omega) (by rw[sa,h1s,hq];omega)]
    rw[hq,hd,ByteArray.append_assoc]
theorem Kr{n:Int}(hn:i64 n):call tab Al [I n]=some (Str (dig n)):=by
 rw[aY Oj _ rfl,Cu]
 by_cases h0:n=0
 ·subst h0
  have:dig 0=⟨#[48]⟩:=by
   unfold dig nG
   rfl
  simp only[go_sem,Nat.reduceEqDiff,Nat.reduceBEq,Nat.reduceAdd,Nat.reduceSub,Nat.reduceMul,Nat.reduceLeDiff,Nat.reduceLT,↓reduceIte,reduceCtorEq,Int.reduceEq,Int.reduceLE,Int.reduceLT,Int.reduceToNat,Int.reduceNeg,Int.reduceSub,Int.reduceAdd,Int.reduceMul,this]
 ·have hsz:=Du (n:=n.natAbs) (by omega)
  have hd0:F3 n.natAbs=nG n.natAbs:=by unfold F3;rw[if_neg (by omega)]
  have hl:=fun b=>K0 b n.natAbs n ⟨#[]⟩ rfl hn (by rw[hd0];have:(⟨#[]⟩:ByteArray).size=0:=rfl;omega)
  have hap:nG n.natAbs++(⟨#[]⟩:ByteArray)=nG n.natAbs:=ByteArray.append_empty
  by_cases h1:n<0
  ·have hc:aE ⟨#[45]⟩ (nG n.natAbs):=by show 1+(nG n.natAbs).size≤_;omega
   simp only[go_sem,Nat.reduceEqDiff,Nat.reduceBEq,Nat.reduceAdd,Nat.reduceSub,Nat.reduceMul,Nat.reduceLeDiff,Nat.reduceLT,↓reduceIte,reduceCtorEq,Int.reduceEq,Int.reduceLE,Int.reduceLT,Int.reduceToNat,Int.reduceNeg,Int.reduceSub,Int.reduceAdd,Int.reduceMul,h0,h1,hl,hd0,hap,dig,hc]
  ·simp only[go_sem,Nat.reduceEqDiff,Nat.reduceBEq,Nat.reduceAdd,Nat.reduceSub,Nat.reduceMul,Nat.reduceLeDiff,Nat.reduceLT,↓reduceIte,reduceCtorEq,Int.reduceEq,Int.reduceLE,Int.reduceLT,Int.reduceToNat,Int.reduceNeg,Int.reduceSub,Int.reduceAdd,Int.reduceMul,h0,h1,hl,hd0,hap,dig]
theorem Qr{d:Nat}(h:d<10):Utf8.encode (IntKind.i32.wrap (IntKind.i64.wrap (48+(d:Int))))=⟨#[UInt8.ofNat (48+d)]⟩:=by
 rw[w64 (by constructor<;>omega),w32 (by omega)]
 have:∀d:Nat,d<10→Utf8.encode (48+(d:Int))=⟨#[UInt8.ofNat (48+d)]⟩:=by
  intro d hd
  match d,hd with
  |0,_=>rfl
  |1,_=>rfl
  |2,_=>rfl
  |3,_=>rfl
  |4,_=>rfl
  |5,_=>rfl
  |6,_=>rfl
  |7,_=>rfl
  |8,_=>rfl
  |9,_=>rfl
 exact this d h
theorem M3{m:Nat}(h:m<10):nG m=⟨#[UInt8.ofNat (48+m)]⟩:=by rw[nG,if_pos h]
theorem T7{m:Nat}(h:10≤m):nG m=nG (m / 10)++⟨#[UInt8.ofNat (48+m % 10)]⟩:=by rw[nG,if_neg (by omega)]
theorem I5{n:Int}(h:n<0):dig n=⟨#[45]⟩++nG n.natAbs:=by unfold dig;rw[if_pos h]
theorem G3{n:Int}(h:0≤n):dig n=nG n.natAbs:=by unfold dig;rw[if_neg (by omega)]
theorem zjz(b:UInt8):(⟨#[b]⟩:ByteArray).size=1:=rfl
theorem Ed{n:Int}(h:i64 n):(dig n).size≤20:=by
 have:=Du (n:=n.natAbs) (by omega)
 by_cases h0:n<0
 ·rw[I5 h0,sa,zjz];omega
 ·rw[G3 (by omega)];omega
theorem H9:∀(k:Nat) (n:Int),2*n.natAbs+(if n<0 then 1 else 0)=k→i64 n→call tab i7 [I n]=some (Str (dig n)):=by
 intro k
 induction k using Nat.strongRecOn with
 |_ k ih =>
  intro n hk hn
  rw[aY N5 _ rfl,Cj]
  by_cases h0:n<0
  ·rw[if_pos h0] at hk
   have hs:=Ed hn
   by_cases h1: -10<n
   ·have e1:IntKind.i64.wrap (0-n)= -n:=by rw[w64 (by constructor<;>omega)];omega
    have hr:=ih (2*(-n).natAbs+0) (by omega) (-n) (by rw[if_neg (by omega)]) (by constructor<;>omega)
    have e2:dig n=⟨#[45]⟩++dig (-n):=by rw[I5 h0,G3 (n:= -n) (by omega)];congr 2;omega
    have hc:aE ⟨#[45]⟩ (dig (-n)):=by
     show 1+(dig (-n)).size≤_
     have:=Ed (n:= -n) (by constructor<;>omega)
     omega
    simp only[go_sem,Nat.reduceEqDiff,Nat.reduceBEq,Nat.reduceAdd,Nat.reduceSub,Nat.reduceMul,Nat.reduceLeDiff,Nat.reduceLT,↓reduceIte,reduceCtorEq,Int.reduceEq,Int.reduceLE,Int.reduceLT,Int.reduceToNat,Int.reduceNeg,Int.reduceSub,Int.reduceAdd,Int.reduceMul,h0,h1,e1,hr,hc,e2]
   ·have ht:=Sz (n:=n) (by omega) 10
    have hq:=Tv (n:=n) (by omega) 10
    simp only[Int.cast_ofNat_Int] at ht hq
    have e1:IntKind.i64.wrap (n.tdiv 10)=n.tdiv 10:=w64 (by constructor<;>omega)
    have e2:IntKind.i64.wrap (0-n.tmod 10)=((n.natAbs % 10:Nat):Int):=by rw[w64 (by constructor<;>omega)];omega
    have hr:=ih (2*(n.tdiv 10).natAbs+1) (by omega) (n.tdiv 10) (by rw[if_pos (by omega)]) (by constructor<;>omega)
    have hr2:=ih (2*(n.natAbs % 10)+0) (by omega) ((n.natAbs % 10:Nat):Int) (by rw[if_neg (by omega)];omega) (by constructor<;>omega)
    have e3:dig (n.tdiv 10)++dig ((n.natAbs % 10:Nat):Int)=dig n:=by
     rw[I5 h0,I5 (n:=n.tdiv 10) (by omega),G3 (n:=((n.natAbs % 10:Nat):Int)) (by omega),T7 (m:=n.natAbs) (by omega),←M3 (m:=n.natAbs % 10) (by omega),show(n.tdiv 10).natAbs=n.natAbs / 10 by omega,Int.natAbs_natCast,ByteArray.append_assoc]
    have hc:aE (dig (n.tdiv 10)) (dig ((n.natAbs % 10:Nat):Int)):=by
     unfold aE
     rw[←ByteArray.size_append,e3];omega
    simp only[go_sem,Nat.reduceEqDiff,Nat.reduceBEq,Nat.reduceAdd,Nat.reduceSub,Nat.reduceMul,Nat.reduceLeDiff,Nat.reduceLT,↓reduceIte,reduceCtorEq,Int.reduceEq,Int.reduceLE,Int.reduceLT,Int.reduceToNat,Int.reduceNeg,Int.reduceSub,Int.reduceAdd,Int.reduceMul,h0,h1,e1,e2,hr,hr2,hc,e3]
  ·rw[if_neg h0] at hk
   have ht:=sW (n:=n) (by omega) 10
   have hq:=Jk (n:=n) (by omega) 10
   simp only[Int.cast_ofNat_Int] at ht hq
   by_cases h1:n<10
   ·have e1:=Qr (d:=n.natAbs) (by omega)
    rw[show((n.natAbs:Nat):Int)=n by omega,←M3 (by omega),←G3 (by omega)] at e1
    simp only[go_sem,Nat.reduceEqDiff,Nat.reduceBEq,Nat.reduceAdd,Nat.reduceSub,Nat.reduceMul,Nat.reduceLeDiff,Nat.reduceLT,↓reduceIte,reduceCtorEq,Int.reduceEq,Int.reduceLE,Int.reduceLT,Int.reduceToNat,Int.reduceNeg,Int.reduceSub,Int.reduceAdd,Int.reduceMul,h0,h1,e1]
   ·have e0:=Qr (d:=n.natAbs % 10) (by omega)
    have e1:IntKind.i64.wrap (n.tdiv 10)=n.tdiv 10:=w64 (by constructor<;>omega)
    have hr:=ih (2*(n.tdiv 10).natAbs+0) (by omega) (n.tdiv 10) (by rw[if_neg (by omega)]) (by constructor<;>omega)
    rw[←ht] at e0
    have e3:dig (n.tdiv 10)++⟨#[UInt8.ofNat (48+n.natAbs % 10)]⟩=dig n:=by
     rw[G3 (n:=n) (by omega),G3 (n:=n.tdiv 10) (by omega),T7 (m:=n.natAbs) (by omega),show(n.tdiv 10).natAbs=n.natAbs / 10 by omega]
    have hc:aE (dig (n.tdiv 10)) ⟨#[UInt8.ofNat (48+n.natAbs % 10)]⟩:=by
     show(dig (n.tdiv 10)).size+1≤_
     have:=Ed (n:=n.tdiv 10) (by constructor<;>omega)
     omega
    simp only[go_sem,Nat.reduceEqDiff,Nat.reduceBEq,Nat.reduceAdd,Nat.reduceSub,Nat.reduceMul,Nat.reduceLeDiff,Nat.reduceLT,↓reduceIte,reduceCtorEq,Int.reduceEq,Int.reduceLE,Int.reduceLT,Int.reduceToNat,Int.reduceNeg,Int.reduceSub,Int.reduceAdd,Int.reduceMul,h0,h1,e0,e1,hr,hc,e3]
theorem Mt{n:Int}(hn:i64 n):call tab i7 [I n]=some (Str (dig n)):=H9 _ n rfl hn
set_option maxRecDepth 8000
set_option maxHeartbeats 4000000
def Gr(k:Int):ByteArray:=⟨#[109]⟩++nG k.toNat
theorem F4:∀(m n:Nat) (out:ByteArray),n=m→(n:Int)≤9223372036854775807→out.size+(F3 n).size≤100 →
  loopW tab [0,3] nY {env:=upd (upd emp 3 (some (Str out))) 0 (some (I (n:Int))),heap:=emp,fr:=0,next:=0}=some (.ext 0,{env:=upd emp 3 (some (Str (F3 n++out))),heap:=emp,fr:=0,next:=0}):=by
 intro m
 induction m using Nat.strongRecOn with
 |_ m ih =>
  intro n out hm hn hs
  unfold loopW
  conv=>lhs;arg 1;unfold nY
  by_cases h0:n=0
  ·subst h0
   have h1:(⟨#[]⟩:ByteArray)++out=out:=ByteArray.empty_append
   simp -implicitDefEqProofs (disch:=first|assumption|omega|(simp only[aE,aM,aF,i64,sa,aD,lm,la,lc,ln];omega)) only[go_sem,simprocAttr,F3,h1]
  ·have hd:=Qy h0
   rw[hd,sa,zjz] at hs
   have hc:∀b,aE ⟨#[b]⟩ out:=fun b=>by show 1+out.size≤_;omega
   have h1:(n:Int).tmod 10=((n % 10:Nat):Int):=by
    have:=sW (n:=(n:Int)) (by omega) 10
    simpa using this
   have h2:(n:Int).tdiv 10=((n / 10:Nat):Int):=by
    have:=Jk (n:=(n:Int)) (by omega) 10
    simpa using this
   have e2:IntKind.i64.wrap ((n / 10:Nat):Int)=((n / 10:Nat):Int):=w64 (by constructor<;>omega)
   have h3:=Do n ((n:Int).tmod 10) h1
   rw[h1] at h3
   have ih':=ih (n / 10) (by omega) (n / 10) (⟨#[UInt8.ofNat (48+n % 10)]⟩++out) rfl (by omega) (by rw[sa,zjz];omega)
   have hg:(0:Int)<(n:Int):=by omega
   simp only[go_sem,Nat.reduceEqDiff,Nat.reduceBEq,Nat.reduceAdd,Nat.reduceSub,Nat.reduceMul,Nat.reduceLeDiff,Nat.reduceLT,↓reduceIte,reduceCtorEq,Int.reduceEq,Int.reduceLE,Int.reduceLT,Int.reduceToNat,Int.reduceNeg,Int.reduceSub,Int.reduceAdd,Int.reduceMul,hg,h1,h2,e2,hc,T8,List.foldl_cons,List.foldl_nil,h3,zjz]
   rw[ih',hd,ByteArray.append_assoc]
theorem oQ(k:Int)(hk:0≤k∧k≤4611686018427387904):call tab gW [I k]=some (Str (Gr k)):=by
 rw[aY Ir _ rfl,yE]
 by_cases h0:k≤0
 ·have:k=0:=by omega
  subst this
  have h1:Gr 0=⟨#[109,48]⟩:=by unfold Gr nG;rfl
  simp -implicitDefEqProofs (disch:=first|assumption|omega|(simp only[aE,aM,aF,i64,sa,aD,lm,la,lc,ln];omega)) only[go_sem,simprocAttr,h1]
 ·have hsz:=Du (n:=k.toNat) (by omega)
  have hd0:F3 k.toNat=nG k.toNat:=by unfold F3;rw[if_neg (by omega)]
  have hl:=F4 k.toNat k.toNat ⟨#[]⟩ rfl (by omega) (by rw[hd0];have:(⟨#[]⟩:ByteArray).size=0:=rfl;omega)
  rw[show((k.toNat:Nat):Int)=k by omega,hd0,show nG k.toNat++(⟨#[]⟩:ByteArray)=nG k.toNat from ByteArray.append_empty] at hl
  have hc:aE ⟨#[109]⟩ (nG k.toNat):=by show 1+(nG k.toNat).size≤_;omega
  have h1:Gr k=⟨#[109]⟩++nG k.toNat:=rfl
  simp -implicitDefEqProofs (disch:=first|assumption|omega|(simp only[aE,aM,aF,i64,sa,aD,lm,la,lc,ln];omega)) only[go_sem,simprocAttr,h0,hl,hc,h1]
end Go.Ev.G
