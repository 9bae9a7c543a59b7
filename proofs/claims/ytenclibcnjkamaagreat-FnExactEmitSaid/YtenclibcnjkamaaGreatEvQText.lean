import Derived.Test.YtenclibcnjkamaaGreatEvBase
import Derived.Test.YtenclibcnjkamaaGreatEvTab
set_option linter.all false
namespace Go.Ev.G
attribute [go_sem] ltT ltF leT leF neF eqT baT baF bvT bvF z7L mkT z7D Ec List.length_map Int.toNat_natCast Bool.not_not zKJ zJd zJv zyI zk7 zvY zkK zvo zkr zqW zwz zwV zWY zJt zQJ zyP
set_option maxRecDepth 8000
set_option maxHeartbeats 4000000
theorem z8(xs:List Int)(hx:xs.length≤1048576):∀(B A:List Int),xs=A++B →
  loopW tab [0,3,4] mR {env:=upd (upd (upd emp 4 (some (I (A.length:Int)))) 3 (some (.ref (0,0) []))) 0 (some (.d (.r (aG xs)))),heap:=upd emp (0,0) (some (.s 1 (aG A++List.replicate B.length [DI 0]))),fr:=0,next:=1}=some (.ext 0,{env:=upd emp 3 (some (.ref (0,0) [])),heap:=upd emp (0,0) (some (.s 1 (aG xs))),fr:=0,next:=1})
 |[],A,h=>by
  rw[List.append_nil] at h
  subst h
  unfold loopW
  conv=>lhs;arg 1;unfold mR
  simp -implicitDefEqProofs (disch:=first|assumption|omega|(simp only[aE,aM,aF,i64,sa,aD,lm,la,lc,ln];omega)) only[go_sem,simprocAttr,aG,List.replicate_zero]
 |x::B,A,h=>by
  unfold loopW
  conv=>lhs;arg 1;unfold mR
  have hl:xs.length=A.length+(B.length+1):=by rw[h];simp
  have h2:(aG xs)[A.length]? = some [DI x]:=by rw[h];simp
  have ih:=z8 xs hx B (A++[x]) (by simp[h])
  rw[show(((A++[x]).length:Nat):Int)=(A.length:Int)+1 by simp] at ih
  simp only[aG,List.map_append,mc,mn,List.append_assoc,List.cons_append,List.nil_append] at ih h2
  simp -implicitDefEqProofs (disch:=first|assumption|omega|(simp only[aE,aM,aF,i64,sa,aD,lm,la,lc,ln];omega)) only[go_sem,simprocAttr,aG,lc,List.replicate_succ,Fh,Eb,Ej,h2,ih]
theorem J1(xs:List Int)(hx:xs.length≤1048576):call tab Am [.d (.r (aG xs))]=some (.d (.s 1 (aG xs))):=by
 rw[aY Nf _ rfl,Ck]
 have hl:=z8 xs hx xs [] rfl
 simp only[aG,mn,List.nil_append,ln,Int.cast_ofNat_Int] at hl
 simp -implicitDefEqProofs (disch:=first|assumption|omega|(simp only[aE,aM,aF,i64,sa,aD,lm,la,lc,ln];omega)) only[go_sem,simprocAttr,aG,hl]
theorem Ba(xs:List Int)(hx:xs.length≤1048576):∀(B A:List Int),xs=A++B →
  loopW tab [0,1,5] mN {env:=upd (upd (upd emp 5 (some (I (A.length:Int)))) 1 (some (.d (.r (aG xs))))) 0 (some (.d (.r (aG xs)))),heap:=emp,fr:=0,next:=0}=some (.ext 0,{env:=emp,heap:=emp,fr:=0,next:=0})
 |[],A,h=>by
  rw[List.append_nil] at h
  subst h
  unfold loopW
  conv=>lhs;arg 1;unfold mN
  simp -implicitDefEqProofs (disch:=first|assumption|omega|(simp only[aE,aM,aF,i64,sa,aD,lm,la,lc,ln];omega)) only[go_sem,simprocAttr,aG]
 |x::B,A,h=>by
  unfold loopW
  conv=>lhs;arg 1;unfold mN
  have hl:xs.length=A.length+(B.length+1):=by rw[h];simp
  have h2:(aG xs)[A.length]? = some [DI x]:=by rw[h];simp
  have ih:=Ba xs hx B (A++[x]) (by simp[h])
  rw[show(((A++[x]).length:Nat):Int)=(A.length:Int)+1 by simp] at ih
  simp only[aG] at ih h2
  simp -implicitDefEqProofs (disch:=first|assumption|omega|(simp only[aE,aM,aF,i64,sa,aD,lm,la,lc,ln];omega)) only[go_sem,simprocAttr,aG,h2,ih]
theorem Mo(xs:List Int)(hx:xs.length≤1048576):call tab zO [.d (.r (aG xs)),.d (.r (aG xs))]=some (B true):=by
 rw[aY Od _ rfl,Cu]
 have hl:=Ba xs hx xs [] rfl
 simp only[aG,ln,Int.cast_ofNat_Int] at hl
 simp -implicitDefEqProofs (disch:=first|assumption|omega|(simp only[aE,aM,aF,i64,sa,aD,lm,la,lc,ln];omega)) only[go_sem,simprocAttr,aG,hl]
theorem Mu(xs:List Int)(n:Int)(hn: -1≤n∧n≤1048576)(hx:xs.length≤4611686018427387904):call tab yU [.d (.r (aG xs)),I n]=some (I (if n-xs.length<0 then -1 else n-xs.length)):=by
 rw[aY Nz _ rfl,Ci]
 by_cases h:n-(xs.length:Int)<0
 ·rw[if_pos h]
  simp -implicitDefEqProofs (disch:=first|assumption|omega|(simp only[aE,aM,aF,i64,sa,aD,lm,la,lc,ln];omega)) only[go_sem,simprocAttr,aG,h]
 ·rw[if_neg h]
  simp -implicitDefEqProofs (disch:=first|assumption|omega|(simp only[aE,aM,aF,i64,sa,aD,lm,la,lc,ln];omega)) only[go_sem,simprocAttr,aG,h]
def Lx:Int→List Int→List Int
 |_,[]=>[]
 |k,_::ns=>k::Lx (k+1) ns
theorem wD:∀(B A:List Int) (k:Int),A.length+B.length≤1099511627776→0≤k∧k+B.length≤4611686018427387904 →
  loopW tab [0,1,5] kK {env:=upd (upd (upd emp 5 (some (I (A.length:Int)))) 1 (some (I k))) 0 (some (.ref (0,0) [])),heap:=upd emp (0,0) (some (.s 1 (A.map (fun n=>[DI n])++B.map (fun n=>[DI n])))),fr:=1,next:=0}=some (.ext 0,{env:=upd emp 1 (some (I (k+B.length))),heap:=upd emp (0,0) (some (.s 1 (A.map (fun n=>[DI n])++(Lx k B).map (fun n=>[DI n])))),fr:=1,next:=0})
 |[],A,k,h,hk=>by
  unfold loopW
  conv=>lhs;arg 1;unfold kK
  simp -implicitDefEqProofs (disch:=first|assumption|omega|(simp only[aE,aM,aF,i64,sa,aD,lm,la,lc,ln];omega)) only[go_sem,simprocAttr,Lx,Int.add_zero]
 |x::B,A,k,h,hk=>by
  unfold loopW
  conv=>lhs;arg 1;unfold kK
  simp only[lc] at h hk
  have ih:=wD B (A++[k]) (k+1) (by simp;omega) (by omega)
  rw[show(((A++[k]).length:Nat):Int)=(A.length:Int)+1 by simp,show k+1+(B.length:Int)=k+((B.length+1:Nat):Int) by omega] at ih
  simp only[List.map_append,mc,mn,List.append_assoc,List.cons_append,List.nil_append] at ih
  simp -implicitDefEqProofs (disch:=first|assumption|omega|(simp only[aE,aM,aF,i64,sa,aD,lm,la,lc,ln];omega)) only[go_sem,simprocAttr,Lx,lc,Fh,Eb,Ej,ih]
theorem Gb(ns:List Int)(k:Int)(h:ns.length≤1099511627776)(hk:0≤k∧k+ns.length≤4611686018427387904):evCW tab uO [.ref (0,0) [],I k] (upd emp (0,0) (some (.s 1 (aG ns)))) 1=some (I (k+ns.length),upd emp (0,0) (some (.s 1 (aG (Lx k ns))))):=by
 rw[aR Is _ _ _ rfl,xV]
 have hl:=wD ns [] k (by simpa using h) hk
 simp only[mn,List.nil_append,ln,Int.cast_ofNat_Int] at hl
 simp -implicitDefEqProofs (disch:=first|assumption|omega|(simp only[aE,aM,aF,i64,sa,aD,lm,la,lc,ln];omega)) only[go_sem,simprocAttr,aG,hl]
set_option maxRecDepth 4000
set_option maxHeartbeats 2000000
theorem E8(x lo hi:Int):call tab eM [I x,I lo,I hi]=some (B (decide (lo≤x)&&decide (x≤hi))):=by
 rw[aY Wo _ rfl,Hm]
 by_cases h:lo≤x
 ·simp only[go_sem,Nat.reduceEqDiff,Nat.reduceBEq,Nat.reduceAdd,Nat.reduceSub,Nat.reduceMul,Nat.reduceLeDiff,Nat.reduceLT,↓reduceIte,reduceCtorEq,Int.reduceEq,Int.reduceLE,Int.reduceLT,Int.reduceToNat,Int.reduceNeg,Int.reduceSub,Int.reduceAdd,Int.reduceMul,h]
 ·simp only[go_sem,Nat.reduceEqDiff,Nat.reduceBEq,Nat.reduceAdd,Nat.reduceSub,Nat.reduceMul,Nat.reduceLeDiff,Nat.reduceLT,↓reduceIte,reduceCtorEq,Int.reduceEq,Int.reduceLE,Int.reduceLT,Int.reduceToNat,Int.reduceNeg,Int.reduceSub,Int.reduceAdd,Int.reduceMul,h]
theorem Ab(x lo hi:Int):call tab dO [I x,I lo,I hi]=some (B (decide (lo≤x)&&decide (x≤hi))):=by
 rw[aY N2 _ rfl,Cf]
 by_cases h:lo≤x
 ·simp only[go_sem,Nat.reduceEqDiff,Nat.reduceBEq,Nat.reduceAdd,Nat.reduceSub,Nat.reduceMul,Nat.reduceLeDiff,Nat.reduceLT,↓reduceIte,reduceCtorEq,Int.reduceEq,Int.reduceLE,Int.reduceLT,Int.reduceToNat,Int.reduceNeg,Int.reduceSub,Int.reduceAdd,Int.reduceMul,h]
 ·simp only[go_sem,Nat.reduceEqDiff,Nat.reduceBEq,Nat.reduceAdd,Nat.reduceSub,Nat.reduceMul,Nat.reduceLeDiff,Nat.reduceLT,↓reduceIte,reduceCtorEq,Int.reduceEq,Int.reduceLE,Int.reduceLT,Int.reduceToNat,Int.reduceNeg,Int.reduceSub,Int.reduceAdd,Int.reduceMul,h]
def nG(n:Nat):ByteArray:=if n<10 then⟨#[UInt8.ofNat (48+n)]⟩ else nG (n / 10)++⟨#[UInt8.ofNat (48+n % 10)]⟩
def F7(n:Nat):ByteArray:=if n=0 then⟨#[]⟩ else nG n
def dig(n:Int):ByteArray:=if n<0 then⟨#[45]⟩++nG n.natAbs else nG n.natAbs
theorem zqY:∀(k n:Nat),n<10 ^ (k+1)→(nG n).size≤k+1:=by
 intro k
 induction k with
 |zero =>
  intro n h
  unfold nG
  rw[if_pos (by simpa using h)]
  simp[ByteArray.size]
 |succ k ih =>
  intro n h
  unfold nG
  split
  ·simp[ByteArray.size]
  ·rw[sa]
   have:=ih (n / 10) (by
    rw[Nat.div_lt_iff_lt_mul (by omega)]
    rw[Nat.pow_succ] at h
    exact h)
   have h1:(⟨#[UInt8.ofNat (48+n % 10)]⟩:ByteArray).size=1:=rfl
   omega
theorem Du{n:Nat}(h:n≤9223372036854775808):(nG n).size≤19:=zqY 18 n (by omega)
theorem P0{m:Nat}(h:m≠0):F7 m=F7 (m / 10)++⟨#[UInt8.ofNat (48+m % 10)]⟩:=by
 unfold F7
 rw[if_neg h]
 rw[nG]
 split
 ·rename_i h1
  rw[if_pos (by omega)]
  have:m % 10=m:=by omega
  rw[this]
  rfl
 ·rename_i h1
  rw[if_neg (by omega)]
theorem Dt(m:Nat)(x:Int)(hx:x=((m % 10:Nat):Int)):ByteArray.empty.push (UInt8.ofNat (IntKind.u8.wrap (IntKind.i64.wrap (48+x))).toNat)=⟨#[UInt8.ofNat (48+m % 10)]⟩:=by
 subst hx
 rw[w64 (by constructor<;>omega),wu8 (by omega)]
 have:(48+((m % 10:Nat):Int)).toNat=48+m % 10:=by omega
 rw[this]
 rfl
theorem Js(b:Bool):∀(k:Nat) (n:Int) (out:ByteArray),n.natAbs=k→i64 n→out.size+(F7 n.natAbs).size≤100 →
  loopW tab [0,3,4] pS {env:=upd (upd (upd emp 4 (some (Str out))) 3 (some (B b))) 0 (some (I n)),heap:=emp,fr:=0,next:=0}=some (.ext 0,{env:=upd (upd emp 4 (some (Str (F7 n.natAbs++out)))) 3 (some (B b)),heap:=emp,fr:=0,next:=0}):=by
 intro k
 induction k using Nat.strongRecOn with
 |_ k ih =>
  intro n out hk hn hs
  unfold loopW
  conv=>lhs;arg 1;unfold pS
  by_cases h0:n=0
  ·subst h0
   have:(⟨#[]⟩:ByteArray)++out=out:=ByteArray.empty_append
   simp only[go_sem,Nat.reduceEqDiff,Nat.reduceBEq,Nat.reduceAdd,Nat.reduceSub,Nat.reduceMul,Nat.reduceLeDiff,Nat.reduceLT,↓reduceIte,reduceCtorEq,Int.reduceEq,Int.reduceLE,Int.reduceLT,Int.reduceToNat,Int.reduceNeg,Int.reduceSub,Int.reduceAdd,Int.reduceMul,F7,this,Int.natAbs_zero]
  ·have hd:=P0 (m:=n.natAbs) (by omega)
   rw[hd,sa] at hs
   have h1s:(⟨#[UInt8.ofNat (48+n.natAbs % 10)]⟩:ByteArray).size=1:=rfl
   rw[h1s] at hs
   have hc:∀b,aE ⟨#[b]⟩ out:=fun b=>by show 1+out.size≤_;omega
   by_cases h1:n.tmod 10<0
   ·have hneg:n≤0:=by
     refine Int.not_lt.1 fun h=> ?_
     have:=s6 (n:=n) (by omega) 10
     simp only[Int.cast_ofNat_Int] at this
     omega
    have ht:=Rn hneg 10
    have hq:=T0 hneg 10
    simp only[Int.cast_ofNat_Int] at ht hq
    have e1:IntKind.i64.wrap (-n.tmod 10)=((n.natAbs % 10:Nat):Int):=by rw[w64 (by constructor<;>omega)];omega
    have e2:IntKind.i64.wrap (n.tdiv 10)=n.tdiv 10:=w64 (by constructor<;>omega)
    simp only[go_sem,Nat.reduceEqDiff,Nat.reduceBEq,Nat.reduceAdd,Nat.reduceSub,Nat.reduceMul,Nat.reduceLeDiff,Nat.reduceLT,↓reduceIte,reduceCtorEq,Int.reduceEq,Int.reduceLE,Int.reduceLT,Int.reduceToNat,Int.reduceNeg,Int.reduceSub,Int.reduceAdd,Int.reduceMul,h0,h1,hc,e1,e2,U4,List.foldl_cons,List.foldl_nil,Dt n.natAbs _ rfl,h1s,Int.zero_sub]
    rw[ih (n.natAbs / 10) (by omega) (n.tdiv 10) _ (by omega) (by constructor<;>omega) (by rw[sa,h1s,show(n.tdiv 10).natAbs=n.natAbs / 10 by omega];omega)]
    rw[show(n.tdiv 10).natAbs=n.natAbs / 10 by omega,hd,ByteArray.append_assoc]
   ·have hpos:n.tmod 10=((n.natAbs % 10:Nat):Int):=by
     by_cases h:0≤n
     ·simpa using s6 h 10
     ·have:=Rn (n:=n) (by omega) 10
      simp only[Int.cast_ofNat_Int] at this
      omega
    have hq:(n.tdiv 10).natAbs=n.natAbs / 10:=by
     by_cases h:0≤n
     ·have:=Jj h 10
      simp only[Int.cast_ofNat_Int] at this
      omega
     ·have:=T0 (n:=n) (by omega) 10
      simp only[Int.cast_ofNat_Int] at this
      omega
    have e2:IntKind.i64.wrap (n.tdiv 10)=n.tdiv 10:=w64 (by constructor<;>omega)
    simp only[go_sem,Nat.reduceEqDiff,Nat.reduceBEq,Nat.reduceAdd,Nat.reduceSub,Nat.reduceMul,Nat.reduceLeDiff,Nat.reduceLT,↓reduceIte,reduceCtorEq,Int.reduceEq,Int.reduceLE,Int.reduceLT,Int.reduceToNat,Int.reduceNeg,Int.reduceSub,Int.reduceAdd,Int.reduceMul,h0,h1,hc,e2,U4,List.foldl_cons,List.foldl_nil,Dt n.natAbs _ hpos,h1s]
    rw[ih (n.natAbs / 10) (by omega) (n.tdiv 10) _ (by omega) (by constructor<;>omega) (by rw[sa,h1s,hq];omega)]
    rw[hq,hd,ByteArray.append_assoc]
theorem M9{n:Int}(hn:i64 n):call tab An [I n]=some (Str (dig n)):=by
 rw[aY Nt _ rfl,C0]
 by_cases h0:n=0
 ·subst h0
  have:dig 0=⟨#[48]⟩:=by
   unfold dig nG
   rfl
  simp only[go_sem,Nat.reduceEqDiff,Nat.reduceBEq,Nat.reduceAdd,Nat.reduceSub,Nat.reduceMul,Nat.reduceLeDiff,Nat.reduceLT,↓reduceIte,reduceCtorEq,Int.reduceEq,Int.reduceLE,Int.reduceLT,Int.reduceToNat,Int.reduceNeg,Int.reduceSub,Int.reduceAdd,Int.reduceMul,this]
 ·have hsz:=Du (n:=n.natAbs) (by omega)
  have hd0:F7 n.natAbs=nG n.natAbs:=by unfold F7;rw[if_neg (by omega)]
  have hl:=fun b=>Js b n.natAbs n ⟨#[]⟩ rfl hn (by rw[hd0];have:(⟨#[]⟩:ByteArray).size=0:=rfl;omega)
  have hap:nG n.natAbs++(⟨#[]⟩:ByteArray)=nG n.natAbs:=ByteArray.append_empty
  by_cases h1:n<0
  ·have hc:aE ⟨#[45]⟩ (nG n.natAbs):=by show 1+(nG n.natAbs).size≤_;omega
   simp only[go_sem,Nat.reduceEqDiff,Nat.reduceBEq,Nat.reduceAdd,Nat.reduceSub,Nat.reduceMul,Nat.reduceLeDiff,Nat.reduceLT,↓reduceIte,reduceCtorEq,Int.reduceEq,Int.reduceLE,Int.reduceLT,Int.reduceToNat,Int.reduceNeg,Int.reduceSub,Int.reduceAdd,Int.reduceMul,h0,h1,hl,hd0,hap,dig,hc]
  ·simp only[go_sem,Nat.reduceEqDiff,Nat.reduceBEq,Nat.reduceAdd,Nat.reduceSub,Nat.reduceMul,Nat.reduceLeDiff,Nat.reduceLT,↓reduceIte,reduceCtorEq,Int.reduceEq,Int.reduceLE,Int.reduceLT,Int.reduceToNat,Int.reduceNeg,Int.reduceSub,Int.reduceAdd,Int.reduceMul,h0,h1,hl,hd0,hap,dig]
theorem Qo{d:Nat}(h:d<10):Utf8.encode (IntKind.i32.wrap (IntKind.i64.wrap (48+(d:Int))))=⟨#[UInt8.ofNat (48+d)]⟩:=by
 rw[w64 (by constructor<;>omega),w32 (by omega)]
 have:∀d:Nat,d<10→Utf8.encode (48+(d:Int))=⟨#[UInt8.ofNat (48+d)]⟩:=by
  intro d hd
  match d,hd with
  |0,_=>rfl
  |1,_=>rfl
  |2,_=>rfl
  |3,_=>rfl
  |4,_=>rfl
  |5,_=>rfl
  |6,_=>rfl
  |7,_=>rfl
  |8,_=>rfl
  |9,_=>rfl
 exact this d h
theorem Mw{m:Nat}(h:m<10):nG m=⟨#[UInt8.ofNat (48+m)]⟩:=by rw[nG,if_pos h]
theorem Xx{m:Nat}(h:10≤m):nG m=nG (m / 10)++⟨#[UInt8.ofNat (48+m % 10)]⟩:=by rw[nG,if_neg (by omega)]
theorem Jf{n:Int}(h:n<0):dig n=⟨#[45]⟩++nG n.natAbs:=by unfold dig;rw[if_pos h]
theorem Gt{n:Int}(h:0≤n):dig n=nG n.natAbs:=by unfold dig;rw[if_neg (by omega)]
theorem zqK(b:UInt8):(⟨#[b]⟩:ByteArray).size=1:=rfl
theorem Eu{n:Int}(h:i64 n):(dig n).size≤20:=by
 have:=Du (n:=n.natAbs) (by omega)
 by_cases h0:n<0
 ·rw[Jf h0,sa,zqK];omega
 ·rw[Gt (by omega)];omega
theorem I2:∀(k:Nat) (n:Int),2*n.natAbs+(if n<0 then 1 else 0)=k→i64 n→call tab i8 [I n]=some (Str (dig n)):=by
 intro k
 induction k using Nat.strongRecOn with
 |_ k ih =>
  intro n hk hn
  rw[aY Ni _ rfl,Cr]
  by_cases h0:n<0
  ·rw[if_pos h0] at hk
   have hs:=Eu hn
   by_cases h1: -10<n
   ·have e1:IntKind.i64.wrap (0-n)= -n:=by rw[w64 (by constructor<;>omega)];omega
    have hr:=ih (2*(-n).natAbs+0) (by omega) (-n) (by rw[if_neg (by omega)]) (by constructor<;>omega)
    have e2:dig n=⟨#[45]⟩++dig (-n):=by rw[Jf h0,Gt (n:= -n) (by omega)];congr 2;omega
    have hc:aE ⟨#[45]⟩ (dig (-n)):=by
     show 1+(dig (-n)).size≤_
     have:=Eu (n:= -n) (by constructor<;>omega)
     omega
    simp only[go_sem,Nat.reduceEqDiff,Nat.reduceBEq,Nat.reduceAdd,Nat.reduceSub,Nat.reduceMul,Nat.reduceLeDiff,Nat.reduceLT,↓reduceIte,reduceCtorEq,Int.reduceEq,Int.reduceLE,Int.reduceLT,Int.reduceToNat,Int.reduceNeg,Int.reduceSub,Int.reduceAdd,Int.reduceMul,h0,h1,e1,hr,hc,e2]
   ·have ht:=Rn (n:=n) (by omega) 10
    have hq:=T0 (n:=n) (by omega) 10
    simp only[Int.cast_ofNat_Int] at ht hq
    have e1:IntKind.i64.wrap (n.tdiv 10)=n.tdiv 10:=w64 (by constructor<;>omega)
    have e2:IntKind.i64.wrap (0-n.tmod 10)=((n.natAbs % 10:Nat):Int):=by rw[w64 (by constructor<;>omega)];omega
    have hr:=ih (2*(n.tdiv 10).natAbs+1) (by omega) (n.tdiv 10) (by rw[if_pos (by omega)]) (by constructor<;>omega)
    have hr2:=ih (2*(n.natAbs % 10)+0) (by omega) ((n.natAbs % 10:Nat):Int) (by rw[if_neg (by omega)];omega) (by constructor<;>omega)
    have e3:dig (n.tdiv 10)++dig ((n.natAbs % 10:Nat):Int)=dig n:=by
     rw[Jf h0,Jf (n:=n.tdiv 10) (by omega),Gt (n:=((n.natAbs % 10:Nat):Int)) (by omega),Xx (m:=n.natAbs) (by omega),←Mw (m:=n.natAbs % 10) (by omega),show(n.tdiv 10).natAbs=n.natAbs / 10 by omega,Int.natAbs_natCast,ByteArray.append_assoc]
    have hc:aE (dig (n.tdiv 10)) (dig ((n.natAbs % 10:Nat):Int)):=by
     unfold aE
     rw[←ByteArray.size_append,e3];omega
    simp only[go_sem,Nat.reduceEqDiff,Nat.reduceBEq,Nat.reduceAdd,Nat.reduceSub,Nat.reduceMul,Nat.reduceLeDiff,Nat.reduceLT,↓reduceIte,reduceCtorEq,Int.reduceEq,Int.reduceLE,Int.reduceLT,Int.reduceToNat,Int.reduceNeg,Int.reduceSub,Int.reduceAdd,Int.reduceMul,h0,h1,e1,e2,hr,hr2,hc,e3]
  ·rw[if_neg h0] at hk
   have ht:=s6 (n:=n) (by omega) 10
   have hq:=Jj (n:=n) (by omega) 10
   simp only[Int.cast_ofNat_Int] at ht hq
   by_cases h1:n<10
   ·have e1:=Qo (d:=n.natAbs) (by omega)
    rw[show((n.natAbs:Nat):Int)=n by omega,←Mw (by omega),←Gt (by omega)] at e1
    simp only[go_sem,Nat.reduceEqDiff,Nat.reduceBEq,Nat.reduceAdd,Nat.reduceSub,Nat.reduceMul,Nat.reduceLeDiff,Nat.reduceLT,↓reduceIte,reduceCtorEq,Int.reduceEq,Int.reduceLE,Int.reduceLT,Int.reduceToNat,Int.reduceNeg,Int.reduceSub,Int.reduceAdd,Int.reduceMul,h0,h1,e1]
   ·have e0:=Qo (d:=n.natAbs % 10) (by omega)
    have e1:IntKind.i64.wrap (n.tdiv 10)=n.tdiv 10:=w64 (by constructor<;>omega)
    have hr:=ih (2*(n.tdiv 10).natAbs+0) (by omega) (n.tdiv 10) (by rw[if_neg (by omega)]) (by constructor<;>omega)
    rw[←ht] at e0
    have e3:dig (n.tdiv 10)++⟨#[UInt8.ofNat (48+n.natAbs % 10)]⟩=dig n:=by
     rw[Gt (n:=n) (by omega),Gt (n:=n.tdiv 10) (by omega),Xx (m:=n.natAbs) (by omega),show(n.tdiv 10).natAbs=n.natAbs / 10 by omega]
    have hc:aE (dig (n.tdiv 10)) ⟨#[UInt8.ofNat (48+n.natAbs % 10)]⟩:=by
     show(dig (n.tdiv 10)).size+1≤_
     have:=Eu (n:=n.tdiv 10) (by constructor<;>omega)
     omega
    simp only[go_sem,Nat.reduceEqDiff,Nat.reduceBEq,Nat.reduceAdd,Nat.reduceSub,Nat.reduceMul,Nat.reduceLeDiff,Nat.reduceLT,↓reduceIte,reduceCtorEq,Int.reduceEq,Int.reduceLE,Int.reduceLT,Int.reduceToNat,Int.reduceNeg,Int.reduceSub,Int.reduceAdd,Int.reduceMul,h0,h1,e0,e1,hr,hc,e3]
theorem Ke{n:Int}(hn:i64 n):call tab i8 [I n]=some (Str (dig n)):=I2 _ n rfl hn
set_option maxRecDepth 8000
set_option maxHeartbeats 4000000
def F3(k:Int):ByteArray:=⟨#[109]⟩++nG k.toNat
theorem G9:∀(m n:Nat) (out:ByteArray),n=m→(n:Int)≤9223372036854775807→out.size+(F7 n).size≤100 →
  loopW tab [0,3] nY {env:=upd (upd emp 3 (some (Str out))) 0 (some (I (n:Int))),heap:=emp,fr:=0,next:=0}=some (.ext 0,{env:=upd emp 3 (some (Str (F7 n++out))),heap:=emp,fr:=0,next:=0}):=by
 intro m
 induction m using Nat.strongRecOn with
 |_ m ih =>
  intro n out hm hn hs
  unfold loopW
  conv=>lhs;arg 1;unfold nY
  by_cases h0:n=0
  ·subst h0
   have h1:(⟨#[]⟩:ByteArray)++out=out:=ByteArray.empty_append
   simp -implicitDefEqProofs (disch:=first|assumption|omega|(simp only[aE,aM,aF,i64,sa,aD,lm,la,lc,ln];omega)) only[go_sem,simprocAttr,F7,h1]
  ·have hd:=P0 h0
   rw[hd,sa,zqK] at hs
   have hc:∀b,aE ⟨#[b]⟩ out:=fun b=>by show 1+out.size≤_;omega
   have h1:(n:Int).tmod 10=((n % 10:Nat):Int):=by
    have:=s6 (n:=(n:Int)) (by omega) 10
    simpa using this
   have h2:(n:Int).tdiv 10=((n / 10:Nat):Int):=by
    have:=Jj (n:=(n:Int)) (by omega) 10
    simpa using this
   have e2:IntKind.i64.wrap ((n / 10:Nat):Int)=((n / 10:Nat):Int):=w64 (by constructor<;>omega)
   have h3:=Dt n ((n:Int).tmod 10) h1
   rw[h1] at h3
   have ih':=ih (n / 10) (by omega) (n / 10) (⟨#[UInt8.ofNat (48+n % 10)]⟩++out) rfl (by omega) (by rw[sa,zqK];omega)
   have hg:(0:Int)<(n:Int):=by omega
   simp only[go_sem,Nat.reduceEqDiff,Nat.reduceBEq,Nat.reduceAdd,Nat.reduceSub,Nat.reduceMul,Nat.reduceLeDiff,Nat.reduceLT,↓reduceIte,reduceCtorEq,Int.reduceEq,Int.reduceLE,Int.reduceLT,Int.reduceToNat,Int.reduceNeg,Int.reduceSub,Int.reduceAdd,Int.reduceMul,hg,h1,h2,e2,hc,U4,List.foldl_cons,List.foldl_nil,h3,zqK]
   rw[ih',hd,ByteArray.append_assoc]
theorem oV(k:Int)(hk:0≤k∧k≤4611686018427387904):call tab gW [I k]=some (Str (F3 k)):=by
 rw[aY Iy _ rfl,xX]
 by_cases h0:k≤0
 ·have:k=0:=by omega
  subst this
  have h1:F3 0=⟨#[109,48]⟩:=by unfold F3 nG;rfl
  simp -implicitDefEqProofs (disch:=first|assumption|omega|(simp only[aE,aM,aF,i64,sa,aD,lm,la,lc,ln];omega)) only[go_sem,simprocAttr,h1]
 ·have hsz:=Du (n:=k.toNat) (by omega)
  have hd0:F7 k.toNat=nG k.toNat:=by unfold F7;rw[if_neg (by omega)]
  have hl:=G9 k.toNat k.toNat ⟨#[]⟩ rfl (by omega) (by rw[hd0];have:(⟨#[]⟩:ByteArray).size=0:=rfl;omega)
  rw[show((k.toNat:Nat):Int)=k by omega,hd0,show nG k.toNat++(⟨#[]⟩:ByteArray)=nG k.toNat from ByteArray.append_empty] at hl
  have hc:aE ⟨#[109]⟩ (nG k.toNat):=by show 1+(nG k.toNat).size≤_;omega
  have h1:F3 k=⟨#[109]⟩++nG k.toNat:=rfl
  simp -implicitDefEqProofs (disch:=first|assumption|omega|(simp only[aE,aM,aF,i64,sa,aD,lm,la,lc,ln];omega)) only[go_sem,simprocAttr,h0,hl,hc,h1]
end Go.Ev.G
