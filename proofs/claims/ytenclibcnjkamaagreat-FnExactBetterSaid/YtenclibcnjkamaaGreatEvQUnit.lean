import Derived.Test.YtenclibcnjkamaaGreatEvQText
set_option linter.all false
namespace Go.Ev.G
set_option maxRecDepth 8000
set_option maxHeartbeats 4000000
structure ZA where
 fOp:Int
 fD:Int
 fA:Int
 fB:Int
 fN:Int
 fS:ByteArray
 fArgs:List Int
def ZA.r(x:ZA):List D:=[DI x.fOp,DI x.fD,DI x.fA,DI x.fB,DI x.fN,DS x.fS,.r (aP x.fArgs)]
def ZA.o(x:ZA):List D:=[DI x.fOp,DI x.fD,DI x.fA,DI x.fB,DI x.fN,DS x.fS,.s 1 (aP x.fArgs)]
abbrev ZA.x(x:ZA):X:= .agg [I x.fOp,I x.fD,I x.fA,I x.fB,I x.fN,Str x.fS,.d (.r (aP x.fArgs))]
abbrev ZA.xo(x:ZA):X:= .agg [I x.fOp,I x.fD,I x.fA,I x.fB,I x.fN,Str x.fS,.d (.s 1 (aP x.fArgs))]
theorem ZA.fzl(x:ZA):fzl x.o=x.r:=by simp only[ZA.o,ZA.r,Ev.fzl,D.fz,dK]
theorem ZA.fzlr(x:ZA):Ev.fzl x.r=x.r:=by simp only[ZA.r,Ev.fzl,D.fz,dK]
theorem ZA.fzs(xs:List ZA):fzs (xs.map ZA.o)=xs.map ZA.r:=oO _ _ ZA.fzl xs
theorem ZA.fzr(xs:List ZA):Ev.fzs (xs.map ZA.r)=xs.map ZA.r:=oO _ _ ZA.fzlr xs
theorem ZA.noR(xs:List ZA):D.noR.noRss (xs.map ZA.o)=true:=kX _ (fun x=>by simp only[ZA.o,D.noR.noRs,D.noR,bat,bta,pJ]) xs
def ZA.sz(x:ZA):Int:=(x.fS.size:Int)+(x.fArgs.length:Int)
theorem ZA.sz_nn(x:ZA):0≤x.sz:=by
 unfold ZA.sz;omega
def ZA.szl:List ZA→Int
 |[]=>0
 |x::xs=>x.sz+ZA.szl xs
def ZA.szs(xs:List ZA):Int:=xs.length+ZA.szl xs
theorem ZA.szl_nn:∀xs:List ZA,0≤ZA.szl xs
 |[]=>by simp[ZA.szl]
 |x::xs=>by simp only[ZA.szl];have:=x.sz_nn;have:=ZA.szl_nn xs;omega
theorem ZA.szs_nn(xs:List ZA):0≤ZA.szs xs∧(xs.length:Int)≤ZA.szs xs:=by have:=ZA.szl_nn xs;unfold ZA.szs;omega
theorem ZA.sz_le:∀{xs:List ZA} {x:ZA},x∈xs→x.sz≤ZA.szl xs
 |y::xs,x,h=>by
  simp only[ZA.szl]
  have h1:=y.sz_nn;have h2:=ZA.szl_nn xs
  rcases List.mem_cons.1 h with rfl|h
  ·omega
  ·have:=ZA.sz_le h;omega
def ZA.sm(x:ZA):Prop:=x.fS.size≤1048576∧x.fArgs.length≤1048576
theorem ZA.sm_of{x:ZA}(h:x.sz≤1048576):x.sm:=by
 unfold ZA.sz at h
 unfold ZA.sm
 exact⟨by omega,by omega⟩
structure ZA.ok (x:ZA):Prop where
 fOp:i64 x.fOp
 fD:i64 x.fD
 fA:i64 x.fA
 fB:i64 x.fB
 fN:i64 x.fN
 fS:x.fS.size≤140737488351232
 fArgs:x.fArgs.length≤140737488351232∧∀n∈x.fArgs,i64 n
theorem ZA.fit{c:List D}(h:iX [.i .i64,.i .i64,.i .i64,.i .i64,.i .i64,.s,.l 8 [.i .i64]] c):∃x:ZA,c=x.r∧x.ok:=by
 simp only[iX] at h
 obtain⟨_,_,rfl,h0,_,_,rfl,h1,_,_,rfl,h2,_,_,rfl,h3,_,_,rfl,h4,_,_,rfl,h5,_,_,rfl,h6,rfl⟩:=h
 rw[Ev.fit] at h0;obtain⟨a0,rfl,g0⟩:=h0
 rw[Ev.fit] at h1;obtain⟨a1,rfl,g1⟩:=h1
 rw[Ev.fit] at h2;obtain⟨a2,rfl,g2⟩:=h2
 rw[Ev.fit] at h3;obtain⟨a3,rfl,g3⟩:=h3
 rw[Ev.fit] at h4;obtain⟨a4,rfl,g4⟩:=h4
 rw[Ev.fit] at h5;obtain⟨a5,rfl,g5⟩:=h5
 rw[Ev.fit] at h6;obtain⟨e6,rfl,b6,c6⟩:=h6;obtain⟨a6,rfl,g6⟩:=P8 (enc:=fun n=>[DI n]) (ok:=i64) (fun c hc=>zV4 hc) c6;rw[lm] at b6
 exact⟨⟨a0,a1,a2,a3,a4,a5,a6⟩,rfl,⟨Uw g0,Uw g1,Uw g2,Uw g3,Uw g4,g5,⟨(by omega:a6.length≤140737488351232),g6⟩⟩⟩
def ZA.mk_(k:Int)(x:ZA):ZA:=⟨k,k+1,k+1+1,k+1+1+1,k+1+1+1+1,Sr (k+1+1+1+1+1),nN (k+1+1+1+1+1+1) x.fArgs⟩
def ZA.ct(x:ZA):Int:=1+1+1+1+1+1+(x.fArgs.length:Int)
theorem ZA.ct_nn(x:ZA):1≤x.ct:=by
 unfold ZA.ct;omega
def ZA.mks:Int→List ZA→List ZA
 |_,[]=>[]
 |k,x::xs=>ZA.mk_ k x::ZA.mks (k+x.ct) xs
def ZA.cts:List ZA→Int
 |[]=>0
 |x::xs=>x.ct+ZA.cts xs
theorem ZA.cts_nn:∀xs:List ZA,(xs.length:Int)≤ZA.cts xs
 |[]=>by simp[ZA.cts]
 |x::xs=>by simp only[ZA.cts,lc];have:=x.ct_nn;have:=ZA.cts_nn xs;omega
theorem ZA.mks_len:∀(k:Int) (xs:List ZA),(ZA.mks k xs).length=xs.length
 |_,[]=>rfl
 |k,x::xs=>by simp[ZA.mks,ZA.mks_len (k+x.ct) xs]
theorem ZA.ct_le(x:ZA):x.ct≤64+64*x.sz:=by
 unfold ZA.ct ZA.sz;omega
theorem ZA.cts_le:∀xs:List ZA,ZA.cts xs≤64*ZA.szs xs
 |[]=>by simp[ZA.cts,ZA.szs,ZA.szl]
 |x::xs=>by
  have h1:=x.ct_le;have h2:=ZA.cts_le xs
  simp only[ZA.cts,ZA.szs,ZA.szl,lc] at *;omega
def ZA.mkv(k:Int)(x:ZA):ZA:=⟨x.fOp,x.fD,x.fA,x.fB,x.fN,x.fS,nN (k) x.fArgs⟩
def ZA.ctv(x:ZA):Int:=(x.fArgs.length:Int)
theorem ZA.ctv_le(x:ZA):x.ctv≤64*x.sz:=by
 unfold ZA.ctv ZA.sz;omega
theorem M9(x:ZA)(hx:x.sm):call tab Cb [x.x]=some x.xo:=by
 simp only[ZA.sm] at hx
 have t0:=K4 x.fArgs (by omega)
 rw[aQ Ql _ rfl,Dt]
 simp -implicitDefEqProofs (disch:=first|assumption|omega|(simp only[aE,aF,aD,i64,sa,aB,lm,la,lc,ln];omega)) only[go_sem,simprocAttr,ZA.x,ZA.xo,t0]
theorem yP(xs:List ZA)(hx:xs.length≤1048576∧∀y∈xs,y.sm):∀(B A:List ZA),xs=A++B →
  loopW tab [0,3,4] kC {env:=upd (upd (upd emp 4 (some (I (A.length:Int)))) 3 (some (.ref (0,0) []))) 0 (some (.d (.r (xs.map ZA.r)))),heap:=upd emp (0,0) (some (.s 7 (A.map ZA.o++List.replicate B.length [DI 0,DI 0,DI 0,DI 0,DI 0,DS ⟨#[]⟩,.s 1 []]))),fr:=0,next:=1}=some (.ext 0,{env:=upd emp 3 (some (.ref (0,0) [])),heap:=upd emp (0,0) (some (.s 7 (xs.map ZA.o))),fr:=0,next:=1})
 |[],A,h=>by
  rw[zqe] at h
  subst h
  unfold loopW
  conv=>lhs;arg 1;unfold kC
  have hx':=hx.1
  simp -implicitDefEqProofs (disch:=first|assumption|omega|(simp only[aE,aF,aD,i64,sa,aB,lm,la,lc,ln];omega)) only[go_sem,simprocAttr,List.replicate_zero]
 |x::B,A,h=>by
  unfold loopW
  conv=>lhs;arg 1;unfold kC
  have hl:xs.length=A.length+(B.length+1):=by rw[h];simp
  have h2:(xs.map ZA.r)[A.length]? = some x.r:=by rw[h];simp
  have hx':=hx.1
  have hto:=M9 x (hx.2 x (by rw[h];simp))
  have ih:=yP xs hx B (A++[x]) (by simp[h])
  rw[show(((A++[x]).length:Nat):Int)=(A.length:Int)+1 by simp] at ih
  simp only[List.map_append,mc,mn,zqc,List.cons_append,zqf,ZA.o] at ih
  simp only[ZA.r] at h2
  simp only[ZA.x,ZA.xo] at hto
  simp -implicitDefEqProofs (disch:=first|assumption|omega|(simp only[aE,aF,aD,i64,sa,aB,lm,la,lc,ln];omega)) only[go_sem,simprocAttr,lc,List.replicate_succ,Dp,Dd,Ci,h2,hto,ih]
theorem Jg(xs:List ZA)(hx:xs.length≤1048576∧∀y∈xs,y.sm):call tab x6 [.d (.r (xs.map ZA.r))]=some (.d (.s 7 (xs.map ZA.o))):=by
 rw[aQ Le _ rfl,Ax]
 have hl:=yP xs hx xs [] rfl
 have hx':=hx.1
 simp only[mn,zqf,ln,Int.cast_ofNat_Int] at hl
 simp -implicitDefEqProofs (disch:=first|assumption|omega|(simp only[aE,aF,aD,i64,sa,aB,lm,la,lc,ln];omega)) only[go_sem,simprocAttr,hl]
theorem Lx(x:ZA)(hx:x.sm):call tab B3 [x.x,x.x]=some (B true):=by
 simp only[ZA.sm] at hx
 have t0:=Jr x.fArgs (by omega)
 rw[aQ Qy _ rfl,C9]
 simp -implicitDefEqProofs (disch:=first|assumption|omega|(simp only[aE,aF,aD,i64,sa,aB,lm,la,lc,ln];omega)) only[go_sem,simprocAttr,ZA.x,t0]
theorem wY(xs:List ZA)(hx:xs.length≤1048576∧∀y∈xs,y.sm):∀(B A:List ZA),xs=A++B →
  loopW tab [0,1,5] j7 {env:=upd (upd (upd emp 5 (some (I (A.length:Int)))) 1 (some (.d (.r (xs.map ZA.r))))) 0 (some (.d (.r (xs.map ZA.r)))),heap:=emp,fr:=0,next:=0}=some (.ext 0,{env:=emp,heap:=emp,fr:=0,next:=0})
 |[],A,h=>by
  rw[zqe] at h
  subst h
  unfold loopW
  conv=>lhs;arg 1;unfold j7
  have hx':=hx.1
  simp -implicitDefEqProofs (disch:=first|assumption|omega|(simp only[aE,aF,aD,i64,sa,aB,lm,la,lc,ln];omega)) only[go_sem,simprocAttr]
 |x::B,A,h=>by
  unfold loopW
  conv=>lhs;arg 1;unfold j7
  have hl:xs.length=A.length+(B.length+1):=by rw[h];simp
  have h2:(xs.map ZA.r)[A.length]? = some x.r:=by rw[h];simp
  have hx':=hx.1
  have hto:=Lx x (hx.2 x (by rw[h];simp))
  have ih:=wY xs hx B (A++[x]) (by simp[h])
  rw[show(((A++[x]).length:Nat):Int)=(A.length:Int)+1 by simp] at ih
  simp only[ZA.r] at h2
  simp only[ZA.x] at hto
  simp -implicitDefEqProofs (disch:=first|assumption|omega|(simp only[aE,aF,aD,i64,sa,aB,lm,la,lc,ln];omega)) only[go_sem,simprocAttr,h2,hto,ih]
theorem Hw(xs:List ZA)(hx:xs.length≤1048576∧∀y∈xs,y.sm):call tab wV [.d (.r (xs.map ZA.r)),.d (.r (xs.map ZA.r))]=some (B true):=by
 rw[aQ Mv _ rfl,Bj]
 have hl:=wY xs hx xs [] rfl
 have hx':=hx.1
 simp only[ln,Int.cast_ofNat_Int] at hl
 simp -implicitDefEqProofs (disch:=first|assumption|omega|(simp only[aE,aF,aD,i64,sa,aB,lm,la,lc,ln];omega)) only[go_sem,simprocAttr,hl]
theorem Lw(x:ZA)(n:Int)(hn:0≤n∧n≤1048576)(hx:x.ok):call tab Bu [x.x,I n]=some (I (if n<x.sz then -1 else n-x.sz)):=by
 rw[aQ Qf _ rfl,Dq]
 have hsz:x.sz=(x.fS.size:Int)+(x.fArgs.length:Int):=rfl
 rw[hsz]
 have b0:=hx.fS
 have b1:=hx.fArgs.1
 by_cases c0:n-(x.fS.size:Int)<0
 ·rw[if_pos (show n<(x.fS.size:Int)+(x.fArgs.length:Int) by omega)]
  simp -implicitDefEqProofs (disch:=first|assumption|omega|(simp only[aE,aF,aD,i64,sa,aB,lm,la,lc,ln];omega)) only[go_sem,simprocAttr,ZA.x,c0]
 ·have f1:=Hu x.fArgs (n-(x.fS.size:Int)) (by omega) (by omega)
  by_cases c1:n-(x.fS.size:Int)-(x.fArgs.length:Int)<0
  ·rw[if_pos (by omega)] at f1
   rw[if_pos (show n<(x.fS.size:Int)+(x.fArgs.length:Int) by omega)]
   simp -implicitDefEqProofs (disch:=first|assumption|omega|(simp only[aE,aF,aD,i64,sa,aB,lm,la,lc,ln];omega)) only[go_sem,simprocAttr,ZA.x,c0,c1,f1]
  ·rw[if_neg (by omega)] at f1
   rw[if_neg (show ¬n<(x.fS.size:Int)+(x.fArgs.length:Int) by omega)]
   rw[show n-((x.fS.size:Int)+(x.fArgs.length:Int))=n-(x.fS.size:Int)-(x.fArgs.length:Int) by omega]
   simp -implicitDefEqProofs (disch:=first|assumption|omega|(simp only[aE,aF,aD,i64,sa,aB,lm,la,lc,ln];omega)) only[go_sem,simprocAttr,ZA.x,c0,f1,c1]
theorem w5(xs:List ZA)(hx:xs.length≤1048576)(hok:∀y∈xs,y.ok):∀(B A:List ZA) (n:Int),xs=A++B→0≤n∧n≤1048576 →
  loopW tab [0,1,5] kK {env:=upd (upd (upd emp 5 (some (I (A.length:Int)))) 1 (some (I n))) 0 (some (.d (.r (xs.map ZA.r)))),heap:=emp,fr:=0,next:=0}=(if n<ZA.szl B then some (.ret,{env:=upd emp 4 (some (I (-1))),heap:=emp,fr:=0,next:=0}) else some (.ext 0,{env:=upd emp 1 (some (I (n-ZA.szl B))),heap:=emp,fr:=0,next:=0}))
 |[],A,n,h,hn=>by
  rw[zqe] at h
  subst h
  unfold loopW
  conv=>lhs;arg 1;unfold kK
  rw[if_neg (show ¬n<ZA.szl [] by simp only[ZA.szl];omega)]
  simp -implicitDefEqProofs (disch:=first|assumption|omega|(simp only[aE,aF,aD,i64,sa,aB,lm,la,lc,ln];omega)) only[go_sem,simprocAttr,ZA.szl,Int.sub_zero]
 |x::B,A,n,h,hn=>by
  unfold loopW
  conv=>lhs;arg 1;unfold kK
  have hl:xs.length=A.length+(B.length+1):=by rw[h];simp
  have h2:(xs.map ZA.r)[A.length]? = some x.r:=by rw[h];simp
  have hto:=Lw x n hn (hok x (by rw[h];simp))
  have hnn:=ZA.szl_nn B
  have hxn:=x.sz_nn
  simp only[ZA.r] at h2
  simp only[ZA.x] at hto
  rw[show ZA.szl (x::B)=x.sz+ZA.szl B from rfl]
  by_cases hc:n<x.sz
  ·rw[if_pos hc] at hto
   rw[if_pos (show n<x.sz+ZA.szl B by omega)]
   simp -implicitDefEqProofs (disch:=first|assumption|omega|(simp only[aE,aF,aD,i64,sa,aB,lm,la,lc,ln];omega)) only[go_sem,simprocAttr,h2,hto]
  ·rw[if_neg hc] at hto
   have ih:=w5 xs hx hok B (A++[x]) (n-x.sz) (by simp[h]) (by omega)
   rw[show(((A++[x]).length:Nat):Int)=(A.length:Int)+1 by simp] at ih
   by_cases hd:n-x.sz<ZA.szl B
   ·rw[if_pos hd] at ih
    rw[if_pos (show n<x.sz+ZA.szl B by omega)]
    simp -implicitDefEqProofs (disch:=first|assumption|omega|(simp only[aE,aF,aD,i64,sa,aB,lm,la,lc,ln];omega)) only[go_sem,simprocAttr,h2,hto,ih]
   ·rw[if_neg hd,show n-x.sz-ZA.szl B=n-(x.sz+ZA.szl B) by omega] at ih
    rw[if_neg (show ¬n<x.sz+ZA.szl B by omega)]
    simp -implicitDefEqProofs (disch:=first|assumption|omega|(simp only[aE,aF,aD,i64,sa,aB,lm,la,lc,ln];omega)) only[go_sem,simprocAttr,h2,hto,ih]
theorem I9(xs:List ZA)(n:Int)(hn:0≤n∧n≤1048576)(hx:xs.length≤140737488351232∧∀y∈xs,y.ok):call tab xM [.d (.r (xs.map ZA.r)),I n]=some (I (if n<ZA.szs xs then -1 else n-ZA.szs xs)):=by
 rw[aQ L0 _ rfl,A0]
 have hx1:=hx.1
 have hnn:=ZA.szl_nn xs
 rw[show ZA.szs xs=xs.length+ZA.szl xs from rfl]
 by_cases h:n-(xs.length:Int)<0
 ·rw[if_pos (show n<xs.length+ZA.szl xs by omega)]
  simp -implicitDefEqProofs (disch:=first|assumption|omega|(simp only[aE,aF,aD,i64,sa,aB,lm,la,lc,ln];omega)) only[go_sem,simprocAttr,h]
 ·have hl:=w5 xs (by omega) hx.2 xs [] (n-xs.length) rfl (by omega)
  simp only[ln,Int.cast_ofNat_Int] at hl
  by_cases hd:n-(xs.length:Int)<ZA.szl xs
  ·rw[if_pos hd] at hl
   rw[if_pos (show n<xs.length+ZA.szl xs by omega)]
   simp -implicitDefEqProofs (disch:=first|assumption|omega|(simp only[aE,aF,aD,i64,sa,aB,lm,la,lc,ln];omega)) only[go_sem,simprocAttr,h,hl]
  ·rw[if_neg hd,show n-(xs.length:Int)-ZA.szl xs=n-(xs.length+ZA.szl xs) by omega] at hl
   rw[if_neg (show ¬n<xs.length+ZA.szl xs by omega)]
   simp -implicitDefEqProofs (disch:=first|assumption|omega|(simp only[aE,aF,aD,i64,sa,aB,lm,la,lc,ln];omega)) only[go_sem,simprocAttr,h,hl]
theorem sV:∀(B A:List ZA) (k:Int),(A.length:Int)+ZA.cts B≤1099511627776→0≤k∧k+ZA.cts B≤4611686018427387904 →
  loopW tab [0,1,5] hX {env:=upd (upd (upd emp 5 (some (I (A.length:Int)))) 1 (some (I k))) 0 (some (.ref (0,0) [])),heap:=upd emp (0,0) (some (.s 7 (A.map ZA.o++B.map ZA.o))),fr:=1,next:=0}=some (.ext 0,{env:=upd emp 1 (some (I (k+ZA.cts B))),heap:=upd emp (0,0) (some (.s 7 (A.map ZA.o++(ZA.mks k B).map ZA.o))),fr:=1,next:=0})
 |[],A,k,h,hk=>by
  unfold loopW
  conv=>lhs;arg 1;unfold hX
  simp only[ZA.cts] at h hk
  simp -implicitDefEqProofs (disch:=first|assumption|omega|(simp only[aE,aF,aD,i64,sa,aB,lm,la,lc,ln];omega)) only[go_sem,simprocAttr,ZA.cts,ZA.mks,mn,zqe,Int.add_zero]
 |x::B,A,k,h,hk=>by
  unfold loopW
  conv=>lhs;arg 1;unfold hX
  simp only[ZA.cts] at h hk
  have h1:=x.ct_nn
  have h0:=ZA.cts_nn B
  have ih:=sV B (A++[x.mk_ k]) (k+x.ct) (by simp;omega) (by omega)
  rw[show(((A++[x.mk_ k]).length:Nat):Int)=(A.length:Int)+1 by simp,show k+x.ct+ZA.cts B=k+ZA.cts (x::B) by simp only[ZA.cts];omega] at ih
  simp only[List.map_append,mc,mn,zqc,List.cons_append,zqf] at ih
  simp only[ZA.mks,mc]
  have hm:ZA.o (x.mk_ k)=[DI (k),DI (k+1),DI (k+1+1),DI (k+1+1+1),DI (k+1+1+1+1),DS (Sr (k+1+1+1+1+1)),.s 1 (aP (nN (k+1+1+1+1+1+1) x.fArgs))]:=rfl
  have hkx:k+x.ct=k+1+1+1+1+1+1+(x.fArgs.length:Int):=by unfold ZA.ct;omega
  rw[hm,hkx] at ih
  rw[hm,hkx]
  unfold ZA.ct at hk h0
  have f0:=E7 x.fArgs (k+1+1+1+1+1+1) (by omega) (by omega)
  simp -implicitDefEqProofs (disch:=first|assumption|omega|(simp only[aE,aF,aD,i64,sa,aB,lm,la,lc,ln];omega)) only[go_sem,simprocAttr,ZA.o,lc,Dp,Dd,Ci,f0,tO,ih]
theorem Ep(xs:List ZA)(k:Int)(h:ZA.cts xs≤1099511627776)(hk:0≤k∧k+ZA.cts xs≤4611686018427387904):evCW tab sP [.ref (0,0) [],I k] (upd emp (0,0) (some (.s 7 (xs.map ZA.o)))) 1=some (I (k+ZA.cts xs),upd emp (0,0) (some (.s 7 ((ZA.mks k xs).map ZA.o)))):=by
 rw[bW G9 _ _ _ rfl,wF]
 have hl:=sV xs [] k (by simpa using h) hk
 simp only[mn,zqf,ln,Int.cast_ofNat_Int] at hl
 simp -implicitDefEqProofs (disch:=first|assumption|omega|(simp only[aE,aF,aD,i64,sa,aB,lm,la,lc,ln];omega)) only[go_sem,simprocAttr,hl]
theorem s5(full:List (List D)):∀(B A:List ZA) (k:Int),full=A.map ZA.r++(ZA.mks k B).map ZA.r→(A.length:Int)+ZA.cts B≤1099511627776→0≤k∧k+ZA.cts B≤4611686018427387904 →
  loopW tab [0,1,5] hY {env:=upd (upd (upd emp 5 (some (I (A.length:Int)))) 1 (some (I k))) 0 (some (.d (.r full))),heap:=emp,fr:=0,next:=0}=some (.ext 0,{env:=upd emp 1 (some (I (k+ZA.cts B))),heap:=emp,fr:=0,next:=0})
 |[],A,k,hf,h,hk=>by
  subst hf
  unfold loopW
  conv=>lhs;arg 1;unfold hY
  simp only[ZA.cts] at h hk
  simp -implicitDefEqProofs (disch:=first|assumption|omega|(simp only[aE,aF,aD,i64,sa,aB,lm,la,lc,ln];omega)) only[go_sem,simprocAttr,ZA.cts,ZA.mks,mn,zqe,Int.add_zero]
 |x::B,A,k,hf,h,hk=>by
  simp only[ZA.cts] at h hk
  have h1:=x.ct_nn
  have h0:=ZA.cts_nn B
  have ih:=s5 full B (A++[x.mk_ k]) (k+x.ct) (by rw[hf];simp[ZA.mks]) (by simp;omega) (by omega)
  unfold loopW
  conv=>lhs;arg 1;unfold hY
  have hlen:=ZA.mks_len k (x::B)
  have h2:full[A.length]? = some (ZA.r (x.mk_ k)):=by rw[hf];simp[ZA.mks]
  have h3:full.length=A.length+(B.length+1):=by rw[hf,la,lm,lm,hlen,lc]
  clear hf
  rw[show(((A++[x.mk_ k]).length:Nat):Int)=(A.length:Int)+1 by simp,show k+x.ct+ZA.cts B=k+ZA.cts (x::B) by simp only[ZA.cts];omega] at ih
  have hm:ZA.r (x.mk_ k)=[DI (k),DI (k+1),DI (k+1+1),DI (k+1+1+1),DI (k+1+1+1+1),DS (Sr (k+1+1+1+1+1)),.r (aP (nN (k+1+1+1+1+1+1) x.fArgs))]:=rfl
  have hkx:k+x.ct=k+1+1+1+1+1+1+(x.fArgs.length:Int):=by unfold ZA.ct;omega
  rw[hkx] at ih
  rw[hm] at h2
  unfold ZA.ct at hk h0
  have f0:=Eh x.fArgs (k+1+1+1+1+1+1) (by omega) (by omega)
  simp -implicitDefEqProofs (disch:=first|assumption|omega|(simp only[aE,aF,aD,i64,sa,aB,lm,la,lc,ln];omega)) only[go_sem,simprocAttr,h2,h3,f0,tO,ih]
theorem Ed(xs:List ZA)(k:Int)(h:ZA.cts xs≤1099511627776)(hk:0≤k∧k+ZA.cts xs≤4611686018427387904):call tab sA [.d (.r ((ZA.mks k xs).map ZA.r)),I k]=some (I (k+ZA.cts xs)):=by
 rw[aQ G2 _ rfl,vU]
 have hl:=s5 _ xs [] k rfl (by simpa using h) hk
 simp only[mn,zqf,ln,Int.cast_ofNat_Int] at hl
 simp -implicitDefEqProofs (disch:=first|assumption|omega|(simp only[aE,aF,aD,i64,sa,aB,lm,la,lc,ln];omega)) only[go_sem,simprocAttr,hl]
set_option maxRecDepth 8000
set_option maxHeartbeats 4000000
structure ZB where
 fName:ByteArray
 fParams:Int
 fRegs:Int
 fCode:List ZA
def ZB.r(x:ZB):List D:=[DS x.fName,DI x.fParams,DI x.fRegs,.r (x.fCode.map ZA.r)]
def ZB.o(x:ZB):List D:=[DS x.fName,DI x.fParams,DI x.fRegs,.s 7 (x.fCode.map ZA.o)]
abbrev ZB.x(x:ZB):X:= .agg [Str x.fName,I x.fParams,I x.fRegs,.d (.r (x.fCode.map ZA.r))]
abbrev ZB.xo(x:ZB):X:= .agg [Str x.fName,I x.fParams,I x.fRegs,.d (.s 7 (x.fCode.map ZA.o))]
theorem ZB.fzl(x:ZB):fzl x.o=x.r:=by simp only[ZB.o,ZB.r,Ev.fzl,D.fz,ZA.fzs,dK]
theorem ZB.fzlr(x:ZB):Ev.fzl x.r=x.r:=by simp only[ZB.r,Ev.fzl,D.fz,ZA.fzr,dK]
theorem ZB.fzs(xs:List ZB):fzs (xs.map ZB.o)=xs.map ZB.r:=oO _ _ ZB.fzl xs
theorem ZB.fzr(xs:List ZB):Ev.fzs (xs.map ZB.r)=xs.map ZB.r:=oO _ _ ZB.fzlr xs
theorem ZB.noR(xs:List ZB):D.noR.noRss (xs.map ZB.o)=true:=kX _ (fun x=>by simp only[ZB.o,D.noR.noRs,D.noR,bat,bta,ZA.noR,pJ]) xs
def ZB.sz(x:ZB):Int:=(x.fName.size:Int)+ZA.szs x.fCode
theorem ZB.sz_nn(x:ZB):0≤x.sz:=by
 unfold ZB.sz;have:=ZA.szs_nn x.fCode;omega
def ZB.szl:List ZB→Int
 |[]=>0
 |x::xs=>x.sz+ZB.szl xs
def ZB.szs(xs:List ZB):Int:=xs.length+ZB.szl xs
theorem ZB.szl_nn:∀xs:List ZB,0≤ZB.szl xs
 |[]=>by simp[ZB.szl]
 |x::xs=>by simp only[ZB.szl];have:=x.sz_nn;have:=ZB.szl_nn xs;omega
theorem ZB.szs_nn(xs:List ZB):0≤ZB.szs xs∧(xs.length:Int)≤ZB.szs xs:=by have:=ZB.szl_nn xs;unfold ZB.szs;omega
theorem ZB.sz_le:∀{xs:List ZB} {x:ZB},x∈xs→x.sz≤ZB.szl xs
 |y::xs,x,h=>by
  simp only[ZB.szl]
  have h1:=y.sz_nn;have h2:=ZB.szl_nn xs
  rcases List.mem_cons.1 h with rfl|h
  ·omega
  ·have:=ZB.sz_le h;omega
def ZB.sm(x:ZB):Prop:=x.fName.size≤1048576∧(x.fCode.length≤1048576∧∀y∈x.fCode,y.sm)
theorem ZB.sm_of{x:ZB}(h:x.sz≤1048576):x.sm:=by
 unfold ZB.sz at h
 unfold ZB.sm
 have:=ZA.szs_nn x.fCode
 exact⟨by omega,⟨by omega,fun y hy=>ZA.sm_of (by have:=ZA.sz_le hy;unfold ZA.szs at *;omega)⟩⟩
structure ZB.ok (x:ZB):Prop where
 fName:x.fName.size≤140737488351232
 fParams:i64 x.fParams
 fRegs:i64 x.fRegs
 fCode:x.fCode.length≤140737488351232∧∀y∈x.fCode,y.ok
theorem ZB.fit{c:List D}(h:iX [.s,.i .i64,.i .i64,.l 80 [.i .i64,.i .i64,.i .i64,.i .i64,.i .i64,.s,.l 8 [.i .i64]]] c):∃x:ZB,c=x.r∧x.ok:=by
 simp only[iX] at h
 obtain⟨_,_,rfl,h0,_,_,rfl,h1,_,_,rfl,h2,_,_,rfl,h3,rfl⟩:=h
 rw[Ev.fit] at h0;obtain⟨a0,rfl,g0⟩:=h0
 rw[Ev.fit] at h1;obtain⟨a1,rfl,g1⟩:=h1
 rw[Ev.fit] at h2;obtain⟨a2,rfl,g2⟩:=h2
 rw[Ev.fit] at h3;obtain⟨e3,rfl,b3,c3⟩:=h3;obtain⟨a3,rfl,g3⟩:=P8 (fun c hc=>ZA.fit hc) c3;rw[lm] at b3
 exact⟨⟨a0,a1,a2,a3⟩,rfl,⟨g0,Uw g1,Uw g2,⟨(by omega:a3.length≤140737488351232),g3⟩⟩⟩
def ZB.mk_(k:Int)(x:ZB):ZB:=⟨Sr (k),k+1,k+1+1,ZA.mks (k+1+1+1) x.fCode⟩
def ZB.ct(x:ZB):Int:=1+1+1+ZA.cts x.fCode
theorem ZB.ct_nn(x:ZB):1≤x.ct:=by
 unfold ZB.ct;have:=ZA.cts_nn x.fCode;omega
def ZB.mks:Int→List ZB→List ZB
 |_,[]=>[]
 |k,x::xs=>ZB.mk_ k x::ZB.mks (k+x.ct) xs
def ZB.cts:List ZB→Int
 |[]=>0
 |x::xs=>x.ct+ZB.cts xs
theorem ZB.cts_nn:∀xs:List ZB,(xs.length:Int)≤ZB.cts xs
 |[]=>by simp[ZB.cts]
 |x::xs=>by simp only[ZB.cts,lc];have:=x.ct_nn;have:=ZB.cts_nn xs;omega
theorem ZB.mks_len:∀(k:Int) (xs:List ZB),(ZB.mks k xs).length=xs.length
 |_,[]=>rfl
 |k,x::xs=>by simp[ZB.mks,ZB.mks_len (k+x.ct) xs]
theorem ZB.ct_le(x:ZB):x.ct≤64+64*x.sz:=by
 unfold ZB.ct ZB.sz;have:=ZA.cts_le x.fCode;have:=ZA.szs_nn x.fCode;omega
theorem ZB.cts_le:∀xs:List ZB,ZB.cts xs≤64*ZB.szs xs
 |[]=>by simp[ZB.cts,ZB.szs,ZB.szl]
 |x::xs=>by
  have h1:=x.ct_le;have h2:=ZB.cts_le xs
  simp only[ZB.cts,ZB.szs,ZB.szl,lc] at *;omega
def ZB.mkv(k:Int)(x:ZB):ZB:=⟨x.fName,x.fParams,x.fRegs,ZA.mks (k) x.fCode⟩
def ZB.ctv(x:ZB):Int:=ZA.cts x.fCode
theorem ZB.ctv_le(x:ZB):x.ctv≤64*x.sz:=by
 unfold ZB.ctv ZB.sz;have:=ZA.cts_le x.fCode;have:=ZA.szs_nn x.fCode;omega
theorem Jl(x:ZB)(hx:x.sm):call tab kY [x.x]=some x.xo:=by
 simp only[ZB.sm] at hx
 have t0:=Jg x.fCode (by first|exact hx|exact hx.1|exact hx.2|exact hx.2.1|exact hx.2.2|exact hx.2.2.1|exact hx.2.2.2|exact hx.2.2.2.1)
 rw[aQ M4 _ rfl,As]
 simp -implicitDefEqProofs (disch:=first|assumption|omega|(simp only[aE,aF,aD,i64,sa,aB,lm,la,lc,ln];omega)) only[go_sem,simprocAttr,ZB.x,ZB.xo,t0]
theorem wW(x:ZB)(hx:x.sm):call tab kW [x.x,x.x]=some (B true):=by
 simp only[ZB.sm] at hx
 have t0:=Hw x.fCode (by first|exact hx|exact hx.1|exact hx.2|exact hx.2.1|exact hx.2.2|exact hx.2.2.1|exact hx.2.2.2|exact hx.2.2.2.1)
 rw[aQ Mw _ rfl,A8]
 simp -implicitDefEqProofs (disch:=first|assumption|omega|(simp only[aE,aF,aD,i64,sa,aB,lm,la,lc,ln];omega)) only[go_sem,simprocAttr,ZB.x,t0]
theorem I3(x:ZB)(n:Int)(hn:0≤n∧n≤1048576)(hx:x.ok):call tab zO [x.x,I n]=some (I (if n<x.sz then -1 else n-x.sz)):=by
 rw[aQ Mc _ rfl,Ap]
 have hsz:x.sz=(x.fName.size:Int)+ZA.szs x.fCode:=rfl
 rw[hsz]
 have b0:=hx.fName
 have b1:=hx.fCode.1
 have z1:=ZA.szs_nn x.fCode
 by_cases c0:n-(x.fName.size:Int)<0
 ·rw[if_pos (show n<(x.fName.size:Int)+ZA.szs x.fCode by omega)]
  simp -implicitDefEqProofs (disch:=first|assumption|omega|(simp only[aE,aF,aD,i64,sa,aB,lm,la,lc,ln];omega)) only[go_sem,simprocAttr,ZB.x,c0]
 ·have f1:=I9 x.fCode (n-(x.fName.size:Int)) (by omega) hx.fCode
  by_cases c1:n-(x.fName.size:Int)-ZA.szs x.fCode<0
  ·rw[if_pos (by omega)] at f1
   rw[if_pos (show n<(x.fName.size:Int)+ZA.szs x.fCode by omega)]
   simp -implicitDefEqProofs (disch:=first|assumption|omega|(simp only[aE,aF,aD,i64,sa,aB,lm,la,lc,ln];omega)) only[go_sem,simprocAttr,ZB.x,c0,c1,f1]
  ·rw[if_neg (by omega)] at f1
   rw[if_neg (show ¬n<(x.fName.size:Int)+ZA.szs x.fCode by omega)]
   rw[show n-((x.fName.size:Int)+ZA.szs x.fCode)=n-(x.fName.size:Int)-ZA.szs x.fCode by omega]
   simp -implicitDefEqProofs (disch:=first|assumption|omega|(simp only[aE,aF,aD,i64,sa,aB,lm,la,lc,ln];omega)) only[go_sem,simprocAttr,ZB.x,c0,f1,c1]
theorem tY(x:ZB)(k:Int)(h:x.ctv≤1099511627776)(hk:0≤k∧k+x.ctv≤4611686018427387904):evCW tab m3 [.agg [Str x.fName,I x.fParams,I x.fRegs,.ref (0,0) []],I k] (upd emp (0,0) (some (.s 7 (x.fCode.map ZA.o)))) 1=some (I (k+x.ctv),upd emp (0,0) (some (.s 7 ((ZA.mks (k) x.fCode).map ZA.o)))):=by
 rw[bW F8 _ _ _ rfl,vZ]
 have n0:=ZA.cts_nn x.fCode
 unfold ZB.ctv at h hk
 have f0:=Ep x.fCode (k) (by omega) (by omega)
 unfold ZB.ctv
 try simp only[←Int.add_assoc]
 simp -implicitDefEqProofs (disch:=first|assumption|omega|(simp only[aE,aF,aD,i64,sa,aB,lm,la,lc,ln];omega)) only[go_sem,simprocAttr,f0]
theorem Ey(x:ZB)(k:Int)(h:x.ctv≤1099511627776)(hk:0≤k∧k+x.ctv≤4611686018427387904):call tab m6 [(x.mkv k).x,I k]=some (I (k+x.ctv)):=by
 rw[aQ F2 _ rfl,wO]
 have n0:=ZA.cts_nn x.fCode
 unfold ZB.ctv at h hk
 have f0:=Ed x.fCode (k) (by omega) (by omega)
 unfold ZB.ctv
 simp only[ZB.x,ZB.mkv]
 try simp only[←Int.add_assoc]
 simp -implicitDefEqProofs (disch:=first|assumption|omega|(simp only[aE,aF,aD,i64,sa,aB,lm,la,lc,ln];omega)) only[go_sem,simprocAttr,f0]
end Go.Ev.G
