import Derived.Test.YtenclibcnjkamaaGreatEvQText
set_option linter.all false
namespace Go.Ev.G
set_option maxRecDepth 8000
set_option maxHeartbeats 4000000
structure ZA where
 fOp:Int
 fD:Int
 fA:Int
 fB:Int
 fN:Int
 fS:ByteArray
 fArgs:List Int
def ZA.r(x:ZA):List D:=[DI x.fOp,DI x.fD,DI x.fA,DI x.fB,DI x.fN,DS x.fS,.r (aP x.fArgs)]
def ZA.o(x:ZA):List D:=[DI x.fOp,DI x.fD,DI x.fA,DI x.fB,DI x.fN,DS x.fS,.s 1 (aP x.fArgs)]
abbrev ZA.x(x:ZA):X:= .agg [I x.fOp,I x.fD,I x.fA,I x.fB,I x.fN,Str x.fS,.d (.r (aP x.fArgs))]
abbrev ZA.xo(x:ZA):X:= .agg [I x.fOp,I x.fD,I x.fA,I x.fB,I x.fN,Str x.fS,.d (.s 1 (aP x.fArgs))]
theorem ZA.fzl(x:ZA):fzl x.o=x.r:=by simp only[ZA.o,ZA.r,Ev.fzl,D.fz,dQ]
theorem ZA.fzlr(x:ZA):Ev.fzl x.r=x.r:=by simp only[ZA.r,Ev.fzl,D.fz,dQ]
theorem ZA.fzs(xs:List ZA):fzs (xs.map ZA.o)=xs.map ZA.r:=pS _ _ ZA.fzl xs
theorem ZA.fzr(xs:List ZA):Ev.fzs (xs.map ZA.r)=xs.map ZA.r:=pS _ _ ZA.fzlr xs
theorem ZA.noR(xs:List ZA):D.noR.noRss (xs.map ZA.o)=true:=lZ _ (fun x=>by simp only[ZA.o,D.noR.noRs,D.noR,bat,bta,qT]) xs
def ZA.sz(x:ZA):Int:=(x.fS.size:Int)+(x.fArgs.length:Int)
theorem ZA.sz_nn(x:ZA):0≤x.sz:=by
 unfold ZA.sz;omega
def ZA.szl:List ZA→Int
 |[]=>0
 |x::xs=>x.sz+ZA.szl xs
def ZA.szs(xs:List ZA):Int:=xs.length+ZA.szl xs
theorem ZA.szl_nn:∀xs:List ZA,0≤ZA.szl xs
 |[]=>by simp[ZA.szl]
 |x::xs=>by simp only[ZA.szl];have:=x.sz_nn;have:=ZA.szl_nn xs;omega
theorem ZA.szs_nn(xs:List ZA):0≤ZA.szs xs∧(xs.length:Int)≤ZA.szs xs:=by have:=ZA.szl_nn xs;unfold ZA.szs;omega
theorem ZA.sz_le:∀{xs:List ZA} {x:ZA},x∈xs→x.sz≤ZA.szl xs
 |y::xs,x,h=>by
  simp only[ZA.szl]
  have h1:=y.sz_nn;have h2:=ZA.szl_nn xs
  rcases List.mem_cons.1 h with rfl|h
  ·omega
  ·have:=ZA.sz_le h;omega
def ZA.sm(x:ZA):Prop:=x.fS.size≤1048576∧x.fArgs.length≤1048576
theorem ZA.sm_of{x:ZA}(h:x.sz≤1048576):x.sm:=by
 unfold ZA.sz at h
 unfold ZA.sm
 exact⟨by omega,by omega⟩
theorem ZA.sms_of{xs:List ZA}(h:ZA.szs xs≤1048576):xs.length≤1048576∧∀y∈xs,y.sm:=by
 have:=ZA.szl_nn xs
 unfold ZA.szs at h
 exact⟨by omega,fun y hy=>ZA.sm_of (by have:=ZA.sz_le hy;omega)⟩
structure ZA.ok (x:ZA):Prop where
 fOp:i64 x.fOp
 fD:i64 x.fD
 fA:i64 x.fA
 fB:i64 x.fB
 fN:i64 x.fN
 fS:x.fS.size≤140737488351232
 fArgs:x.fArgs.length≤140737488351232∧∀n∈x.fArgs,i64 n
theorem ZA.fit{c:List D}(h:jL [.i .i64,.i .i64,.i .i64,.i .i64,.i .i64,.s,.l 8 [.i .i64]] c):∃x:ZA,c=x.r∧x.ok:=by
 simp only[jL] at h
 obtain⟨_,_,rfl,h0,_,_,rfl,h1,_,_,rfl,h2,_,_,rfl,h3,_,_,rfl,h4,_,_,rfl,h5,_,_,rfl,h6,rfl⟩:=h
 rw[Ev.fit] at h0;obtain⟨a0,rfl,g0⟩:=h0
 rw[Ev.fit] at h1;obtain⟨a1,rfl,g1⟩:=h1
 rw[Ev.fit] at h2;obtain⟨a2,rfl,g2⟩:=h2
 rw[Ev.fit] at h3;obtain⟨a3,rfl,g3⟩:=h3
 rw[Ev.fit] at h4;obtain⟨a4,rfl,g4⟩:=h4
 rw[Ev.fit] at h5;obtain⟨a5,rfl,g5⟩:=h5
 rw[Ev.fit] at h6;obtain⟨e6,rfl,b6,c6⟩:=h6;obtain⟨a6,rfl,g6⟩:=Ka (enc:=fun n=>[DI n]) (ok:=i64) (fun c hc=>zWL hc) c6;rw[lm] at b6
 exact⟨⟨a0,a1,a2,a3,a4,a5,a6⟩,rfl,⟨V0 g0,V0 g1,V0 g2,V0 g3,V0 g4,g5,⟨(by omega:a6.length≤140737488351232),g6⟩⟩⟩
def ZA.mk_(k:Int)(x:ZA):ZA:=⟨k,k+1,k+1+1,k+1+1+1,k+1+1+1+1,Pn (k+1+1+1+1+1),pI (k+1+1+1+1+1+1) x.fArgs⟩
def ZA.ct(x:ZA):Int:=1+1+1+1+1+1+(x.fArgs.length:Int)
theorem ZA.ct_nn(x:ZA):1≤x.ct:=by
 unfold ZA.ct;omega
def ZA.mks:Int→List ZA→List ZA
 |_,[]=>[]
 |k,x::xs=>ZA.mk_ k x::ZA.mks (k+x.ct) xs
def ZA.cts:List ZA→Int
 |[]=>0
 |x::xs=>x.ct+ZA.cts xs
theorem ZA.cts_nn:∀xs:List ZA,(xs.length:Int)≤ZA.cts xs
 |[]=>by simp[ZA.cts]
 |x::xs=>by simp only[ZA.cts,lc];have:=x.ct_nn;have:=ZA.cts_nn xs;omega
theorem ZA.mks_len:∀(k:Int) (xs:List ZA),(ZA.mks k xs).length=xs.length
 |_,[]=>rfl
 |k,x::xs=>by simp[ZA.mks,ZA.mks_len (k+x.ct) xs]
theorem ZA.ct_le(x:ZA):x.ct≤64+64*x.sz:=by
 unfold ZA.ct ZA.sz;omega
theorem ZA.cts_le:∀xs:List ZA,ZA.cts xs≤64*ZA.szs xs
 |[]=>by simp[ZA.cts,ZA.szs,ZA.szl]
 |x::xs=>by
  have h1:=x.ct_le;have h2:=ZA.cts_le xs
  simp only[ZA.cts,ZA.szs,ZA.szl,lc] at *;omega
def ZA.ctv(x:ZA):Int:=(x.fArgs.length:Int)
theorem Ov(x:ZA)(hx:x.sm):call tab D9 [x.x]=some x.xo:=by
 simp only[ZA.sm] at hx
 have t0:=Mr x.fArgs (by omega)
 rw[aQ Tp _ rfl,Fs]
 simp -implicitDefEqProofs (disch:=first|assumption|omega|(simp only[aE,aF,aD,i64,sa,aB,lm,la,lc,ln];omega)) only[go_sem,simprocAttr,ZA.x,ZA.xo,t0]
theorem Bo(xs:List ZA)(hx:xs.length≤1048576∧∀y∈xs,y.sm):∀(B A:List ZA),xs=A++B →
  loopW tab [0,3,4] lP {env:=upd (upd (upd emp 4 (some (I (A.length:Int)))) 3 (some (.ref (0,0) []))) 0 (some (.d (.r (xs.map ZA.r)))),heap:=upd emp (0,0) (some (.s 7 (A.map ZA.o++List.replicate B.length [DI 0,DI 0,DI 0,DI 0,DI 0,DS ⟨#[]⟩,.s 1 []]))),fr:=0,next:=1}=some (.ext 0,{env:=upd emp 3 (some (.ref (0,0) [])),heap:=upd emp (0,0) (some (.s 7 (xs.map ZA.o))),fr:=0,next:=1})
 |[],A,h=>by
  rw[zqe] at h
  subst h
  unfold loopW
  conv=>lhs;arg 1;unfold lP
  have hx':=hx.1
  simp -implicitDefEqProofs (disch:=first|assumption|omega|(simp only[aE,aF,aD,i64,sa,aB,lm,la,lc,ln];omega)) only[go_sem,simprocAttr,List.replicate_zero]
 |x::B,A,h=>by
  unfold loopW
  conv=>lhs;arg 1;unfold lP
  have hl:xs.length=A.length+(B.length+1):=by rw[h];simp
  have h2:(xs.map ZA.r)[A.length]? = some x.r:=by rw[h];simp
  have hx':=hx.1
  have hto:=Ov x (hx.2 x (by rw[h];simp))
  have ih:=Bo xs hx B (A++[x]) (by simp[h])
  rw[show(((A++[x]).length:Nat):Int)=(A.length:Int)+1 by simp] at ih
  simp only[List.map_append,mc,mn,zqc,List.cons_append,zqf,ZA.o] at ih
  simp only[ZA.r] at h2
  simp only[ZA.x,ZA.xo] at hto
  simp -implicitDefEqProofs (disch:=first|assumption|omega|(simp only[aE,aF,aD,i64,sa,aB,lm,la,lc,ln];omega)) only[go_sem,simprocAttr,lc,List.replicate_succ,xD,xI,wC,h2,hto,ih]
theorem Kj(xs:List ZA)(hx:xs.length≤1048576∧∀y∈xs,y.sm):call tab zM [.d (.r (xs.map ZA.r))]=some (.d (.s 7 (xs.map ZA.o))):=by
 rw[aQ P5 _ rfl,Dr]
 have hl:=Bo xs hx xs [] rfl
 have hx':=hx.1
 simp only[mn,zqf,ln,Int.cast_ofNat_Int] at hl
 simp -implicitDefEqProofs (disch:=first|assumption|omega|(simp only[aE,aF,aD,i64,sa,aB,lm,la,lc,ln];omega)) only[go_sem,simprocAttr,hl]
theorem P2(x:ZA)(hx:x.sm):call tab Ef [x.x,x.x]=some (B true):=by
 simp only[ZA.sm] at hx
 have t0:=L6 x.fArgs (by omega)
 rw[aQ T4 _ rfl,Gc]
 simp -implicitDefEqProofs (disch:=first|assumption|omega|(simp only[aE,aF,aD,i64,sa,aB,lm,la,lc,ln];omega)) only[go_sem,simprocAttr,ZA.x,t0]
theorem Aq(xs:List ZA)(hx:xs.length≤1048576∧∀y∈xs,y.sm):∀(B A:List ZA),xs=A++B →
  loopW tab [0,1,5] lG {env:=upd (upd (upd emp 5 (some (I (A.length:Int)))) 1 (some (.d (.r (xs.map ZA.r))))) 0 (some (.d (.r (xs.map ZA.r)))),heap:=emp,fr:=0,next:=0}=some (.ext 0,{env:=emp,heap:=emp,fr:=0,next:=0})
 |[],A,h=>by
  rw[zqe] at h
  subst h
  unfold loopW
  conv=>lhs;arg 1;unfold lG
  have hx':=hx.1
  simp -implicitDefEqProofs (disch:=first|assumption|omega|(simp only[aE,aF,aD,i64,sa,aB,lm,la,lc,ln];omega)) only[go_sem,simprocAttr]
 |x::B,A,h=>by
  unfold loopW
  conv=>lhs;arg 1;unfold lG
  have hl:xs.length=A.length+(B.length+1):=by rw[h];simp
  have h2:(xs.map ZA.r)[A.length]? = some x.r:=by rw[h];simp
  have hx':=hx.1
  have hto:=P2 x (hx.2 x (by rw[h];simp))
  have ih:=Aq xs hx B (A++[x]) (by simp[h])
  rw[show(((A++[x]).length:Nat):Int)=(A.length:Int)+1 by simp] at ih
  simp only[ZA.r] at h2
  simp only[ZA.x] at hto
  simp -implicitDefEqProofs (disch:=first|assumption|omega|(simp only[aE,aF,aD,i64,sa,aB,lm,la,lc,ln];omega)) only[go_sem,simprocAttr,h2,hto,ih]
theorem Np(xs:List ZA)(hx:xs.length≤1048576∧∀y∈xs,y.sm):call tab Ac [.d (.r (xs.map ZA.r)),.d (.r (xs.map ZA.r))]=some (B true):=by
 rw[aQ Oh _ rfl,C5]
 have hl:=Aq xs hx xs [] rfl
 have hx':=hx.1
 simp only[ln,Int.cast_ofNat_Int] at hl
 simp -implicitDefEqProofs (disch:=first|assumption|omega|(simp only[aE,aF,aD,i64,sa,aB,lm,la,lc,ln];omega)) only[go_sem,simprocAttr,hl]
theorem Px(x:ZA)(n:Int)(hn:0≤n∧n≤1048576)(hx:x.ok):call tab D3 [x.x,I n]=some (I (if n<x.sz then -1 else n-x.sz)):=by
 rw[aQ Sm _ rfl,Fw]
 have hsz:x.sz=(x.fS.size:Int)+(x.fArgs.length:Int):=rfl
 rw[hsz]
 have b0:=hx.fS
 have b1:=hx.fArgs.1
 by_cases c0:n-(x.fS.size:Int)<0
 ·rw[if_pos (show n<(x.fS.size:Int)+(x.fArgs.length:Int) by omega)]
  simp -implicitDefEqProofs (disch:=first|assumption|omega|(simp only[aE,aF,aD,i64,sa,aB,lm,la,lc,ln];omega)) only[go_sem,simprocAttr,ZA.x,c0]
 ·have f1:=Nh x.fArgs (n-(x.fS.size:Int)) (by omega) (by omega)
  by_cases c1:n-(x.fS.size:Int)-(x.fArgs.length:Int)<0
  ·rw[if_pos (by omega)] at f1
   rw[if_pos (show n<(x.fS.size:Int)+(x.fArgs.length:Int) by omega)]
   simp -implicitDefEqProofs (disch:=first|assumption|omega|(simp only[aE,aF,aD,i64,sa,aB,lm,la,lc,ln];omega)) only[go_sem,simprocAttr,ZA.x,c0,c1,f1]
  ·rw[if_neg (by omega)] at f1
   rw[if_neg (show ¬n<(x.fS.size:Int)+(x.fArgs.length:Int) by omega)]
   rw[show n-((x.fS.size:Int)+(x.fArgs.length:Int))=n-(x.fS.size:Int)-(x.fArgs.length:Int) by omega]
   simp -implicitDefEqProofs (disch:=first|assumption|omega|(simp only[aE,aF,aD,i64,sa,aB,lm,la,lc,ln];omega)) only[go_sem,simprocAttr,ZA.x,c0,f1,c1]
theorem Ah(xs:List ZA)(hx:xs.length≤1048576)(hok:∀y∈xs,y.ok):∀(B A:List ZA) (n:Int),xs=A++B→0≤n∧n≤1048576 →
  loopW tab [0,1,5] lQ {env:=upd (upd (upd emp 5 (some (I (A.length:Int)))) 1 (some (I n))) 0 (some (.d (.r (xs.map ZA.r)))),heap:=emp,fr:=0,next:=0}=(if n<ZA.szl B then some (.ret,{env:=upd emp 4 (some (I (-1))),heap:=emp,fr:=0,next:=0}) else some (.ext 0,{env:=upd emp 1 (some (I (n-ZA.szl B))),heap:=emp,fr:=0,next:=0}))
 |[],A,n,h,hn=>by
  rw[zqe] at h
  subst h
  unfold loopW
  conv=>lhs;arg 1;unfold lQ
  rw[if_neg (show ¬n<ZA.szl [] by simp only[ZA.szl];omega)]
  simp -implicitDefEqProofs (disch:=first|assumption|omega|(simp only[aE,aF,aD,i64,sa,aB,lm,la,lc,ln];omega)) only[go_sem,simprocAttr,ZA.szl,Int.sub_zero]
 |x::B,A,n,h,hn=>by
  unfold loopW
  conv=>lhs;arg 1;unfold lQ
  have hl:xs.length=A.length+(B.length+1):=by rw[h];simp
  have h2:(xs.map ZA.r)[A.length]? = some x.r:=by rw[h];simp
  have hto:=Px x n hn (hok x (by rw[h];simp))
  have hnn:=ZA.szl_nn B
  have hxn:=x.sz_nn
  simp only[ZA.r] at h2
  simp only[ZA.x] at hto
  rw[show ZA.szl (x::B)=x.sz+ZA.szl B from rfl]
  by_cases hc:n<x.sz
  ·rw[if_pos hc] at hto
   rw[if_pos (show n<x.sz+ZA.szl B by omega)]
   simp -implicitDefEqProofs (disch:=first|assumption|omega|(simp only[aE,aF,aD,i64,sa,aB,lm,la,lc,ln];omega)) only[go_sem,simprocAttr,h2,hto]
  ·rw[if_neg hc] at hto
   have ih:=Ah xs hx hok B (A++[x]) (n-x.sz) (by simp[h]) (by omega)
   rw[show(((A++[x]).length:Nat):Int)=(A.length:Int)+1 by simp] at ih
   by_cases hd:n-x.sz<ZA.szl B
   ·rw[if_pos hd] at ih
    rw[if_pos (show n<x.sz+ZA.szl B by omega)]
    simp -implicitDefEqProofs (disch:=first|assumption|omega|(simp only[aE,aF,aD,i64,sa,aB,lm,la,lc,ln];omega)) only[go_sem,simprocAttr,h2,hto,ih]
   ·rw[if_neg hd,show n-x.sz-ZA.szl B=n-(x.sz+ZA.szl B) by omega] at ih
    rw[if_neg (show ¬n<x.sz+ZA.szl B by omega)]
    simp -implicitDefEqProofs (disch:=first|assumption|omega|(simp only[aE,aF,aD,i64,sa,aB,lm,la,lc,ln];omega)) only[go_sem,simprocAttr,h2,hto,ih]
theorem Ml(xs:List ZA)(n:Int)(hn:0≤n∧n≤1048576)(hx:xs.length≤140737488351232∧∀y∈xs,y.ok):call tab Aj [.d (.r (xs.map ZA.r)),I n]=some (I (if n<ZA.szs xs then -1 else n-ZA.szs xs)):=by
 rw[aQ Qa _ rfl,C3]
 have hx1:=hx.1
 have hnn:=ZA.szl_nn xs
 rw[show ZA.szs xs=xs.length+ZA.szl xs from rfl]
 by_cases h:n-(xs.length:Int)<0
 ·rw[if_pos (show n<xs.length+ZA.szl xs by omega)]
  simp -implicitDefEqProofs (disch:=first|assumption|omega|(simp only[aE,aF,aD,i64,sa,aB,lm,la,lc,ln];omega)) only[go_sem,simprocAttr,h]
 ·have hl:=Ah xs (by omega) hx.2 xs [] (n-xs.length) rfl (by omega)
  simp only[ln,Int.cast_ofNat_Int] at hl
  by_cases hd:n-(xs.length:Int)<ZA.szl xs
  ·rw[if_pos hd] at hl
   rw[if_pos (show n<xs.length+ZA.szl xs by omega)]
   simp -implicitDefEqProofs (disch:=first|assumption|omega|(simp only[aE,aF,aD,i64,sa,aB,lm,la,lc,ln];omega)) only[go_sem,simprocAttr,h,hl]
  ·rw[if_neg hd,show n-(xs.length:Int)-ZA.szl xs=n-(xs.length+ZA.szl xs) by omega] at hl
   rw[if_neg (show ¬n<xs.length+ZA.szl xs by omega)]
   simp -implicitDefEqProofs (disch:=first|assumption|omega|(simp only[aE,aF,aD,i64,sa,aB,lm,la,lc,ln];omega)) only[go_sem,simprocAttr,h,hl]
theorem u7:∀(B A:List ZA) (k:Int),(A.length:Int)+ZA.cts B≤1099511627776→0≤k∧k+ZA.cts B≤4611686018427387904 →
  loopW tab [0,1,5] i9 {env:=upd (upd (upd emp 5 (some (I (A.length:Int)))) 1 (some (I k))) 0 (some (.ref (0,0) [])),heap:=upd emp (0,0) (some (.s 7 (A.map ZA.o++B.map ZA.o))),fr:=1,next:=0}=some (.ext 0,{env:=upd emp 1 (some (I (k+ZA.cts B))),heap:=upd emp (0,0) (some (.s 7 (A.map ZA.o++(ZA.mks k B).map ZA.o))),fr:=1,next:=0})
 |[],A,k,h,hk=>by
  unfold loopW
  conv=>lhs;arg 1;unfold i9
  simp only[ZA.cts] at h hk
  simp -implicitDefEqProofs (disch:=first|assumption|omega|(simp only[aE,aF,aD,i64,sa,aB,lm,la,lc,ln];omega)) only[go_sem,simprocAttr,ZA.cts,ZA.mks,mn,zqe,Int.add_zero]
 |x::B,A,k,h,hk=>by
  unfold loopW
  conv=>lhs;arg 1;unfold i9
  simp only[ZA.cts] at h hk
  have h1:=x.ct_nn
  have h0:=ZA.cts_nn B
  have ih:=u7 B (A++[x.mk_ k]) (k+x.ct) (by simp;omega) (by omega)
  rw[show(((A++[x.mk_ k]).length:Nat):Int)=(A.length:Int)+1 by simp,show k+x.ct+ZA.cts B=k+ZA.cts (x::B) by simp only[ZA.cts];omega] at ih
  simp only[List.map_append,mc,mn,zqc,List.cons_append,zqf] at ih
  simp only[ZA.mks,mc]
  have hm:ZA.o (x.mk_ k)=[DI (k),DI (k+1),DI (k+1+1),DI (k+1+1+1),DI (k+1+1+1+1),DS (Pn (k+1+1+1+1+1)),.s 1 (aP (pI (k+1+1+1+1+1+1) x.fArgs))]:=rfl
  have hkx:k+x.ct=k+1+1+1+1+1+1+(x.fArgs.length:Int):=by unfold ZA.ct;omega
  rw[hm,hkx] at ih
  rw[hm,hkx]
  unfold ZA.ct at hk h0
  have f0:=Hh x.fArgs (k+1+1+1+1+1+1) (by omega) (by omega)
  simp -implicitDefEqProofs (disch:=first|assumption|omega|(simp only[aE,aF,aD,i64,sa,aB,lm,la,lc,ln];omega)) only[go_sem,simprocAttr,ZA.o,lc,xD,xI,wC,f0,kG,ih]
theorem Gx(xs:List ZA)(k:Int)(h:ZA.cts xs≤1099511627776)(hk:0≤k∧k+ZA.cts xs≤4611686018427387904):evCW tab sQ [.ref (0,0) [],I k] (upd emp (0,0) (some (.s 7 (xs.map ZA.o)))) 1=some (I (k+ZA.cts xs),upd emp (0,0) (some (.s 7 ((ZA.mks k xs).map ZA.o)))):=by
 rw[bU Jt _ _ _ rfl,x6]
 have hl:=u7 xs [] k (by simpa using h) hk
 simp only[mn,zqf,ln,Int.cast_ofNat_Int] at hl
 simp -implicitDefEqProofs (disch:=first|assumption|omega|(simp only[aE,aF,aD,i64,sa,aB,lm,la,lc,ln];omega)) only[go_sem,simprocAttr,hl]
theorem uL(full:List (List D)):∀(B A:List ZA) (k:Int),full=A.map ZA.r++(ZA.mks k B).map ZA.r→(A.length:Int)+ZA.cts B≤1099511627776→0≤k∧k+ZA.cts B≤4611686018427387904 →
  loopW tab [0,1,5] jD {env:=upd (upd (upd emp 5 (some (I (A.length:Int)))) 1 (some (I k))) 0 (some (.d (.r full))),heap:=emp,fr:=0,next:=0}=some (.ext 0,{env:=upd emp 1 (some (I (k+ZA.cts B))),heap:=emp,fr:=0,next:=0})
 |[],A,k,hf,h,hk=>by
  subst hf
  unfold loopW
  conv=>lhs;arg 1;unfold jD
  simp only[ZA.cts] at h hk
  simp -implicitDefEqProofs (disch:=first|assumption|omega|(simp only[aE,aF,aD,i64,sa,aB,lm,la,lc,ln];omega)) only[go_sem,simprocAttr,ZA.cts,ZA.mks,mn,zqe,Int.add_zero]
 |x::B,A,k,hf,h,hk=>by
  simp only[ZA.cts] at h hk
  have h1:=x.ct_nn
  have h0:=ZA.cts_nn B
  have ih:=uL full B (A++[x.mk_ k]) (k+x.ct) (by rw[hf];simp[ZA.mks]) (by simp;omega) (by omega)
  unfold loopW
  conv=>lhs;arg 1;unfold jD
  have hlen:=ZA.mks_len k (x::B)
  have h2:full[A.length]? = some (ZA.r (x.mk_ k)):=by rw[hf];simp[ZA.mks]
  have h3:full.length=A.length+(B.length+1):=by rw[hf,la,lm,lm,hlen,lc]
  clear hf
  rw[show(((A++[x.mk_ k]).length:Nat):Int)=(A.length:Int)+1 by simp,show k+x.ct+ZA.cts B=k+ZA.cts (x::B) by simp only[ZA.cts];omega] at ih
  have hm:ZA.r (x.mk_ k)=[DI (k),DI (k+1),DI (k+1+1),DI (k+1+1+1),DI (k+1+1+1+1),DS (Pn (k+1+1+1+1+1)),.r (aP (pI (k+1+1+1+1+1+1) x.fArgs))]:=rfl
  have hkx:k+x.ct=k+1+1+1+1+1+1+(x.fArgs.length:Int):=by unfold ZA.ct;omega
  rw[hkx] at ih
  rw[hm] at h2
  unfold ZA.ct at hk h0
  have f0:=Gi x.fArgs (k+1+1+1+1+1+1) (by omega) (by omega)
  simp -implicitDefEqProofs (disch:=first|assumption|omega|(simp only[aE,aF,aD,i64,sa,aB,lm,la,lc,ln];omega)) only[go_sem,simprocAttr,h2,h3,f0,kG,ih]
theorem Hb(xs:List ZA)(k:Int)(h:ZA.cts xs≤1099511627776)(hk:0≤k∧k+ZA.cts xs≤4611686018427387904):call tab uD [.d (.r ((ZA.mks k xs).map ZA.r)),I k]=some (I (k+ZA.cts xs)):=by
 rw[aQ Jk _ rfl,yC]
 have hl:=uL _ xs [] k rfl (by simpa using h) hk
 simp only[mn,zqf,ln,Int.cast_ofNat_Int] at hl
 simp -implicitDefEqProofs (disch:=first|assumption|omega|(simp only[aE,aF,aD,i64,sa,aB,lm,la,lc,ln];omega)) only[go_sem,simprocAttr,hl]
set_option maxRecDepth 8000
set_option maxHeartbeats 4000000
structure ZB where
 fName:ByteArray
 fParams:Int
 fRegs:Int
 fCode:List ZA
def ZB.r(x:ZB):List D:=[DS x.fName,DI x.fParams,DI x.fRegs,.r (x.fCode.map ZA.r)]
def ZB.o(x:ZB):List D:=[DS x.fName,DI x.fParams,DI x.fRegs,.s 7 (x.fCode.map ZA.o)]
abbrev ZB.x(x:ZB):X:= .agg [Str x.fName,I x.fParams,I x.fRegs,.d (.r (x.fCode.map ZA.r))]
abbrev ZB.xo(x:ZB):X:= .agg [Str x.fName,I x.fParams,I x.fRegs,.d (.s 7 (x.fCode.map ZA.o))]
theorem ZB.fzl(x:ZB):fzl x.o=x.r:=by simp only[ZB.o,ZB.r,Ev.fzl,D.fz,ZA.fzs,dQ]
theorem ZB.fzlr(x:ZB):Ev.fzl x.r=x.r:=by simp only[ZB.r,Ev.fzl,D.fz,ZA.fzr,dQ]
theorem ZB.fzs(xs:List ZB):fzs (xs.map ZB.o)=xs.map ZB.r:=pS _ _ ZB.fzl xs
theorem ZB.fzr(xs:List ZB):Ev.fzs (xs.map ZB.r)=xs.map ZB.r:=pS _ _ ZB.fzlr xs
theorem ZB.noR(xs:List ZB):D.noR.noRss (xs.map ZB.o)=true:=lZ _ (fun x=>by simp only[ZB.o,D.noR.noRs,D.noR,bat,bta,ZA.noR,qT]) xs
def ZB.sz(x:ZB):Int:=(x.fName.size:Int)+ZA.szs x.fCode
theorem ZB.sz_nn(x:ZB):0≤x.sz:=by
 unfold ZB.sz;have:=ZA.szs_nn x.fCode;omega
def ZB.szl:List ZB→Int
 |[]=>0
 |x::xs=>x.sz+ZB.szl xs
def ZB.szs(xs:List ZB):Int:=xs.length+ZB.szl xs
theorem ZB.szl_nn:∀xs:List ZB,0≤ZB.szl xs
 |[]=>by simp[ZB.szl]
 |x::xs=>by simp only[ZB.szl];have:=x.sz_nn;have:=ZB.szl_nn xs;omega
theorem ZB.szs_nn(xs:List ZB):0≤ZB.szs xs∧(xs.length:Int)≤ZB.szs xs:=by have:=ZB.szl_nn xs;unfold ZB.szs;omega
theorem ZB.sz_le:∀{xs:List ZB} {x:ZB},x∈xs→x.sz≤ZB.szl xs
 |y::xs,x,h=>by
  simp only[ZB.szl]
  have h1:=y.sz_nn;have h2:=ZB.szl_nn xs
  rcases List.mem_cons.1 h with rfl|h
  ·omega
  ·have:=ZB.sz_le h;omega
def ZB.sm(x:ZB):Prop:=x.fName.size≤1048576∧(x.fCode.length≤1048576∧∀y∈x.fCode,y.sm)
theorem ZB.sm_of{x:ZB}(h:x.sz≤1048576):x.sm:=by
 unfold ZB.sz at h
 unfold ZB.sm
 have:=ZA.szs_nn x.fCode
 exact⟨by omega,⟨by omega,fun y hy=>ZA.sm_of (by have:=ZA.sz_le hy;unfold ZA.szs at *;omega)⟩⟩
theorem ZB.sms_of{xs:List ZB}(h:ZB.szs xs≤1048576):xs.length≤1048576∧∀y∈xs,y.sm:=by
 have:=ZB.szl_nn xs
 unfold ZB.szs at h
 exact⟨by omega,fun y hy=>ZB.sm_of (by have:=ZB.sz_le hy;omega)⟩
structure ZB.ok (x:ZB):Prop where
 fName:x.fName.size≤140737488351232
 fParams:i64 x.fParams
 fRegs:i64 x.fRegs
 fCode:x.fCode.length≤140737488351232∧∀y∈x.fCode,y.ok
theorem ZB.fit{c:List D}(h:jL [.s,.i .i64,.i .i64,.l 80 [.i .i64,.i .i64,.i .i64,.i .i64,.i .i64,.s,.l 8 [.i .i64]]] c):∃x:ZB,c=x.r∧x.ok:=by
 simp only[jL] at h
 obtain⟨_,_,rfl,h0,_,_,rfl,h1,_,_,rfl,h2,_,_,rfl,h3,rfl⟩:=h
 rw[Ev.fit] at h0;obtain⟨a0,rfl,g0⟩:=h0
 rw[Ev.fit] at h1;obtain⟨a1,rfl,g1⟩:=h1
 rw[Ev.fit] at h2;obtain⟨a2,rfl,g2⟩:=h2
 rw[Ev.fit] at h3;obtain⟨e3,rfl,b3,c3⟩:=h3;obtain⟨a3,rfl,g3⟩:=Ka (fun c hc=>ZA.fit hc) c3;rw[lm] at b3
 exact⟨⟨a0,a1,a2,a3⟩,rfl,⟨g0,V0 g1,V0 g2,⟨(by omega:a3.length≤140737488351232),g3⟩⟩⟩
def ZB.mk_(k:Int)(x:ZB):ZB:=⟨Pn (k),k+1,k+1+1,ZA.mks (k+1+1+1) x.fCode⟩
def ZB.ct(x:ZB):Int:=1+1+1+ZA.cts x.fCode
theorem ZB.ct_nn(x:ZB):1≤x.ct:=by
 unfold ZB.ct;have:=ZA.cts_nn x.fCode;omega
def ZB.mks:Int→List ZB→List ZB
 |_,[]=>[]
 |k,x::xs=>ZB.mk_ k x::ZB.mks (k+x.ct) xs
def ZB.cts:List ZB→Int
 |[]=>0
 |x::xs=>x.ct+ZB.cts xs
theorem ZB.cts_nn:∀xs:List ZB,(xs.length:Int)≤ZB.cts xs
 |[]=>by simp[ZB.cts]
 |x::xs=>by simp only[ZB.cts,lc];have:=x.ct_nn;have:=ZB.cts_nn xs;omega
theorem ZB.mks_len:∀(k:Int) (xs:List ZB),(ZB.mks k xs).length=xs.length
 |_,[]=>rfl
 |k,x::xs=>by simp[ZB.mks,ZB.mks_len (k+x.ct) xs]
theorem ZB.ct_le(x:ZB):x.ct≤64+64*x.sz:=by
 unfold ZB.ct ZB.sz;have:=ZA.cts_le x.fCode;have:=ZA.szs_nn x.fCode;omega
theorem ZB.cts_le:∀xs:List ZB,ZB.cts xs≤64*ZB.szs xs
 |[]=>by simp[ZB.cts,ZB.szs,ZB.szl]
 |x::xs=>by
  have h1:=x.ct_le;have h2:=ZB.cts_le xs
  simp only[ZB.cts,ZB.szs,ZB.szl,lc] at *;omega
def ZB.ctv(x:ZB):Int:=ZA.cts x.fCode
theorem Nu(x:ZB)(hx:x.sm):call tab zC [x.x]=some x.xo:=by
 simp only[ZB.sm] at hx
 have t0:=Kj x.fCode (by first|exact hx|exact hx.1|exact hx.2|exact hx.2.1|exact hx.2.2|exact hx.2.2.1|exact hx.2.2.2|exact hx.2.2.2.1)
 rw[aQ P3 _ rfl,Df]
 simp -implicitDefEqProofs (disch:=first|assumption|omega|(simp only[aE,aF,aD,i64,sa,aB,lm,la,lc,ln];omega)) only[go_sem,simprocAttr,ZB.x,ZB.xo,t0]
theorem yA(xs:List ZB)(hx:xs.length≤1048576∧∀y∈xs,y.sm):∀(B A:List ZB),xs=A++B →
  loopW tab [0,3,4] j5 {env:=upd (upd (upd emp 4 (some (I (A.length:Int)))) 3 (some (.ref (0,0) []))) 0 (some (.d (.r (xs.map ZB.r)))),heap:=upd emp (0,0) (some (.s 4 (A.map ZB.o++List.replicate B.length [DS ⟨#[]⟩,DI 0,DI 0,.s 7 []]))),fr:=0,next:=1}=some (.ext 0,{env:=upd emp 3 (some (.ref (0,0) [])),heap:=upd emp (0,0) (some (.s 4 (xs.map ZB.o))),fr:=0,next:=1})
 |[],A,h=>by
  rw[zqe] at h
  subst h
  unfold loopW
  conv=>lhs;arg 1;unfold j5
  have hx':=hx.1
  simp -implicitDefEqProofs (disch:=first|assumption|omega|(simp only[aE,aF,aD,i64,sa,aB,lm,la,lc,ln];omega)) only[go_sem,simprocAttr,List.replicate_zero]
 |x::B,A,h=>by
  unfold loopW
  conv=>lhs;arg 1;unfold j5
  have hl:xs.length=A.length+(B.length+1):=by rw[h];simp
  have h2:(xs.map ZB.r)[A.length]? = some x.r:=by rw[h];simp
  have hx':=hx.1
  have hto:=Nu x (hx.2 x (by rw[h];simp))
  have ih:=yA xs hx B (A++[x]) (by simp[h])
  rw[show(((A++[x]).length:Nat):Int)=(A.length:Int)+1 by simp] at ih
  simp only[List.map_append,mc,mn,zqc,List.cons_append,zqf,ZB.o] at ih
  simp only[ZB.r] at h2
  simp only[ZB.x,ZB.xo] at hto
  simp -implicitDefEqProofs (disch:=first|assumption|omega|(simp only[aE,aF,aD,i64,sa,aB,lm,la,lc,ln];omega)) only[go_sem,simprocAttr,lc,List.replicate_succ,xD,xI,wC,h2,hto,ih]
theorem Iu(xs:List ZB)(hx:xs.length≤1048576∧∀y∈xs,y.sm):call tab j6 [.d (.r (xs.map ZB.r))]=some (.d (.s 4 (xs.map ZB.o))):=by
 rw[aQ L0 _ rfl,Bx]
 have hl:=yA xs hx xs [] rfl
 have hx':=hx.1
 simp only[mn,zqf,ln,Int.cast_ofNat_Int] at hl
 simp -implicitDefEqProofs (disch:=first|assumption|omega|(simp only[aE,aF,aD,i64,sa,aB,lm,la,lc,ln];omega)) only[go_sem,simprocAttr,hl]
theorem Lu(x:ZB)(hx:x.sm):call tab Ao [x.x,x.x]=some (B true):=by
 simp only[ZB.sm] at hx
 have t0:=Np x.fCode (by first|exact hx|exact hx.1|exact hx.2|exact hx.2.1|exact hx.2.2|exact hx.2.2.1|exact hx.2.2.2|exact hx.2.2.2.1)
 rw[aQ Oy _ rfl,C8]
 simp -implicitDefEqProofs (disch:=first|assumption|omega|(simp only[aE,aF,aD,i64,sa,aB,lm,la,lc,ln];omega)) only[go_sem,simprocAttr,ZB.x,t0]
theorem yX(xs:List ZB)(hx:xs.length≤1048576∧∀y∈xs,y.sm):∀(B A:List ZB),xs=A++B →
  loopW tab [0,1,5] jX {env:=upd (upd (upd emp 5 (some (I (A.length:Int)))) 1 (some (.d (.r (xs.map ZB.r))))) 0 (some (.d (.r (xs.map ZB.r)))),heap:=emp,fr:=0,next:=0}=some (.ext 0,{env:=emp,heap:=emp,fr:=0,next:=0})
 |[],A,h=>by
  rw[zqe] at h
  subst h
  unfold loopW
  conv=>lhs;arg 1;unfold jX
  have hx':=hx.1
  simp -implicitDefEqProofs (disch:=first|assumption|omega|(simp only[aE,aF,aD,i64,sa,aB,lm,la,lc,ln];omega)) only[go_sem,simprocAttr]
 |x::B,A,h=>by
  unfold loopW
  conv=>lhs;arg 1;unfold jX
  have hl:xs.length=A.length+(B.length+1):=by rw[h];simp
  have h2:(xs.map ZB.r)[A.length]? = some x.r:=by rw[h];simp
  have hx':=hx.1
  have hto:=Lu x (hx.2 x (by rw[h];simp))
  have ih:=yX xs hx B (A++[x]) (by simp[h])
  rw[show(((A++[x]).length:Nat):Int)=(A.length:Int)+1 by simp] at ih
  simp only[ZB.r] at h2
  simp only[ZB.x] at hto
  simp -implicitDefEqProofs (disch:=first|assumption|omega|(simp only[aE,aF,aD,i64,sa,aB,lm,la,lc,ln];omega)) only[go_sem,simprocAttr,h2,hto,ih]
theorem x7(xs:List ZB)(hx:xs.length≤1048576∧∀y∈xs,y.sm):call tab kA [.d (.r (xs.map ZB.r)),.d (.r (xs.map ZB.r))]=some (B true):=by
 rw[aQ N9 _ rfl,zN]
 have hl:=yX xs hx xs [] rfl
 have hx':=hx.1
 simp only[ln,Int.cast_ofNat_Int] at hl
 simp -implicitDefEqProofs (disch:=first|assumption|omega|(simp only[aE,aF,aD,i64,sa,aB,lm,la,lc,ln];omega)) only[go_sem,simprocAttr,hl]
theorem K3(x:ZB)(n:Int)(hn:0≤n∧n≤1048576)(hx:x.ok):call tab Ai [x.x,I n]=some (I (if n<x.sz then -1 else n-x.sz)):=by
 rw[aQ Qc _ rfl,Dp]
 have hsz:x.sz=(x.fName.size:Int)+ZA.szs x.fCode:=rfl
 rw[hsz]
 have b0:=hx.fName
 have b1:=hx.fCode.1
 have z1:=ZA.szs_nn x.fCode
 by_cases c0:n-(x.fName.size:Int)<0
 ·rw[if_pos (show n<(x.fName.size:Int)+ZA.szs x.fCode by omega)]
  simp -implicitDefEqProofs (disch:=first|assumption|omega|(simp only[aE,aF,aD,i64,sa,aB,lm,la,lc,ln];omega)) only[go_sem,simprocAttr,ZB.x,c0]
 ·have f1:=Ml x.fCode (n-(x.fName.size:Int)) (by omega) hx.fCode
  by_cases c1:n-(x.fName.size:Int)-ZA.szs x.fCode<0
  ·rw[if_pos (by omega)] at f1
   rw[if_pos (show n<(x.fName.size:Int)+ZA.szs x.fCode by omega)]
   simp -implicitDefEqProofs (disch:=first|assumption|omega|(simp only[aE,aF,aD,i64,sa,aB,lm,la,lc,ln];omega)) only[go_sem,simprocAttr,ZB.x,c0,c1,f1]
  ·rw[if_neg (by omega)] at f1
   rw[if_neg (show ¬n<(x.fName.size:Int)+ZA.szs x.fCode by omega)]
   rw[show n-((x.fName.size:Int)+ZA.szs x.fCode)=n-(x.fName.size:Int)-ZA.szs x.fCode by omega]
   simp -implicitDefEqProofs (disch:=first|assumption|omega|(simp only[aE,aF,aD,i64,sa,aB,lm,la,lc,ln];omega)) only[go_sem,simprocAttr,ZB.x,c0,f1,c1]
theorem xY(xs:List ZB)(hx:xs.length≤1048576)(hok:∀y∈xs,y.ok):∀(B A:List ZB) (n:Int),xs=A++B→0≤n∧n≤1048576 →
  loopW tab [0,1,5] j7 {env:=upd (upd (upd emp 5 (some (I (A.length:Int)))) 1 (some (I n))) 0 (some (.d (.r (xs.map ZB.r)))),heap:=emp,fr:=0,next:=0}=(if n<ZB.szl B then some (.ret,{env:=upd emp 4 (some (I (-1))),heap:=emp,fr:=0,next:=0}) else some (.ext 0,{env:=upd emp 1 (some (I (n-ZB.szl B))),heap:=emp,fr:=0,next:=0}))
 |[],A,n,h,hn=>by
  rw[zqe] at h
  subst h
  unfold loopW
  conv=>lhs;arg 1;unfold j7
  rw[if_neg (show ¬n<ZB.szl [] by simp only[ZB.szl];omega)]
  simp -implicitDefEqProofs (disch:=first|assumption|omega|(simp only[aE,aF,aD,i64,sa,aB,lm,la,lc,ln];omega)) only[go_sem,simprocAttr,ZB.szl,Int.sub_zero]
 |x::B,A,n,h,hn=>by
  unfold loopW
  conv=>lhs;arg 1;unfold j7
  have hl:xs.length=A.length+(B.length+1):=by rw[h];simp
  have h2:(xs.map ZB.r)[A.length]? = some x.r:=by rw[h];simp
  have hto:=K3 x n hn (hok x (by rw[h];simp))
  have hnn:=ZB.szl_nn B
  have hxn:=x.sz_nn
  simp only[ZB.r] at h2
  simp only[ZB.x] at hto
  rw[show ZB.szl (x::B)=x.sz+ZB.szl B from rfl]
  by_cases hc:n<x.sz
  ·rw[if_pos hc] at hto
   rw[if_pos (show n<x.sz+ZB.szl B by omega)]
   simp -implicitDefEqProofs (disch:=first|assumption|omega|(simp only[aE,aF,aD,i64,sa,aB,lm,la,lc,ln];omega)) only[go_sem,simprocAttr,h2,hto]
  ·rw[if_neg hc] at hto
   have ih:=xY xs hx hok B (A++[x]) (n-x.sz) (by simp[h]) (by omega)
   rw[show(((A++[x]).length:Nat):Int)=(A.length:Int)+1 by simp] at ih
   by_cases hd:n-x.sz<ZB.szl B
   ·rw[if_pos hd] at ih
    rw[if_pos (show n<x.sz+ZB.szl B by omega)]
    simp -implicitDefEqProofs (disch:=first|assumption|omega|(simp only[aE,aF,aD,i64,sa,aB,lm,la,lc,ln];omega)) only[go_sem,simprocAttr,h2,hto,ih]
   ·rw[if_neg hd,show n-x.sz-ZB.szl B=n-(x.sz+ZB.szl B) by omega] at ih
    rw[if_neg (show ¬n<x.sz+ZB.szl B by omega)]
    simp -implicitDefEqProofs (disch:=first|assumption|omega|(simp only[aE,aF,aD,i64,sa,aB,lm,la,lc,ln];omega)) only[go_sem,simprocAttr,h2,hto,ih]
theorem Iy(xs:List ZB)(n:Int)(hn:0≤n∧n≤1048576)(hx:xs.length≤140737488351232∧∀y∈xs,y.ok):call tab wS [.d (.r (xs.map ZB.r)),I n]=some (I (if n<ZB.szs xs then -1 else n-ZB.szs xs)):=by
 rw[aQ Nk _ rfl,A5]
 have hx1:=hx.1
 have hnn:=ZB.szl_nn xs
 rw[show ZB.szs xs=xs.length+ZB.szl xs from rfl]
 by_cases h:n-(xs.length:Int)<0
 ·rw[if_pos (show n<xs.length+ZB.szl xs by omega)]
  simp -implicitDefEqProofs (disch:=first|assumption|omega|(simp only[aE,aF,aD,i64,sa,aB,lm,la,lc,ln];omega)) only[go_sem,simprocAttr,h]
 ·have hl:=xY xs (by omega) hx.2 xs [] (n-xs.length) rfl (by omega)
  simp only[ln,Int.cast_ofNat_Int] at hl
  by_cases hd:n-(xs.length:Int)<ZB.szl xs
  ·rw[if_pos hd] at hl
   rw[if_pos (show n<xs.length+ZB.szl xs by omega)]
   simp -implicitDefEqProofs (disch:=first|assumption|omega|(simp only[aE,aF,aD,i64,sa,aB,lm,la,lc,ln];omega)) only[go_sem,simprocAttr,h,hl]
  ·rw[if_neg hd,show n-(xs.length:Int)-ZB.szl xs=n-(xs.length+ZB.szl xs) by omega] at hl
   rw[if_neg (show ¬n<xs.length+ZB.szl xs by omega)]
   simp -implicitDefEqProofs (disch:=first|assumption|omega|(simp only[aE,aF,aD,i64,sa,aB,lm,la,lc,ln];omega)) only[go_sem,simprocAttr,h,hl]
set_option maxRecDepth 8000
set_option maxHeartbeats 4000000
theorem rV:∀(B A:List ZB) (k:Int),(A.length:Int)+ZB.cts B≤1099511627776→0≤k∧k+ZB.cts B≤4611686018427387904 →
  loopW tab [0,1,5] gS {env:=upd (upd (upd emp 5 (some (I (A.length:Int)))) 1 (some (I k))) 0 (some (.ref (0,0) [])),heap:=upd emp (0,0) (some (.s 4 (A.map ZB.o++B.map ZB.o))),fr:=1,next:=0}=some (.ext 0,{env:=upd emp 1 (some (I (k+ZB.cts B))),heap:=upd emp (0,0) (some (.s 4 (A.map ZB.o++(ZB.mks k B).map ZB.o))),fr:=1,next:=0})
 |[],A,k,h,hk=>by
  unfold loopW
  conv=>lhs;arg 1;unfold gS
  simp only[ZB.cts] at h hk
  simp -implicitDefEqProofs (disch:=first|assumption|omega|(simp only[aE,aF,aD,i64,sa,aB,lm,la,lc,ln];omega)) only[go_sem,simprocAttr,ZB.cts,ZB.mks,mn,zqe,Int.add_zero]
 |x::B,A,k,h,hk=>by
  unfold loopW
  conv=>lhs;arg 1;unfold gS
  simp only[ZB.cts] at h hk
  have h1:=x.ct_nn
  have h0:=ZB.cts_nn B
  have ih:=rV B (A++[x.mk_ k]) (k+x.ct) (by simp;omega) (by omega)
  rw[show(((A++[x.mk_ k]).length:Nat):Int)=(A.length:Int)+1 by simp,show k+x.ct+ZB.cts B=k+ZB.cts (x::B) by simp only[ZB.cts];omega] at ih
  simp only[List.map_append,mc,mn,zqc,List.cons_append,zqf] at ih
  simp only[ZB.mks,mc]
  have hm:ZB.o (x.mk_ k)=[DS (Pn (k)),DI (k+1),DI (k+1+1),.s 7 ((ZA.mks (k+1+1+1) x.fCode).map ZA.o)]:=rfl
  have hkx:k+x.ct=k+1+1+1+ZA.cts x.fCode:=by unfold ZB.ct;omega
  rw[hm,hkx] at ih
  rw[hm,hkx]
  have n0:=ZA.cts_nn x.fCode
  unfold ZB.ct at hk h0
  have f0:=Gx x.fCode (k+1+1+1) (by omega) (by omega)
  simp -implicitDefEqProofs (disch:=first|assumption|omega|(simp only[aE,aF,aD,i64,sa,aB,lm,la,lc,ln];omega)) only[go_sem,simprocAttr,ZB.o,lc,xD,xI,wC,f0,kG,ih]
theorem rZ(xs:List ZB)(k:Int)(h:ZB.cts xs≤1099511627776)(hk:0≤k∧k+ZB.cts xs≤4611686018427387904):evCW tab mT [.ref (0,0) [],I k] (upd emp (0,0) (some (.s 4 (xs.map ZB.o)))) 1=some (I (k+ZB.cts xs),upd emp (0,0) (some (.s 4 ((ZB.mks k xs).map ZB.o)))):=by
 rw[bU G2 _ _ _ rfl,vN]
 have hl:=rV xs [] k (by simpa using h) hk
 simp only[mn,zqf,ln,Int.cast_ofNat_Int] at hl
 simp -implicitDefEqProofs (disch:=first|assumption|omega|(simp only[aE,aF,aD,i64,sa,aB,lm,la,lc,ln];omega)) only[go_sem,simprocAttr,hl]
theorem sK(full:List (List D)):∀(B A:List ZB) (k:Int),full=A.map ZB.r++(ZB.mks k B).map ZB.r→(A.length:Int)+ZB.cts B≤1099511627776→0≤k∧k+ZB.cts B≤4611686018427387904 →
  loopW tab [0,1,5] gY {env:=upd (upd (upd emp 5 (some (I (A.length:Int)))) 1 (some (I k))) 0 (some (.d (.r full))),heap:=emp,fr:=0,next:=0}=some (.ext 0,{env:=upd emp 1 (some (I (k+ZB.cts B))),heap:=emp,fr:=0,next:=0})
 |[],A,k,hf,h,hk=>by
  subst hf
  unfold loopW
  conv=>lhs;arg 1;unfold gY
  simp only[ZB.cts] at h hk
  simp -implicitDefEqProofs (disch:=first|assumption|omega|(simp only[aE,aF,aD,i64,sa,aB,lm,la,lc,ln];omega)) only[go_sem,simprocAttr,ZB.cts,ZB.mks,mn,zqe,Int.add_zero]
 |x::B,A,k,hf,h,hk=>by
  simp only[ZB.cts] at h hk
  have h1:=x.ct_nn
  have h0:=ZB.cts_nn B
  have ih:=sK full B (A++[x.mk_ k]) (k+x.ct) (by rw[hf];simp[ZB.mks]) (by simp;omega) (by omega)
  unfold loopW
  conv=>lhs;arg 1;unfold gY
  have hlen:=ZB.mks_len k (x::B)
  have h2:full[A.length]? = some (ZB.r (x.mk_ k)):=by rw[hf];simp[ZB.mks]
  have h3:full.length=A.length+(B.length+1):=by rw[hf,la,lm,lm,hlen,lc]
  clear hf
  rw[show(((A++[x.mk_ k]).length:Nat):Int)=(A.length:Int)+1 by simp,show k+x.ct+ZB.cts B=k+ZB.cts (x::B) by simp only[ZB.cts];omega] at ih
  have hm:ZB.r (x.mk_ k)=[DS (Pn (k)),DI (k+1),DI (k+1+1),.r ((ZA.mks (k+1+1+1) x.fCode).map ZA.r)]:=rfl
  have hkx:k+x.ct=k+1+1+1+ZA.cts x.fCode:=by unfold ZB.ct;omega
  rw[hkx] at ih
  rw[hm] at h2
  have n0:=ZA.cts_nn x.fCode
  unfold ZB.ct at hk h0
  have f0:=Hb x.fCode (k+1+1+1) (by omega) (by omega)
  simp -implicitDefEqProofs (disch:=first|assumption|omega|(simp only[aE,aF,aD,i64,sa,aB,lm,la,lc,ln];omega)) only[go_sem,simprocAttr,h2,h3,f0,kG,ih]
theorem Ew(xs:List ZB)(k:Int)(h:ZB.cts xs≤1099511627776)(hk:0≤k∧k+ZB.cts xs≤4611686018427387904):call tab mX [.d (.r ((ZB.mks k xs).map ZB.r)),I k]=some (I (k+ZB.cts xs)):=by
 rw[aQ G6 _ rfl,vU]
 have hl:=sK _ xs [] k rfl (by simpa using h) hk
 simp only[mn,zqf,ln,Int.cast_ofNat_Int] at hl
 simp -implicitDefEqProofs (disch:=first|assumption|omega|(simp only[aE,aF,aD,i64,sa,aB,lm,la,lc,ln];omega)) only[go_sem,simprocAttr,hl]
end Go.Ev.G
