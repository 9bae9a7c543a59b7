import Derived.Test.YtenclibcnjkamaaGreatEvQText
set_option linter.all false
namespace Go.Ev.G
set_option maxRecDepth 8000
set_option maxHeartbeats 4000000
structure ZC where
 fOp:Int
 fD:Int
 fA:Int
 fB:Int
 fN:Int
 fS:ByteArray
 fArgs:List Int
def ZC.r(x:ZC):List D:=[DI x.fOp,DI x.fD,DI x.fA,DI x.fB,DI x.fN,DS x.fS,.r (aG x.fArgs)]
def ZC.o(x:ZC):List D:=[DI x.fOp,DI x.fD,DI x.fA,DI x.fB,DI x.fN,DS x.fS,.s 1 (aG x.fArgs)]
abbrev ZC.x(x:ZC):X:= .agg [I x.fOp,I x.fD,I x.fA,I x.fB,I x.fN,Str x.fS,.d (.r (aG x.fArgs))]
abbrev ZC.xo(x:ZC):X:= .agg [I x.fOp,I x.fD,I x.fA,I x.fB,I x.fN,Str x.fS,.d (.s 1 (aG x.fArgs))]
theorem ZC.fzl(x:ZC):fzl x.o=x.r:=by simp only[ZC.o,ZC.r,Ev.fzl,D.fz,cM]
theorem ZC.fzlr(x:ZC):Ev.fzl x.r=x.r:=by simp only[ZC.r,Ev.fzl,D.fz,cM]
theorem ZC.fzs(xs:List ZC):fzs (xs.map ZC.o)=xs.map ZC.r:=mP _ _ ZC.fzl xs
theorem ZC.fzr(xs:List ZC):Ev.fzs (xs.map ZC.r)=xs.map ZC.r:=mP _ _ ZC.fzlr xs
theorem ZC.noR(xs:List ZC):D.noR.noRss (xs.map ZC.o)=true:=n7 _ (fun x=>by simp only[ZC.o,D.noR.noRs,D.noR,bat,bta,Hd]) xs
def ZC.sz(x:ZC):Int:=(x.fS.size:Int)+(x.fArgs.length:Int)
theorem ZC.sz_nn(x:ZC):0≤x.sz:=by
 unfold ZC.sz;omega
def ZC.szl:List ZC→Int
 |[]=>0
 |x::xs=>x.sz+ZC.szl xs
def ZC.szs(xs:List ZC):Int:=xs.length+ZC.szl xs
theorem ZC.szl_nn:∀xs:List ZC,0≤ZC.szl xs
 |[]=>by simp[ZC.szl]
 |x::xs=>by simp only[ZC.szl];have:=x.sz_nn;have:=ZC.szl_nn xs;omega
theorem ZC.szs_nn(xs:List ZC):0≤ZC.szs xs∧(xs.length:Int)≤ZC.szs xs:=by have:=ZC.szl_nn xs;unfold ZC.szs;omega
theorem ZC.sz_le:∀{xs:List ZC} {x:ZC},x∈xs→x.sz≤ZC.szl xs
 |y::xs,x,h=>by
  simp only[ZC.szl]
  have h1:=y.sz_nn;have h2:=ZC.szl_nn xs
  rcases List.mem_cons.1 h with rfl|h
  ·omega
  ·have:=ZC.sz_le h;omega
def ZC.sm(x:ZC):Prop:=x.fS.size≤1048576∧x.fArgs.length≤1048576
theorem ZC.sm_of{x:ZC}(h:x.sz≤1048576):x.sm:=by
 unfold ZC.sz at h
 unfold ZC.sm
 exact⟨by omega,by omega⟩
theorem ZC.sms_of{xs:List ZC}(h:ZC.szs xs≤1048576):xs.length≤1048576∧∀y∈xs,y.sm:=by
 have:=ZC.szl_nn xs
 unfold ZC.szs at h
 exact⟨by omega,fun y hy=>ZC.sm_of (by have:=ZC.sz_le hy;omega)⟩
structure ZC.ok (x:ZC):Prop where
 fOp:i64 x.fOp
 fD:i64 x.fD
 fA:i64 x.fA
 fB:i64 x.fB
 fN:i64 x.fN
 fS:x.fS.size≤140737488351232
 fArgs:x.fArgs.length≤140737488351232∧∀n∈x.fArgs,i64 n
theorem ZC.fit{c:List D}(h:jV [.i .i64,.i .i64,.i .i64,.i .i64,.i .i64,.s,.l 8 [.i .i64]] c):∃x:ZC,c=x.r∧x.ok:=by
 simp only[jV] at h
 obtain⟨_,_,rfl,h0,_,_,rfl,h1,_,_,rfl,h2,_,_,rfl,h3,_,_,rfl,h4,_,_,rfl,h5,_,_,rfl,h6,rfl⟩:=h
 rw[Ev.fit] at h0;obtain⟨a0,rfl,g0⟩:=h0
 rw[Ev.fit] at h1;obtain⟨a1,rfl,g1⟩:=h1
 rw[Ev.fit] at h2;obtain⟨a2,rfl,g2⟩:=h2
 rw[Ev.fit] at h3;obtain⟨a3,rfl,g3⟩:=h3
 rw[Ev.fit] at h4;obtain⟨a4,rfl,g4⟩:=h4
 rw[Ev.fit] at h5;obtain⟨a5,rfl,g5⟩:=h5
 rw[Ev.fit] at h6;obtain⟨e6,rfl,b6,c6⟩:=h6;obtain⟨a6,rfl,g6⟩:=Mq (enc:=fun n=>[DI n]) (ok:=i64) (fun c hc=>zYG hc) c6;rw[lm] at b6
 exact⟨⟨a0,a1,a2,a3,a4,a5,a6⟩,rfl,⟨xJ g0,xJ g1,xJ g2,xJ g3,xJ g4,g5,⟨(by omega:a6.length≤140737488351232),g6⟩⟩⟩
def ZC.mk_(k:Int)(x:ZC):ZC:=⟨k,k+1,k+1+1,k+1+1+1,k+1+1+1+1,Hl (k+1+1+1+1+1),Np (k+1+1+1+1+1+1) x.fArgs⟩
def ZC.ct(x:ZC):Int:=1+1+1+1+1+1+(x.fArgs.length:Int)
theorem ZC.ct_nn(x:ZC):1≤x.ct:=by
 unfold ZC.ct;omega
def ZC.mks:Int→List ZC→List ZC
 |_,[]=>[]
 |k,x::xs=>ZC.mk_ k x::ZC.mks (k+x.ct) xs
def ZC.cts:List ZC→Int
 |[]=>0
 |x::xs=>x.ct+ZC.cts xs
theorem ZC.cts_nn:∀xs:List ZC,(xs.length:Int)≤ZC.cts xs
 |[]=>by simp[ZC.cts]
 |x::xs=>by simp only[ZC.cts,lc];have:=x.ct_nn;have:=ZC.cts_nn xs;omega
theorem ZC.mks_len:∀(k:Int) (xs:List ZC),(ZC.mks k xs).length=xs.length
 |_,[]=>rfl
 |k,x::xs=>by simp[ZC.mks,ZC.mks_len (k+x.ct) xs]
theorem ZC.ct_le(x:ZC):x.ct≤64+64*x.sz:=by
 unfold ZC.ct ZC.sz;omega
theorem ZC.cts_le:∀xs:List ZC,ZC.cts xs≤64*ZC.szs xs
 |[]=>by simp[ZC.cts,ZC.szs,ZC.szl]
 |x::xs=>by
  have h1:=x.ct_le;have h2:=ZC.cts_le xs
  simp only[ZC.cts,ZC.szs,ZC.szl,lc] at *;omega
theorem Sz(x:ZC)(hx:x.sm):call tab Fw [x.x]=some x.xo:=by
 simp only[ZC.sm] at hx
 have t0:=Oh x.fArgs (by omega)
 rw[aT Wl _ rfl,Ha]
 simp -implicitDefEqProofs (disch:=first|assumption|omega|(simp only[aE,aL,aF,i64,sa,aB,lm,la,lc,ln];omega)) only[go_sem,simprocAttr,ZC.x,ZC.xo,t0]
theorem Bp(xs:List ZC)(hx:xs.length≤1048576∧∀y∈xs,y.sm):∀(B A:List ZC),xs=A++B →
  loopW tab [0,3,4] nF {env:=upd (upd (upd emp 4 (some (I (A.length:Int)))) 3 (some (.ref (0,0) []))) 0 (some (.d (.r (xs.map ZC.r)))),heap:=upd emp (0,0) (some (.s 7 (A.map ZC.o++List.replicate B.length [DI 0,DI 0,DI 0,DI 0,DI 0,DS ⟨#[]⟩,.s 1 []]))),fr:=0,next:=1}=some (.ext 0,{env:=upd emp 3 (some (.ref (0,0) [])),heap:=upd emp (0,0) (some (.s 7 (xs.map ZC.o))),fr:=0,next:=1})
 |[],A,h=>by
  rw[zqe] at h
  subst h
  unfold loopW
  conv=>lhs;arg 1;unfold nF
  have hx':=hx.1
  simp -implicitDefEqProofs (disch:=first|assumption|omega|(simp only[aE,aL,aF,i64,sa,aB,lm,la,lc,ln];omega)) only[go_sem,simprocAttr,List.replicate_zero]
 |x::B,A,h=>by
  unfold loopW
  conv=>lhs;arg 1;unfold nF
  have hl:xs.length=A.length+(B.length+1):=by rw[h];simp
  have h2:(xs.map ZC.r)[A.length]? = some x.r:=by rw[h];simp
  have hx':=hx.1
  have hto:=Sz x (hx.2 x (by rw[h];simp))
  have ih:=Bp xs hx B (A++[x]) (by simp[h])
  rw[show(((A++[x]).length:Nat):Int)=(A.length:Int)+1 by simp] at ih
  simp only[List.map_append,mc,mn,zqc,List.cons_append,zqf,ZC.o] at ih
  simp only[ZC.r] at h2
  simp only[ZC.x,ZC.xo] at hto
  simp -implicitDefEqProofs (disch:=first|assumption|omega|(simp only[aE,aL,aF,i64,sa,aB,lm,la,lc,ln];omega)) only[go_sem,simprocAttr,lc,List.replicate_succ,yI,yL,zU,h2,hto,ih]
theorem Nw(xs:List ZC)(hx:xs.length≤1048576∧∀y∈xs,y.sm):call tab B8 [.d (.r (xs.map ZC.r))]=some (.d (.s 7 (xs.map ZC.o))):=by
 rw[aT Ti _ rfl,E6]
 have hl:=Bp xs hx xs [] rfl
 have hx':=hx.1
 simp only[mn,zqf,ln,Int.cast_ofNat_Int] at hl
 simp -implicitDefEqProofs (disch:=first|assumption|omega|(simp only[aE,aL,aF,i64,sa,aB,lm,la,lc,ln];omega)) only[go_sem,simprocAttr,hl]
theorem Tn(x:ZC)(hx:x.sm):call tab Gr [x.x,x.x]=some (B true):=by
 simp only[ZC.sm] at hx
 have t0:=Qn x.fArgs (by omega)
 rw[aT Xf _ rfl,G2]
 simp -implicitDefEqProofs (disch:=first|assumption|omega|(simp only[aE,aL,aF,i64,sa,aB,lm,la,lc,ln];omega)) only[go_sem,simprocAttr,ZC.x,t0]
theorem C4(xs:List ZC)(hx:xs.length≤1048576∧∀y∈xs,y.sm):∀(B A:List ZC),xs=A++B →
  loopW tab [0,1,5] nS {env:=upd (upd (upd emp 5 (some (I (A.length:Int)))) 1 (some (.d (.r (xs.map ZC.r))))) 0 (some (.d (.r (xs.map ZC.r)))),heap:=emp,fr:=0,next:=0}=some (.ext 0,{env:=emp,heap:=emp,fr:=0,next:=0})
 |[],A,h=>by
  rw[zqe] at h
  subst h
  unfold loopW
  conv=>lhs;arg 1;unfold nS
  have hx':=hx.1
  simp -implicitDefEqProofs (disch:=first|assumption|omega|(simp only[aE,aL,aF,i64,sa,aB,lm,la,lc,ln];omega)) only[go_sem,simprocAttr]
 |x::B,A,h=>by
  unfold loopW
  conv=>lhs;arg 1;unfold nS
  have hl:xs.length=A.length+(B.length+1):=by rw[h];simp
  have h2:(xs.map ZC.r)[A.length]? = some x.r:=by rw[h];simp
  have hx':=hx.1
  have hto:=Tn x (hx.2 x (by rw[h];simp))
  have ih:=C4 xs hx B (A++[x]) (by simp[h])
  rw[show(((A++[x]).length:Nat):Int)=(A.length:Int)+1 by simp] at ih
  simp only[ZC.r] at h2
  simp only[ZC.x] at hto
  simp -implicitDefEqProofs (disch:=first|assumption|omega|(simp only[aE,aL,aF,i64,sa,aB,lm,la,lc,ln];omega)) only[go_sem,simprocAttr,h2,hto,ih]
theorem Pf(xs:List ZC)(hx:xs.length≤1048576∧∀y∈xs,y.sm):call tab C2 [.d (.r (xs.map ZC.r)),.d (.r (xs.map ZC.r))]=some (B true):=by
 rw[aT Sa _ rfl,Fj]
 have hl:=C4 xs hx xs [] rfl
 have hx':=hx.1
 simp only[ln,Int.cast_ofNat_Int] at hl
 simp -implicitDefEqProofs (disch:=first|assumption|omega|(simp only[aE,aL,aF,i64,sa,aB,lm,la,lc,ln];omega)) only[go_sem,simprocAttr,hl]
theorem Tk(x:ZC)(n:Int)(hn:0≤n∧n≤1048576)(hx:x.ok):call tab Gk [x.x,I n]=some (I (if n<x.sz then -1 else n-x.sz)):=by
 rw[aT V0 _ rfl,H1]
 have hsz:x.sz=(x.fS.size:Int)+(x.fArgs.length:Int):=rfl
 rw[hsz]
 have b0:=hx.fS
 have b1:=hx.fArgs.1
 by_cases c0:n-(x.fS.size:Int)<0
 ·rw[if_pos (show n<(x.fS.size:Int)+(x.fArgs.length:Int) by omega)]
  simp -implicitDefEqProofs (disch:=first|assumption|omega|(simp only[aE,aL,aF,i64,sa,aB,lm,la,lc,ln];omega)) only[go_sem,simprocAttr,ZC.x,c0]
 ·have f1:=Qr x.fArgs (n-(x.fS.size:Int)) (by omega) (by omega)
  by_cases c1:n-(x.fS.size:Int)-(x.fArgs.length:Int)<0
  ·rw[if_pos (by omega)] at f1
   rw[if_pos (show n<(x.fS.size:Int)+(x.fArgs.length:Int) by omega)]
   simp -implicitDefEqProofs (disch:=first|assumption|omega|(simp only[aE,aL,aF,i64,sa,aB,lm,la,lc,ln];omega)) only[go_sem,simprocAttr,ZC.x,c0,c1,f1]
  ·rw[if_neg (by omega)] at f1
   rw[if_neg (show ¬n<(x.fS.size:Int)+(x.fArgs.length:Int) by omega)]
   rw[show n-((x.fS.size:Int)+(x.fArgs.length:Int))=n-(x.fS.size:Int)-(x.fArgs.length:Int) by omega]
   simp -implicitDefEqProofs (disch:=first|assumption|omega|(simp only[aE,aL,aF,i64,sa,aB,lm,la,lc,ln];omega)) only[go_sem,simprocAttr,ZC.x,c0,f1,c1]
theorem B4(xs:List ZC)(hx:xs.length≤1048576)(hok:∀y∈xs,y.ok):∀(B A:List ZC) (n:Int),xs=A++B→0≤n∧n≤1048576 →
  loopW tab [0,1,5] nL {env:=upd (upd (upd emp 5 (some (I (A.length:Int)))) 1 (some (I n))) 0 (some (.d (.r (xs.map ZC.r)))),heap:=emp,fr:=0,next:=0}=(if n<ZC.szl B then some (.ret,{env:=upd emp 4 (some (I (-1))),heap:=emp,fr:=0,next:=0}) else some (.ext 0,{env:=upd emp 1 (some (I (n-ZC.szl B))),heap:=emp,fr:=0,next:=0}))
 |[],A,n,h,hn=>by
  rw[zqe] at h
  subst h
  unfold loopW
  conv=>lhs;arg 1;unfold nL
  rw[if_neg (show ¬n<ZC.szl [] by simp only[ZC.szl];omega)]
  simp -implicitDefEqProofs (disch:=first|assumption|omega|(simp only[aE,aL,aF,i64,sa,aB,lm,la,lc,ln];omega)) only[go_sem,simprocAttr,ZC.szl,Int.sub_zero]
 |x::B,A,n,h,hn=>by
  unfold loopW
  conv=>lhs;arg 1;unfold nL
  have hl:xs.length=A.length+(B.length+1):=by rw[h];simp
  have h2:(xs.map ZC.r)[A.length]? = some x.r:=by rw[h];simp
  have hto:=Tk x n hn (hok x (by rw[h];simp))
  have hnn:=ZC.szl_nn B
  have hxn:=x.sz_nn
  simp only[ZC.r] at h2
  simp only[ZC.x] at hto
  rw[show ZC.szl (x::B)=x.sz+ZC.szl B from rfl]
  by_cases hc:n<x.sz
  ·rw[if_pos hc] at hto
   rw[if_pos (show n<x.sz+ZC.szl B by omega)]
   simp -implicitDefEqProofs (disch:=first|assumption|omega|(simp only[aE,aL,aF,i64,sa,aB,lm,la,lc,ln];omega)) only[go_sem,simprocAttr,h2,hto]
  ·rw[if_neg hc] at hto
   have ih:=B4 xs hx hok B (A++[x]) (n-x.sz) (by simp[h]) (by omega)
   rw[show(((A++[x]).length:Nat):Int)=(A.length:Int)+1 by simp] at ih
   by_cases hd:n-x.sz<ZC.szl B
   ·rw[if_pos hd] at ih
    rw[if_pos (show n<x.sz+ZC.szl B by omega)]
    simp -implicitDefEqProofs (disch:=first|assumption|omega|(simp only[aE,aL,aF,i64,sa,aB,lm,la,lc,ln];omega)) only[go_sem,simprocAttr,h2,hto,ih]
   ·rw[if_neg hd,show n-x.sz-ZC.szl B=n-(x.sz+ZC.szl B) by omega] at ih
    rw[if_neg (show ¬n<x.sz+ZC.szl B by omega)]
    simp -implicitDefEqProofs (disch:=first|assumption|omega|(simp only[aE,aL,aF,i64,sa,aB,lm,la,lc,ln];omega)) only[go_sem,simprocAttr,h2,hto,ih]
theorem P7(xs:List ZC)(n:Int)(hn:0≤n∧n≤1048576)(hx:xs.length≤140737488351232∧∀y∈xs,y.ok):call tab Bz [.d (.r (xs.map ZC.r)),I n]=some (I (if n<ZC.szs xs then -1 else n-ZC.szs xs)):=by
 rw[aT Ro _ rfl,E5]
 have hx1:=hx.1
 have hnn:=ZC.szl_nn xs
 rw[show ZC.szs xs=xs.length+ZC.szl xs from rfl]
 by_cases h:n-(xs.length:Int)<0
 ·rw[if_pos (show n<xs.length+ZC.szl xs by omega)]
  simp -implicitDefEqProofs (disch:=first|assumption|omega|(simp only[aE,aL,aF,i64,sa,aB,lm,la,lc,ln];omega)) only[go_sem,simprocAttr,h]
 ·have hl:=B4 xs (by omega) hx.2 xs [] (n-xs.length) rfl (by omega)
  simp only[ln,Int.cast_ofNat_Int] at hl
  by_cases hd:n-(xs.length:Int)<ZC.szl xs
  ·rw[if_pos hd] at hl
   rw[if_pos (show n<xs.length+ZC.szl xs by omega)]
   simp -implicitDefEqProofs (disch:=first|assumption|omega|(simp only[aE,aL,aF,i64,sa,aB,lm,la,lc,ln];omega)) only[go_sem,simprocAttr,h,hl]
  ·rw[if_neg hd,show n-(xs.length:Int)-ZC.szl xs=n-(xs.length+ZC.szl xs) by omega] at hl
   rw[if_neg (show ¬n<xs.length+ZC.szl xs by omega)]
   simp -implicitDefEqProofs (disch:=first|assumption|omega|(simp only[aE,aL,aF,i64,sa,aB,lm,la,lc,ln];omega)) only[go_sem,simprocAttr,h,hl]
theorem xI:∀(B A:List ZC) (k:Int),(A.length:Int)+ZC.cts B≤1099511627776→0≤k∧k+ZC.cts B≤4611686018427387904 →
  loopW tab [0,1,5] kU {env:=upd (upd (upd emp 5 (some (I (A.length:Int)))) 1 (some (I k))) 0 (some (.ref (0,0) [])),heap:=upd emp (0,0) (some (.s 7 (A.map ZC.o++B.map ZC.o))),fr:=1,next:=0}=some (.ext 0,{env:=upd emp 1 (some (I (k+ZC.cts B))),heap:=upd emp (0,0) (some (.s 7 (A.map ZC.o++(ZC.mks k B).map ZC.o))),fr:=1,next:=0})
 |[],A,k,h,hk=>by
  unfold loopW
  conv=>lhs;arg 1;unfold kU
  simp only[ZC.cts] at h hk
  simp -implicitDefEqProofs (disch:=first|assumption|omega|(simp only[aE,aL,aF,i64,sa,aB,lm,la,lc,ln];omega)) only[go_sem,simprocAttr,ZC.cts,ZC.mks,mn,zqe,Int.add_zero]
 |x::B,A,k,h,hk=>by
  unfold loopW
  conv=>lhs;arg 1;unfold kU
  simp only[ZC.cts] at h hk
  have h1:=x.ct_nn
  have h0:=ZC.cts_nn B
  have ih:=xI B (A++[x.mk_ k]) (k+x.ct) (by simp;omega) (by omega)
  rw[show(((A++[x.mk_ k]).length:Nat):Int)=(A.length:Int)+1 by simp,show k+x.ct+ZC.cts B=k+ZC.cts (x::B) by simp only[ZC.cts];omega] at ih
  simp only[List.map_append,mc,mn,zqc,List.cons_append,zqf] at ih
  simp only[ZC.mks,mc]
  have hm:ZC.o (x.mk_ k)=[DI (k),DI (k+1),DI (k+1+1),DI (k+1+1+1),DI (k+1+1+1+1),DS (Hl (k+1+1+1+1+1)),.s 1 (aG (Np (k+1+1+1+1+1+1) x.fArgs))]:=rfl
  have hkx:k+x.ct=k+1+1+1+1+1+1+(x.fArgs.length:Int):=by unfold ZC.ct;omega
  rw[hm,hkx] at ih
  rw[hm,hkx]
  unfold ZC.ct at hk h0
  have f0:=J5 x.fArgs (k+1+1+1+1+1+1) (by omega) (by omega)
  simp -implicitDefEqProofs (disch:=first|assumption|omega|(simp only[aE,aL,aF,i64,sa,aB,lm,la,lc,ln];omega)) only[go_sem,simprocAttr,ZC.o,lc,yI,yL,zU,f0,l5,ih]
theorem J7(xs:List ZC)(k:Int)(h:ZC.cts xs≤1099511627776)(hk:0≤k∧k+ZC.cts xs≤4611686018427387904):evCW tab wG [.ref (0,0) [],I k] (upd emp (0,0) (some (.s 7 (xs.map ZC.o)))) 1=some (I (k+ZC.cts xs),upd emp (0,0) (some (.s 7 ((ZC.mks k xs).map ZC.o)))):=by
 rw[aR K9 _ _ _ rfl,z6]
 have hl:=xI xs [] k (by simpa using h) hk
 simp only[mn,zqf,ln,Int.cast_ofNat_Int] at hl
 simp -implicitDefEqProofs (disch:=first|assumption|omega|(simp only[aE,aL,aF,i64,sa,aB,lm,la,lc,ln];omega)) only[go_sem,simprocAttr,hl]
set_option maxRecDepth 8000
set_option maxHeartbeats 4000000
structure ZD where
 fName:ByteArray
 fParams:Int
 fRegs:Int
 fCode:List ZC
def ZD.r(x:ZD):List D:=[DS x.fName,DI x.fParams,DI x.fRegs,.r (x.fCode.map ZC.r)]
def ZD.o(x:ZD):List D:=[DS x.fName,DI x.fParams,DI x.fRegs,.s 7 (x.fCode.map ZC.o)]
abbrev ZD.x(x:ZD):X:= .agg [Str x.fName,I x.fParams,I x.fRegs,.d (.r (x.fCode.map ZC.r))]
abbrev ZD.xo(x:ZD):X:= .agg [Str x.fName,I x.fParams,I x.fRegs,.d (.s 7 (x.fCode.map ZC.o))]
theorem ZD.fzl(x:ZD):fzl x.o=x.r:=by simp only[ZD.o,ZD.r,Ev.fzl,D.fz,ZC.fzs,cM]
theorem ZD.fzlr(x:ZD):Ev.fzl x.r=x.r:=by simp only[ZD.r,Ev.fzl,D.fz,ZC.fzr,cM]
theorem ZD.fzs(xs:List ZD):fzs (xs.map ZD.o)=xs.map ZD.r:=mP _ _ ZD.fzl xs
theorem ZD.fzr(xs:List ZD):Ev.fzs (xs.map ZD.r)=xs.map ZD.r:=mP _ _ ZD.fzlr xs
theorem ZD.noR(xs:List ZD):D.noR.noRss (xs.map ZD.o)=true:=n7 _ (fun x=>by simp only[ZD.o,D.noR.noRs,D.noR,bat,bta,ZC.noR,Hd]) xs
def ZD.sz(x:ZD):Int:=(x.fName.size:Int)+ZC.szs x.fCode
theorem ZD.sz_nn(x:ZD):0≤x.sz:=by
 unfold ZD.sz;have:=ZC.szs_nn x.fCode;omega
def ZD.szl:List ZD→Int
 |[]=>0
 |x::xs=>x.sz+ZD.szl xs
def ZD.szs(xs:List ZD):Int:=xs.length+ZD.szl xs
theorem ZD.szl_nn:∀xs:List ZD,0≤ZD.szl xs
 |[]=>by simp[ZD.szl]
 |x::xs=>by simp only[ZD.szl];have:=x.sz_nn;have:=ZD.szl_nn xs;omega
theorem ZD.szs_nn(xs:List ZD):0≤ZD.szs xs∧(xs.length:Int)≤ZD.szs xs:=by have:=ZD.szl_nn xs;unfold ZD.szs;omega
theorem ZD.sz_le:∀{xs:List ZD} {x:ZD},x∈xs→x.sz≤ZD.szl xs
 |y::xs,x,h=>by
  simp only[ZD.szl]
  have h1:=y.sz_nn;have h2:=ZD.szl_nn xs
  rcases List.mem_cons.1 h with rfl|h
  ·omega
  ·have:=ZD.sz_le h;omega
def ZD.sm(x:ZD):Prop:=x.fName.size≤1048576∧(x.fCode.length≤1048576∧∀y∈x.fCode,y.sm)
theorem ZD.sm_of{x:ZD}(h:x.sz≤1048576):x.sm:=by
 unfold ZD.sz at h
 unfold ZD.sm
 have:=ZC.szs_nn x.fCode
 exact⟨by omega,⟨by omega,fun y hy=>ZC.sm_of (by have:=ZC.sz_le hy;unfold ZC.szs at *;omega)⟩⟩
theorem ZD.sms_of{xs:List ZD}(h:ZD.szs xs≤1048576):xs.length≤1048576∧∀y∈xs,y.sm:=by
 have:=ZD.szl_nn xs
 unfold ZD.szs at h
 exact⟨by omega,fun y hy=>ZD.sm_of (by have:=ZD.sz_le hy;omega)⟩
structure ZD.ok (x:ZD):Prop where
 fName:x.fName.size≤140737488351232
 fParams:i64 x.fParams
 fRegs:i64 x.fRegs
 fCode:x.fCode.length≤140737488351232∧∀y∈x.fCode,y.ok
theorem ZD.fit{c:List D}(h:jV [.s,.i .i64,.i .i64,.l 80 [.i .i64,.i .i64,.i .i64,.i .i64,.i .i64,.s,.l 8 [.i .i64]]] c):∃x:ZD,c=x.r∧x.ok:=by
 simp only[jV] at h
 obtain⟨_,_,rfl,h0,_,_,rfl,h1,_,_,rfl,h2,_,_,rfl,h3,rfl⟩:=h
 rw[Ev.fit] at h0;obtain⟨a0,rfl,g0⟩:=h0
 rw[Ev.fit] at h1;obtain⟨a1,rfl,g1⟩:=h1
 rw[Ev.fit] at h2;obtain⟨a2,rfl,g2⟩:=h2
 rw[Ev.fit] at h3;obtain⟨e3,rfl,b3,c3⟩:=h3;obtain⟨a3,rfl,g3⟩:=Mq (fun c hc=>ZC.fit hc) c3;rw[lm] at b3
 exact⟨⟨a0,a1,a2,a3⟩,rfl,⟨g0,xJ g1,xJ g2,⟨(by omega:a3.length≤140737488351232),g3⟩⟩⟩
def ZD.mk_(k:Int)(x:ZD):ZD:=⟨Hl (k),k+1,k+1+1,ZC.mks (k+1+1+1) x.fCode⟩
def ZD.ct(x:ZD):Int:=1+1+1+ZC.cts x.fCode
theorem ZD.ct_nn(x:ZD):1≤x.ct:=by
 unfold ZD.ct;have:=ZC.cts_nn x.fCode;omega
def ZD.mks:Int→List ZD→List ZD
 |_,[]=>[]
 |k,x::xs=>ZD.mk_ k x::ZD.mks (k+x.ct) xs
def ZD.cts:List ZD→Int
 |[]=>0
 |x::xs=>x.ct+ZD.cts xs
theorem ZD.cts_nn:∀xs:List ZD,(xs.length:Int)≤ZD.cts xs
 |[]=>by simp[ZD.cts]
 |x::xs=>by simp only[ZD.cts,lc];have:=x.ct_nn;have:=ZD.cts_nn xs;omega
theorem ZD.mks_len:∀(k:Int) (xs:List ZD),(ZD.mks k xs).length=xs.length
 |_,[]=>rfl
 |k,x::xs=>by simp[ZD.mks,ZD.mks_len (k+x.ct) xs]
theorem ZD.ct_le(x:ZD):x.ct≤64+64*x.sz:=by
 unfold ZD.ct ZD.sz;have:=ZC.cts_le x.fCode;have:=ZC.szs_nn x.fCode;omega
theorem ZD.cts_le:∀xs:List ZD,ZD.cts xs≤64*ZD.szs xs
 |[]=>by simp[ZD.cts,ZD.szs,ZD.szl]
 |x::xs=>by
  have h1:=x.ct_le;have h2:=ZD.cts_le xs
  simp only[ZD.cts,ZD.szs,ZD.szl,lc] at *;omega
theorem Ov(x:ZD)(hx:x.sm):call tab By [x.x]=some x.xo:=by
 simp only[ZD.sm] at hx
 have t0:=Nw x.fCode (by first|exact hx|exact hx.1|exact hx.2|exact hx.2.1|exact hx.2.2|exact hx.2.2.1|exact hx.2.2.2|exact hx.2.2.2.1)
 rw[aT So _ rfl,Fm]
 simp -implicitDefEqProofs (disch:=first|assumption|omega|(simp only[aE,aL,aF,i64,sa,aB,lm,la,lc,ln];omega)) only[go_sem,simprocAttr,ZD.x,ZD.xo,t0]
theorem Ay(xs:List ZD)(hx:xs.length≤1048576∧∀y∈xs,y.sm):∀(B A:List ZD),xs=A++B →
  loopW tab [0,3,4] mC {env:=upd (upd (upd emp 4 (some (I (A.length:Int)))) 3 (some (.ref (0,0) []))) 0 (some (.d (.r (xs.map ZD.r)))),heap:=upd emp (0,0) (some (.s 4 (A.map ZD.o++List.replicate B.length [DS ⟨#[]⟩,DI 0,DI 0,.s 7 []]))),fr:=0,next:=1}=some (.ext 0,{env:=upd emp 3 (some (.ref (0,0) [])),heap:=upd emp (0,0) (some (.s 4 (xs.map ZD.o))),fr:=0,next:=1})
 |[],A,h=>by
  rw[zqe] at h
  subst h
  unfold loopW
  conv=>lhs;arg 1;unfold mC
  have hx':=hx.1
  simp -implicitDefEqProofs (disch:=first|assumption|omega|(simp only[aE,aL,aF,i64,sa,aB,lm,la,lc,ln];omega)) only[go_sem,simprocAttr,List.replicate_zero]
 |x::B,A,h=>by
  unfold loopW
  conv=>lhs;arg 1;unfold mC
  have hl:xs.length=A.length+(B.length+1):=by rw[h];simp
  have h2:(xs.map ZD.r)[A.length]? = some x.r:=by rw[h];simp
  have hx':=hx.1
  have hto:=Ov x (hx.2 x (by rw[h];simp))
  have ih:=Ay xs hx B (A++[x]) (by simp[h])
  rw[show(((A++[x]).length:Nat):Int)=(A.length:Int)+1 by simp] at ih
  simp only[List.map_append,mc,mn,zqc,List.cons_append,zqf,ZD.o] at ih
  simp only[ZD.r] at h2
  simp only[ZD.x,ZD.xo] at hto
  simp -implicitDefEqProofs (disch:=first|assumption|omega|(simp only[aE,aL,aF,i64,sa,aB,lm,la,lc,ln];omega)) only[go_sem,simprocAttr,lc,List.replicate_succ,yI,yL,zU,h2,hto,ih]
theorem Ma(xs:List ZD)(hx:xs.length≤1048576∧∀y∈xs,y.sm):call tab mN [.d (.r (xs.map ZD.r))]=some (.d (.s 4 (xs.map ZD.o))):=by
 rw[aT Nx _ rfl,Cr]
 have hl:=Ay xs hx xs [] rfl
 have hx':=hx.1
 simp only[mn,zqf,ln,Int.cast_ofNat_Int] at hl
 simp -implicitDefEqProofs (disch:=first|assumption|omega|(simp only[aE,aL,aF,i64,sa,aB,lm,la,lc,ln];omega)) only[go_sem,simprocAttr,hl]
theorem Pw(x:ZD)(hx:x.sm):call tab Df [x.x,x.x]=some (B true):=by
 simp only[ZD.sm] at hx
 have t0:=Pf x.fCode (by first|exact hx|exact hx.1|exact hx.2|exact hx.2.1|exact hx.2.2|exact hx.2.2.1|exact hx.2.2.2|exact hx.2.2.2.1)
 rw[aT Sf _ rfl,Fd]
 simp -implicitDefEqProofs (disch:=first|assumption|omega|(simp only[aE,aL,aF,i64,sa,aB,lm,la,lc,ln];omega)) only[go_sem,simprocAttr,ZD.x,t0]
theorem Az(xs:List ZD)(hx:xs.length≤1048576∧∀y∈xs,y.sm):∀(B A:List ZD),xs=A++B →
  loopW tab [0,1,5] mK {env:=upd (upd (upd emp 5 (some (I (A.length:Int)))) 1 (some (.d (.r (xs.map ZD.r))))) 0 (some (.d (.r (xs.map ZD.r)))),heap:=emp,fr:=0,next:=0}=some (.ext 0,{env:=emp,heap:=emp,fr:=0,next:=0})
 |[],A,h=>by
  rw[zqe] at h
  subst h
  unfold loopW
  conv=>lhs;arg 1;unfold mK
  have hx':=hx.1
  simp -implicitDefEqProofs (disch:=first|assumption|omega|(simp only[aE,aL,aF,i64,sa,aB,lm,la,lc,ln];omega)) only[go_sem,simprocAttr]
 |x::B,A,h=>by
  unfold loopW
  conv=>lhs;arg 1;unfold mK
  have hl:xs.length=A.length+(B.length+1):=by rw[h];simp
  have h2:(xs.map ZD.r)[A.length]? = some x.r:=by rw[h];simp
  have hx':=hx.1
  have hto:=Pw x (hx.2 x (by rw[h];simp))
  have ih:=Az xs hx B (A++[x]) (by simp[h])
  rw[show(((A++[x]).length:Nat):Int)=(A.length:Int)+1 by simp] at ih
  simp only[ZD.r] at h2
  simp only[ZD.x] at hto
  simp -implicitDefEqProofs (disch:=first|assumption|omega|(simp only[aE,aL,aF,i64,sa,aB,lm,la,lc,ln];omega)) only[go_sem,simprocAttr,h2,hto,ih]
theorem Me(xs:List ZD)(hx:xs.length≤1048576∧∀y∈xs,y.sm):call tab yQ [.d (.r (xs.map ZD.r)),.d (.r (xs.map ZD.r))]=some (B true):=by
 rw[aT N1 _ rfl,Du]
 have hl:=Az xs hx xs [] rfl
 have hx':=hx.1
 simp only[ln,Int.cast_ofNat_Int] at hl
 simp -implicitDefEqProofs (disch:=first|assumption|omega|(simp only[aE,aL,aF,i64,sa,aB,lm,la,lc,ln];omega)) only[go_sem,simprocAttr,hl]
theorem P6(x:ZD)(n:Int)(hn:0≤n∧n≤1048576)(hx:x.ok):call tab Bx [x.x,I n]=some (I (if n<x.sz then -1 else n-x.sz)):=by
 rw[aT Tl _ rfl,Fh]
 have hsz:x.sz=(x.fName.size:Int)+ZC.szs x.fCode:=rfl
 rw[hsz]
 have b0:=hx.fName
 have b1:=hx.fCode.1
 have z1:=ZC.szs_nn x.fCode
 by_cases c0:n-(x.fName.size:Int)<0
 ·rw[if_pos (show n<(x.fName.size:Int)+ZC.szs x.fCode by omega)]
  simp -implicitDefEqProofs (disch:=first|assumption|omega|(simp only[aE,aL,aF,i64,sa,aB,lm,la,lc,ln];omega)) only[go_sem,simprocAttr,ZD.x,c0]
 ·have f1:=P7 x.fCode (n-(x.fName.size:Int)) (by omega) hx.fCode
  by_cases c1:n-(x.fName.size:Int)-ZC.szs x.fCode<0
  ·rw[if_pos (by omega)] at f1
   rw[if_pos (show n<(x.fName.size:Int)+ZC.szs x.fCode by omega)]
   simp -implicitDefEqProofs (disch:=first|assumption|omega|(simp only[aE,aL,aF,i64,sa,aB,lm,la,lc,ln];omega)) only[go_sem,simprocAttr,ZD.x,c0,c1,f1]
  ·rw[if_neg (by omega)] at f1
   rw[if_neg (show ¬n<(x.fName.size:Int)+ZC.szs x.fCode by omega)]
   rw[show n-((x.fName.size:Int)+ZC.szs x.fCode)=n-(x.fName.size:Int)-ZC.szs x.fCode by omega]
   simp -implicitDefEqProofs (disch:=first|assumption|omega|(simp only[aE,aL,aF,i64,sa,aB,lm,la,lc,ln];omega)) only[go_sem,simprocAttr,ZD.x,c0,f1,c1]
theorem Aa(xs:List ZD)(hx:xs.length≤1048576)(hok:∀y∈xs,y.ok):∀(B A:List ZD) (n:Int),xs=A++B→0≤n∧n≤1048576 →
  loopW tab [0,1,5] mL {env:=upd (upd (upd emp 5 (some (I (A.length:Int)))) 1 (some (I n))) 0 (some (.d (.r (xs.map ZD.r)))),heap:=emp,fr:=0,next:=0}=(if n<ZD.szl B then some (.ret,{env:=upd emp 4 (some (I (-1))),heap:=emp,fr:=0,next:=0}) else some (.ext 0,{env:=upd emp 1 (some (I (n-ZD.szl B))),heap:=emp,fr:=0,next:=0}))
 |[],A,n,h,hn=>by
  rw[zqe] at h
  subst h
  unfold loopW
  conv=>lhs;arg 1;unfold mL
  rw[if_neg (show ¬n<ZD.szl [] by simp only[ZD.szl];omega)]
  simp -implicitDefEqProofs (disch:=first|assumption|omega|(simp only[aE,aL,aF,i64,sa,aB,lm,la,lc,ln];omega)) only[go_sem,simprocAttr,ZD.szl,Int.sub_zero]
 |x::B,A,n,h,hn=>by
  unfold loopW
  conv=>lhs;arg 1;unfold mL
  have hl:xs.length=A.length+(B.length+1):=by rw[h];simp
  have h2:(xs.map ZD.r)[A.length]? = some x.r:=by rw[h];simp
  have hto:=P6 x n hn (hok x (by rw[h];simp))
  have hnn:=ZD.szl_nn B
  have hxn:=x.sz_nn
  simp only[ZD.r] at h2
  simp only[ZD.x] at hto
  rw[show ZD.szl (x::B)=x.sz+ZD.szl B from rfl]
  by_cases hc:n<x.sz
  ·rw[if_pos hc] at hto
   rw[if_pos (show n<x.sz+ZD.szl B by omega)]
   simp -implicitDefEqProofs (disch:=first|assumption|omega|(simp only[aE,aL,aF,i64,sa,aB,lm,la,lc,ln];omega)) only[go_sem,simprocAttr,h2,hto]
  ·rw[if_neg hc] at hto
   have ih:=Aa xs hx hok B (A++[x]) (n-x.sz) (by simp[h]) (by omega)
   rw[show(((A++[x]).length:Nat):Int)=(A.length:Int)+1 by simp] at ih
   by_cases hd:n-x.sz<ZD.szl B
   ·rw[if_pos hd] at ih
    rw[if_pos (show n<x.sz+ZD.szl B by omega)]
    simp -implicitDefEqProofs (disch:=first|assumption|omega|(simp only[aE,aL,aF,i64,sa,aB,lm,la,lc,ln];omega)) only[go_sem,simprocAttr,h2,hto,ih]
   ·rw[if_neg hd,show n-x.sz-ZD.szl B=n-(x.sz+ZD.szl B) by omega] at ih
    rw[if_neg (show ¬n<x.sz+ZD.szl B by omega)]
    simp -implicitDefEqProofs (disch:=first|assumption|omega|(simp only[aE,aL,aF,i64,sa,aB,lm,la,lc,ln];omega)) only[go_sem,simprocAttr,h2,hto,ih]
theorem L8(xs:List ZD)(n:Int)(hn:0≤n∧n≤1048576)(hx:xs.length≤140737488351232∧∀y∈xs,y.ok):call tab zD [.d (.r (xs.map ZD.r)),I n]=some (I (if n<ZD.szs xs then -1 else n-ZD.szs xs)):=by
 rw[aT Nm _ rfl,B5]
 have hx1:=hx.1
 have hnn:=ZD.szl_nn xs
 rw[show ZD.szs xs=xs.length+ZD.szl xs from rfl]
 by_cases h:n-(xs.length:Int)<0
 ·rw[if_pos (show n<xs.length+ZD.szl xs by omega)]
  simp -implicitDefEqProofs (disch:=first|assumption|omega|(simp only[aE,aL,aF,i64,sa,aB,lm,la,lc,ln];omega)) only[go_sem,simprocAttr,h]
 ·have hl:=Aa xs (by omega) hx.2 xs [] (n-xs.length) rfl (by omega)
  simp only[ln,Int.cast_ofNat_Int] at hl
  by_cases hd:n-(xs.length:Int)<ZD.szl xs
  ·rw[if_pos hd] at hl
   rw[if_pos (show n<xs.length+ZD.szl xs by omega)]
   simp -implicitDefEqProofs (disch:=first|assumption|omega|(simp only[aE,aL,aF,i64,sa,aB,lm,la,lc,ln];omega)) only[go_sem,simprocAttr,h,hl]
  ·rw[if_neg hd,show n-(xs.length:Int)-ZD.szl xs=n-(xs.length+ZD.szl xs) by omega] at hl
   rw[if_neg (show ¬n<xs.length+ZD.szl xs by omega)]
   simp -implicitDefEqProofs (disch:=first|assumption|omega|(simp only[aE,aL,aF,i64,sa,aB,lm,la,lc,ln];omega)) only[go_sem,simprocAttr,h,hl]
set_option maxRecDepth 8000
set_option maxHeartbeats 4000000
theorem uN:∀(B A:List ZD) (k:Int),(A.length:Int)+ZD.cts B≤1099511627776→0≤k∧k+ZD.cts B≤4611686018427387904 →
  loopW tab [0,1,5] jS {env:=upd (upd (upd emp 5 (some (I (A.length:Int)))) 1 (some (I k))) 0 (some (.ref (0,0) [])),heap:=upd emp (0,0) (some (.s 4 (A.map ZD.o++B.map ZD.o))),fr:=1,next:=0}=some (.ext 0,{env:=upd emp 1 (some (I (k+ZD.cts B))),heap:=upd emp (0,0) (some (.s 4 (A.map ZD.o++(ZD.mks k B).map ZD.o))),fr:=1,next:=0})
 |[],A,k,h,hk=>by
  unfold loopW
  conv=>lhs;arg 1;unfold jS
  simp only[ZD.cts] at h hk
  simp -implicitDefEqProofs (disch:=first|assumption|omega|(simp only[aE,aL,aF,i64,sa,aB,lm,la,lc,ln];omega)) only[go_sem,simprocAttr,ZD.cts,ZD.mks,mn,zqe,Int.add_zero]
 |x::B,A,k,h,hk=>by
  unfold loopW
  conv=>lhs;arg 1;unfold jS
  simp only[ZD.cts] at h hk
  have h1:=x.ct_nn
  have h0:=ZD.cts_nn B
  have ih:=uN B (A++[x.mk_ k]) (k+x.ct) (by simp;omega) (by omega)
  rw[show(((A++[x.mk_ k]).length:Nat):Int)=(A.length:Int)+1 by simp,show k+x.ct+ZD.cts B=k+ZD.cts (x::B) by simp only[ZD.cts];omega] at ih
  simp only[List.map_append,mc,mn,zqc,List.cons_append,zqf] at ih
  simp only[ZD.mks,mc]
  have hm:ZD.o (x.mk_ k)=[DS (Hl (k)),DI (k+1),DI (k+1+1),.s 7 ((ZC.mks (k+1+1+1) x.fCode).map ZC.o)]:=rfl
  have hkx:k+x.ct=k+1+1+1+ZC.cts x.fCode:=by unfold ZD.ct;omega
  rw[hm,hkx] at ih
  rw[hm,hkx]
  have n0:=ZC.cts_nn x.fCode
  unfold ZD.ct at hk h0
  have f0:=J7 x.fCode (k+1+1+1) (by omega) (by omega)
  simp -implicitDefEqProofs (disch:=first|assumption|omega|(simp only[aE,aL,aF,i64,sa,aB,lm,la,lc,ln];omega)) only[go_sem,simprocAttr,ZD.o,lc,yI,yL,zU,f0,l5,ih]
theorem G5(xs:List ZD)(k:Int)(h:ZD.cts xs≤1099511627776)(hk:0≤k∧k+ZD.cts xs≤4611686018427387904):evCW tab tG [.ref (0,0) [],I k] (upd emp (0,0) (some (.s 4 (xs.map ZD.o)))) 1=some (I (k+ZD.cts xs),upd emp (0,0) (some (.s 4 ((ZD.mks k xs).map ZD.o)))):=by
 rw[aR Jl _ _ _ rfl,xC]
 have hl:=uN xs [] k (by simpa using h) hk
 simp only[mn,zqf,ln,Int.cast_ofNat_Int] at hl
 simp -implicitDefEqProofs (disch:=first|assumption|omega|(simp only[aE,aL,aF,i64,sa,aB,lm,la,lc,ln];omega)) only[go_sem,simprocAttr,hl]
end Go.Ev.G
