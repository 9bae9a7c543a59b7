import Derived.Test.YtenclibcnjkamaaGreatEvQText
set_option linter.all false
namespace Go.Ev.G
set_option maxRecDepth 8000
set_option maxHeartbeats 4000000
structure ZA where
 fOp:Int
 fD:Int
 fA:Int
 fB:Int
 fN:Int
 fS:ByteArray
 fArgs:List Int
def ZA.r(x:ZA):List D:=[DI x.fOp,DI x.fD,DI x.fA,DI x.fB,DI x.fN,DS x.fS,.r (aK x.fArgs)]
def ZA.o(x:ZA):List D:=[DI x.fOp,DI x.fD,DI x.fA,DI x.fB,DI x.fN,DS x.fS,.s 1 (aK x.fArgs)]
abbrev ZA.x(x:ZA):X:= .agg [I x.fOp,I x.fD,I x.fA,I x.fB,I x.fN,Str x.fS,.d (.r (aK x.fArgs))]
abbrev ZA.xo(x:ZA):X:= .agg [I x.fOp,I x.fD,I x.fA,I x.fB,I x.fN,Str x.fS,.d (.s 1 (aK x.fArgs))]
theorem ZA.fzl(x:ZA):fzl x.o=x.r:=by simp only[ZA.o,ZA.r,Ev.fzl,D.fz,cO]
theorem ZA.fzlr(x:ZA):Ev.fzl x.r=x.r:=by simp only[ZA.r,Ev.fzl,D.fz,cO]
theorem ZA.fzs(xs:List ZA):fzs (xs.map ZA.o)=xs.map ZA.r:=oE _ _ ZA.fzl xs
theorem ZA.fzr(xs:List ZA):Ev.fzs (xs.map ZA.r)=xs.map ZA.r:=oE _ _ ZA.fzlr xs
theorem ZA.noR(xs:List ZA):D.noR.noRss (xs.map ZA.o)=true:=oI _ (fun x=>by simp only[ZA.o,D.noR.noRs,D.noR,bat,bta,Pr]) xs
def ZA.sz(x:ZA):Int:=(x.fS.size:Int)+(x.fArgs.length:Int)
theorem ZA.sz_nn(x:ZA):0≤x.sz:=by
 unfold ZA.sz;omega
def ZA.szl:List ZA→Int
 |[]=>0
 |x::xs=>x.sz+ZA.szl xs
def ZA.szs(xs:List ZA):Int:=xs.length+ZA.szl xs
theorem ZA.szl_nn:∀xs:List ZA,0≤ZA.szl xs
 |[]=>by simp[ZA.szl]
 |x::xs=>by simp only[ZA.szl];have:=x.sz_nn;have:=ZA.szl_nn xs;omega
theorem ZA.szs_nn(xs:List ZA):0≤ZA.szs xs∧(xs.length:Int)≤ZA.szs xs:=by have:=ZA.szl_nn xs;unfold ZA.szs;omega
theorem ZA.sz_le:∀{xs:List ZA} {x:ZA},x∈xs→x.sz≤ZA.szl xs
 |y::xs,x,h=>by
  simp only[ZA.szl]
  have h1:=y.sz_nn;have h2:=ZA.szl_nn xs
  rcases List.mem_cons.1 h with rfl|h
  ·omega
  ·have:=ZA.sz_le h;omega
def ZA.sm(x:ZA):Prop:=x.fS.size≤1048576∧x.fArgs.length≤1048576
theorem ZA.sm_of{x:ZA}(h:x.sz≤1048576):x.sm:=by
 unfold ZA.sz at h
 unfold ZA.sm
 exact⟨by omega,by omega⟩
theorem ZA.sms_of{xs:List ZA}(h:ZA.szs xs≤1048576):xs.length≤1048576∧∀y∈xs,y.sm:=by
 have:=ZA.szl_nn xs
 unfold ZA.szs at h
 exact⟨by omega,fun y hy=>ZA.sm_of (by have:=ZA.sz_le hy;omega)⟩
structure ZA.ok (x:ZA):Prop where
 fOp:i64 x.fOp
 fD:i64 x.fD
 fA:i64 x.fA
 fB:i64 x.fB
 fN:i64 x.fN
 fS:x.fS.size≤140737488351232
 fArgs:x.fArgs.length≤140737488351232∧∀n∈x.fArgs,i64 n
theorem ZA.fit{c:List D}(h:jC [.i .i64,.i .i64,.i .i64,.i .i64,.i .i64,.s,.l 8 [.i .i64]] c):∃x:ZA,c=x.r∧x.ok:=by
 simp only[jC] at h
 obtain⟨_,_,rfl,h0,_,_,rfl,h1,_,_,rfl,h2,_,_,rfl,h3,_,_,rfl,h4,_,_,rfl,h5,_,_,rfl,h6,rfl⟩:=h
 rw[Ev.fit] at h0;obtain⟨a0,rfl,g0⟩:=h0
 rw[Ev.fit] at h1;obtain⟨a1,rfl,g1⟩:=h1
 rw[Ev.fit] at h2;obtain⟨a2,rfl,g2⟩:=h2
 rw[Ev.fit] at h3;obtain⟨a3,rfl,g3⟩:=h3
 rw[Ev.fit] at h4;obtain⟨a4,rfl,g4⟩:=h4
 rw[Ev.fit] at h5;obtain⟨a5,rfl,g5⟩:=h5
 rw[Ev.fit] at h6;obtain⟨e6,rfl,b6,c6⟩:=h6;obtain⟨a6,rfl,g6⟩:=Et (enc:=fun n=>[DI n]) (ok:=i64) (fun c hc=>zQv hc) c6;rw[lm] at b6
 exact⟨⟨a0,a1,a2,a3,a4,a5,a6⟩,rfl,⟨Pm g0,Pm g1,Pm g2,Pm g3,Pm g4,g5,⟨(by omega:a6.length≤140737488351232),g6⟩⟩⟩
def ZA.ct(x:ZA):Int:=1+1+1+1+1+1+(x.fArgs.length:Int)
def ZA.cts:List ZA→Int
 |[]=>0
 |x::xs=>x.ct+ZA.cts xs
theorem Ij(x:ZA)(hx:x.sm):call tab y8 [x.x]=some x.xo:=by
 simp only[ZA.sm] at hx
 have t0:=Gs x.fArgs (by omega)
 rw[aS Mb _ rfl,A6]
 simp -implicitDefEqProofs (disch:=first|assumption|omega|(simp only[aI,aP,aH,i64,sa,aC,lm,la,lc,ln];omega)) only[go_sem,simprocAttr,ZA.x,ZA.xo,t0]
theorem w7(xs:List ZA)(hx:xs.length≤1048576∧∀y∈xs,y.sm):∀(B A:List ZA),xs=A++B →
  loopW tab [0,3,4] kL {env:=upd (upd (upd emp 4 (some (I (A.length:Int)))) 3 (some (.ref (0,0) []))) 0 (some (.d (.r (xs.map ZA.r)))),heap:=upd emp (0,0) (some (.s 7 (A.map ZA.o++List.replicate B.length [DI 0,DI 0,DI 0,DI 0,DI 0,DS ⟨#[]⟩,.s 1 []]))),fr:=0,next:=1}=some (.ext 0,{env:=upd emp 3 (some (.ref (0,0) [])),heap:=upd emp (0,0) (some (.s 7 (xs.map ZA.o))),fr:=0,next:=1})
 |[],A,h=>by
  rw[List.append_nil] at h
  subst h
  unfold loopW
  conv=>lhs;arg 1;unfold kL
  have hx':=hx.1
  simp -implicitDefEqProofs (disch:=first|assumption|omega|(simp only[aI,aP,aH,i64,sa,aC,lm,la,lc,ln];omega)) only[go_sem,simprocAttr,List.replicate_zero]
 |x::B,A,h=>by
  unfold loopW
  conv=>lhs;arg 1;unfold kL
  have hl:xs.length=A.length+(B.length+1):=by rw[h];simp
  have h2:(xs.map ZA.r)[A.length]? = some x.r:=by rw[h];simp
  have hx':=hx.1
  have hto:=Ij x (hx.2 x (by rw[h];simp))
  have ih:=w7 xs hx B (A++[x]) (by simp[h])
  rw[show(((A++[x]).length:Nat):Int)=(A.length:Int)+1 by simp] at ih
  simp only[List.map_append,mc,mn,List.append_assoc,List.cons_append,List.nil_append,ZA.o] at ih
  simp only[ZA.r] at h2
  simp only[ZA.x,ZA.xo] at hto
  simp -implicitDefEqProofs (disch:=first|assumption|omega|(simp only[aI,aP,aH,i64,sa,aC,lm,la,lc,ln];omega)) only[go_sem,simprocAttr,lc,List.replicate_succ,Nx,N7,Ll,h2,hto,ih]
theorem Gw(xs:List ZA)(hx:xs.length≤1048576∧∀y∈xs,y.sm):call tab v7 [.d (.r (xs.map ZA.r))]=some (.d (.s 7 (xs.map ZA.o))):=by
 rw[aS Ih _ rfl,yU]
 have hl:=w7 xs hx xs [] rfl
 have hx':=hx.1
 simp only[mn,List.nil_append,ln,Int.cast_ofNat_Int] at hl
 simp -implicitDefEqProofs (disch:=first|assumption|omega|(simp only[aI,aP,aH,i64,sa,aC,lm,la,lc,ln];omega)) only[go_sem,simprocAttr,hl]
theorem Ji(x:ZA)(hx:x.sm):call tab y9 [x.x,x.x]=some (B true):=by
 simp only[ZA.sm] at hx
 have t0:=Hr x.fArgs (by omega)
 rw[aS L4 _ rfl,Bs]
 simp -implicitDefEqProofs (disch:=first|assumption|omega|(simp only[aI,aP,aH,i64,sa,aC,lm,la,lc,ln];omega)) only[go_sem,simprocAttr,ZA.x,t0]
theorem wS(xs:List ZA)(hx:xs.length≤1048576∧∀y∈xs,y.sm):∀(B A:List ZA),xs=A++B →
  loopW tab [0,1,5] kE {env:=upd (upd (upd emp 5 (some (I (A.length:Int)))) 1 (some (.d (.r (xs.map ZA.r))))) 0 (some (.d (.r (xs.map ZA.r)))),heap:=emp,fr:=0,next:=0}=some (.ext 0,{env:=emp,heap:=emp,fr:=0,next:=0})
 |[],A,h=>by
  rw[List.append_nil] at h
  subst h
  unfold loopW
  conv=>lhs;arg 1;unfold kE
  have hx':=hx.1
  simp -implicitDefEqProofs (disch:=first|assumption|omega|(simp only[aI,aP,aH,i64,sa,aC,lm,la,lc,ln];omega)) only[go_sem,simprocAttr]
 |x::B,A,h=>by
  unfold loopW
  conv=>lhs;arg 1;unfold kE
  have hl:xs.length=A.length+(B.length+1):=by rw[h];simp
  have h2:(xs.map ZA.r)[A.length]? = some x.r:=by rw[h];simp
  have hx':=hx.1
  have hto:=Ji x (hx.2 x (by rw[h];simp))
  have ih:=wS xs hx B (A++[x]) (by simp[h])
  rw[show(((A++[x]).length:Nat):Int)=(A.length:Int)+1 by simp] at ih
  simp only[ZA.r] at h2
  simp only[ZA.x] at hto
  simp -implicitDefEqProofs (disch:=first|assumption|omega|(simp only[aI,aP,aH,i64,sa,aC,lm,la,lc,ln];omega)) only[go_sem,simprocAttr,h2,hto,ih]
theorem Fo(xs:List ZA)(hx:xs.length≤1048576∧∀y∈xs,y.sm):call tab vH [.d (.r (xs.map ZA.r)),.d (.r (xs.map ZA.r))]=some (B true):=by
 rw[aS J4 _ rfl,yO]
 have hl:=wS xs hx xs [] rfl
 have hx':=hx.1
 simp only[ln,Int.cast_ofNat_Int] at hl
 simp -implicitDefEqProofs (disch:=first|assumption|omega|(simp only[aI,aP,aH,i64,sa,aC,lm,la,lc,ln];omega)) only[go_sem,simprocAttr,hl]
theorem Im(x:ZA)(n:Int)(hn:0≤n∧n≤1048576)(hx:x.ok):call tab zQ [x.x,I n]=some (I (if n<x.sz then -1 else n-x.sz)):=by
 rw[aS Lw _ rfl,Ac]
 have hsz:x.sz=(x.fS.size:Int)+(x.fArgs.length:Int):=rfl
 rw[hsz]
 have b0:=hx.fS
 have b1:=hx.fArgs.1
 by_cases c0:n-(x.fS.size:Int)<0
 ·rw[if_pos (show n<(x.fS.size:Int)+(x.fArgs.length:Int) by omega)]
  simp -implicitDefEqProofs (disch:=first|assumption|omega|(simp only[aI,aP,aH,i64,sa,aC,lm,la,lc,ln];omega)) only[go_sem,simprocAttr,ZA.x,c0]
 ·have f1:=Gd x.fArgs (n-(x.fS.size:Int)) (by omega) (by omega)
  by_cases c1:n-(x.fS.size:Int)-(x.fArgs.length:Int)<0
  ·rw[if_pos (by omega)] at f1
   rw[if_pos (show n<(x.fS.size:Int)+(x.fArgs.length:Int) by omega)]
   simp -implicitDefEqProofs (disch:=first|assumption|omega|(simp only[aI,aP,aH,i64,sa,aC,lm,la,lc,ln];omega)) only[go_sem,simprocAttr,ZA.x,c0,c1,f1]
  ·rw[if_neg (by omega)] at f1
   rw[if_neg (show ¬n<(x.fS.size:Int)+(x.fArgs.length:Int) by omega)]
   rw[show n-((x.fS.size:Int)+(x.fArgs.length:Int))=n-(x.fS.size:Int)-(x.fArgs.length:Int) by omega]
   simp -implicitDefEqProofs (disch:=first|assumption|omega|(simp only[aI,aP,aH,i64,sa,aC,lm,la,lc,ln];omega)) only[go_sem,simprocAttr,ZA.x,c0,f1,c1]
theorem vG(xs:List ZA)(hx:xs.length≤1048576)(hok:∀y∈xs,y.ok):∀(B A:List ZA) (n:Int),xs=A++B→0≤n∧n≤1048576 →
  loopW tab [0,1,5] kN {env:=upd (upd (upd emp 5 (some (I (A.length:Int)))) 1 (some (I n))) 0 (some (.d (.r (xs.map ZA.r)))),heap:=emp,fr:=0,next:=0}=(if n<ZA.szl B then some (.ret,{env:=upd emp 4 (some (I (-1))),heap:=emp,fr:=0,next:=0}) else some (.ext 0,{env:=upd emp 1 (some (I (n-ZA.szl B))),heap:=emp,fr:=0,next:=0}))
 |[],A,n,h,hn=>by
  rw[List.append_nil] at h
  subst h
  unfold loopW
  conv=>lhs;arg 1;unfold kN
  rw[if_neg (show ¬n<ZA.szl [] by simp only[ZA.szl];omega)]
  simp -implicitDefEqProofs (disch:=first|assumption|omega|(simp only[aI,aP,aH,i64,sa,aC,lm,la,lc,ln];omega)) only[go_sem,simprocAttr,ZA.szl,Int.sub_zero]
 |x::B,A,n,h,hn=>by
  unfold loopW
  conv=>lhs;arg 1;unfold kN
  have hl:xs.length=A.length+(B.length+1):=by rw[h];simp
  have h2:(xs.map ZA.r)[A.length]? = some x.r:=by rw[h];simp
  have hto:=Im x n hn (hok x (by rw[h];simp))
  have hnn:=ZA.szl_nn B
  have hxn:=x.sz_nn
  simp only[ZA.r] at h2
  simp only[ZA.x] at hto
  rw[show ZA.szl (x::B)=x.sz+ZA.szl B from rfl]
  by_cases hc:n<x.sz
  ·rw[if_pos hc] at hto
   rw[if_pos (show n<x.sz+ZA.szl B by omega)]
   simp -implicitDefEqProofs (disch:=first|assumption|omega|(simp only[aI,aP,aH,i64,sa,aC,lm,la,lc,ln];omega)) only[go_sem,simprocAttr,h2,hto]
  ·rw[if_neg hc] at hto
   have ih:=vG xs hx hok B (A++[x]) (n-x.sz) (by simp[h]) (by omega)
   rw[show(((A++[x]).length:Nat):Int)=(A.length:Int)+1 by simp] at ih
   by_cases hd:n-x.sz<ZA.szl B
   ·rw[if_pos hd] at ih
    rw[if_pos (show n<x.sz+ZA.szl B by omega)]
    simp -implicitDefEqProofs (disch:=first|assumption|omega|(simp only[aI,aP,aH,i64,sa,aC,lm,la,lc,ln];omega)) only[go_sem,simprocAttr,h2,hto,ih]
   ·rw[if_neg hd,show n-x.sz-ZA.szl B=n-(x.sz+ZA.szl B) by omega] at ih
    rw[if_neg (show ¬n<x.sz+ZA.szl B by omega)]
    simp -implicitDefEqProofs (disch:=first|assumption|omega|(simp only[aI,aP,aH,i64,sa,aC,lm,la,lc,ln];omega)) only[go_sem,simprocAttr,h2,hto,ih]
theorem Gj(xs:List ZA)(n:Int)(hn:0≤n∧n≤1048576)(hx:xs.length≤140737488351232∧∀y∈xs,y.ok):call tab wT [.d (.r (xs.map ZA.r)),I n]=some (I (if n<ZA.szs xs then -1 else n-ZA.szs xs)):=by
 rw[aS Ip _ rfl,yS]
 have hx1:=hx.1
 have hnn:=ZA.szl_nn xs
 rw[show ZA.szs xs=xs.length+ZA.szl xs from rfl]
 by_cases h:n-(xs.length:Int)<0
 ·rw[if_pos (show n<xs.length+ZA.szl xs by omega)]
  simp -implicitDefEqProofs (disch:=first|assumption|omega|(simp only[aI,aP,aH,i64,sa,aC,lm,la,lc,ln];omega)) only[go_sem,simprocAttr,h]
 ·have hl:=vG xs (by omega) hx.2 xs [] (n-xs.length) rfl (by omega)
  simp only[ln,Int.cast_ofNat_Int] at hl
  by_cases hd:n-(xs.length:Int)<ZA.szl xs
  ·rw[if_pos hd] at hl
   rw[if_pos (show n<xs.length+ZA.szl xs by omega)]
   simp -implicitDefEqProofs (disch:=first|assumption|omega|(simp only[aI,aP,aH,i64,sa,aC,lm,la,lc,ln];omega)) only[go_sem,simprocAttr,h,hl]
  ·rw[if_neg hd,show n-(xs.length:Int)-ZA.szl xs=n-(xs.length+ZA.szl xs) by omega] at hl
   rw[if_neg (show ¬n<xs.length+ZA.szl xs by omega)]
   simp -implicitDefEqProofs (disch:=first|assumption|omega|(simp only[aI,aP,aH,i64,sa,aC,lm,la,lc,ln];omega)) only[go_sem,simprocAttr,h,hl]
set_option maxRecDepth 8000
set_option maxHeartbeats 4000000
structure ZB where
 fName:ByteArray
 fParams:Int
 fRegs:Int
 fCode:List ZA
def ZB.r(x:ZB):List D:=[DS x.fName,DI x.fParams,DI x.fRegs,.r (x.fCode.map ZA.r)]
def ZB.o(x:ZB):List D:=[DS x.fName,DI x.fParams,DI x.fRegs,.s 7 (x.fCode.map ZA.o)]
abbrev ZB.x(x:ZB):X:= .agg [Str x.fName,I x.fParams,I x.fRegs,.d (.r (x.fCode.map ZA.r))]
abbrev ZB.xo(x:ZB):X:= .agg [Str x.fName,I x.fParams,I x.fRegs,.d (.s 7 (x.fCode.map ZA.o))]
theorem ZB.fzl(x:ZB):fzl x.o=x.r:=by simp only[ZB.o,ZB.r,Ev.fzl,D.fz,ZA.fzs,cO]
theorem ZB.fzlr(x:ZB):Ev.fzl x.r=x.r:=by simp only[ZB.r,Ev.fzl,D.fz,ZA.fzr,cO]
theorem ZB.fzs(xs:List ZB):fzs (xs.map ZB.o)=xs.map ZB.r:=oE _ _ ZB.fzl xs
theorem ZB.fzr(xs:List ZB):Ev.fzs (xs.map ZB.r)=xs.map ZB.r:=oE _ _ ZB.fzlr xs
theorem ZB.noR(xs:List ZB):D.noR.noRss (xs.map ZB.o)=true:=oI _ (fun x=>by simp only[ZB.o,D.noR.noRs,D.noR,bat,bta,ZA.noR,Pr]) xs
def ZB.sz(x:ZB):Int:=(x.fName.size:Int)+ZA.szs x.fCode
theorem ZB.sz_nn(x:ZB):0≤x.sz:=by
 unfold ZB.sz;have:=ZA.szs_nn x.fCode;omega
def ZB.szl:List ZB→Int
 |[]=>0
 |x::xs=>x.sz+ZB.szl xs
def ZB.szs(xs:List ZB):Int:=xs.length+ZB.szl xs
theorem ZB.szl_nn:∀xs:List ZB,0≤ZB.szl xs
 |[]=>by simp[ZB.szl]
 |x::xs=>by simp only[ZB.szl];have:=x.sz_nn;have:=ZB.szl_nn xs;omega
theorem ZB.szs_nn(xs:List ZB):0≤ZB.szs xs∧(xs.length:Int)≤ZB.szs xs:=by have:=ZB.szl_nn xs;unfold ZB.szs;omega
theorem ZB.sz_le:∀{xs:List ZB} {x:ZB},x∈xs→x.sz≤ZB.szl xs
 |y::xs,x,h=>by
  simp only[ZB.szl]
  have h1:=y.sz_nn;have h2:=ZB.szl_nn xs
  rcases List.mem_cons.1 h with rfl|h
  ·omega
  ·have:=ZB.sz_le h;omega
def ZB.sm(x:ZB):Prop:=x.fName.size≤1048576∧(x.fCode.length≤1048576∧∀y∈x.fCode,y.sm)
theorem ZB.sm_of{x:ZB}(h:x.sz≤1048576):x.sm:=by
 unfold ZB.sz at h
 unfold ZB.sm
 have:=ZA.szs_nn x.fCode
 exact⟨by omega,⟨by omega,fun y hy=>ZA.sm_of (by have:=ZA.sz_le hy;unfold ZA.szs at *;omega)⟩⟩
theorem ZB.sms_of{xs:List ZB}(h:ZB.szs xs≤1048576):xs.length≤1048576∧∀y∈xs,y.sm:=by
 have:=ZB.szl_nn xs
 unfold ZB.szs at h
 exact⟨by omega,fun y hy=>ZB.sm_of (by have:=ZB.sz_le hy;omega)⟩
structure ZB.ok (x:ZB):Prop where
 fName:x.fName.size≤140737488351232
 fParams:i64 x.fParams
 fRegs:i64 x.fRegs
 fCode:x.fCode.length≤140737488351232∧∀y∈x.fCode,y.ok
theorem ZB.fit{c:List D}(h:jC [.s,.i .i64,.i .i64,.l 80 [.i .i64,.i .i64,.i .i64,.i .i64,.i .i64,.s,.l 8 [.i .i64]]] c):∃x:ZB,c=x.r∧x.ok:=by
 simp only[jC] at h
 obtain⟨_,_,rfl,h0,_,_,rfl,h1,_,_,rfl,h2,_,_,rfl,h3,rfl⟩:=h
 rw[Ev.fit] at h0;obtain⟨a0,rfl,g0⟩:=h0
 rw[Ev.fit] at h1;obtain⟨a1,rfl,g1⟩:=h1
 rw[Ev.fit] at h2;obtain⟨a2,rfl,g2⟩:=h2
 rw[Ev.fit] at h3;obtain⟨e3,rfl,b3,c3⟩:=h3;obtain⟨a3,rfl,g3⟩:=Et (fun c hc=>ZA.fit hc) c3;rw[lm] at b3
 exact⟨⟨a0,a1,a2,a3⟩,rfl,⟨g0,Pm g1,Pm g2,⟨(by omega:a3.length≤140737488351232),g3⟩⟩⟩
def ZB.ct(x:ZB):Int:=1+1+1+ZA.cts x.fCode
def ZB.cts:List ZB→Int
 |[]=>0
 |x::xs=>x.ct+ZB.cts xs
theorem Fe(x:ZB)(hx:x.sm):call tab vU [x.x]=some x.xo:=by
 simp only[ZB.sm] at hx
 have t0:=Gw x.fCode (by first|exact hx|exact hx.1|exact hx.2|exact hx.2.1|exact hx.2.2|exact hx.2.2.1|exact hx.2.2.2|exact hx.2.2.2.1)
 rw[aS J6 _ rfl,yF]
 simp -implicitDefEqProofs (disch:=first|assumption|omega|(simp only[aI,aP,aH,i64,sa,aC,lm,la,lc,ln];omega)) only[go_sem,simprocAttr,ZB.x,ZB.xo,t0]
theorem uG(xs:List ZB)(hx:xs.length≤1048576∧∀y∈xs,y.sm):∀(B A:List ZB),xs=A++B →
  loopW tab [0,3,4] jS {env:=upd (upd (upd emp 4 (some (I (A.length:Int)))) 3 (some (.ref (0,0) []))) 0 (some (.d (.r (xs.map ZB.r)))),heap:=upd emp (0,0) (some (.s 4 (A.map ZB.o++List.replicate B.length [DS ⟨#[]⟩,DI 0,DI 0,.s 7 []]))),fr:=0,next:=1}=some (.ext 0,{env:=upd emp 3 (some (.ref (0,0) [])),heap:=upd emp (0,0) (some (.s 4 (xs.map ZB.o))),fr:=0,next:=1})
 |[],A,h=>by
  rw[List.append_nil] at h
  subst h
  unfold loopW
  conv=>lhs;arg 1;unfold jS
  have hx':=hx.1
  simp -implicitDefEqProofs (disch:=first|assumption|omega|(simp only[aI,aP,aH,i64,sa,aC,lm,la,lc,ln];omega)) only[go_sem,simprocAttr,List.replicate_zero]
 |x::B,A,h=>by
  unfold loopW
  conv=>lhs;arg 1;unfold jS
  have hl:xs.length=A.length+(B.length+1):=by rw[h];simp
  have h2:(xs.map ZB.r)[A.length]? = some x.r:=by rw[h];simp
  have hx':=hx.1
  have hto:=Fe x (hx.2 x (by rw[h];simp))
  have ih:=uG xs hx B (A++[x]) (by simp[h])
  rw[show(((A++[x]).length:Nat):Int)=(A.length:Int)+1 by simp] at ih
  simp only[List.map_append,mc,mn,List.append_assoc,List.cons_append,List.nil_append,ZB.o] at ih
  simp only[ZB.r] at h2
  simp only[ZB.x,ZB.xo] at hto
  simp -implicitDefEqProofs (disch:=first|assumption|omega|(simp only[aI,aP,aH,i64,sa,aC,lm,la,lc,ln];omega)) only[go_sem,simprocAttr,lc,List.replicate_succ,Nx,N7,Ll,h2,hto,ih]
theorem Dr(xs:List ZB)(hx:xs.length≤1048576∧∀y∈xs,y.sm):call tab lS [.d (.r (xs.map ZB.r))]=some (.d (.s 4 (xs.map ZB.o))):=by
 rw[aS Ht _ rfl,wO]
 have hl:=uG xs hx xs [] rfl
 have hx':=hx.1
 simp only[mn,List.nil_append,ln,Int.cast_ofNat_Int] at hl
 simp -implicitDefEqProofs (disch:=first|assumption|omega|(simp only[aI,aP,aH,i64,sa,aC,lm,la,lc,ln];omega)) only[go_sem,simprocAttr,hl]
theorem Fx(x:ZB)(hx:x.sm):call tab wC [x.x,x.x]=some (B true):=by
 simp only[ZB.sm] at hx
 have t0:=Fo x.fCode (by first|exact hx|exact hx.1|exact hx.2|exact hx.2.1|exact hx.2.2|exact hx.2.2.1|exact hx.2.2.2|exact hx.2.2.2.1)
 rw[aS J1 _ rfl,yA]
 simp -implicitDefEqProofs (disch:=first|assumption|omega|(simp only[aI,aP,aH,i64,sa,aC,lm,la,lc,ln];omega)) only[go_sem,simprocAttr,ZB.x,t0]
theorem uR(xs:List ZB)(hx:xs.length≤1048576∧∀y∈xs,y.sm):∀(B A:List ZB),xs=A++B →
  loopW tab [0,1,5] jL {env:=upd (upd (upd emp 5 (some (I (A.length:Int)))) 1 (some (.d (.r (xs.map ZB.r))))) 0 (some (.d (.r (xs.map ZB.r)))),heap:=emp,fr:=0,next:=0}=some (.ext 0,{env:=emp,heap:=emp,fr:=0,next:=0})
 |[],A,h=>by
  rw[List.append_nil] at h
  subst h
  unfold loopW
  conv=>lhs;arg 1;unfold jL
  have hx':=hx.1
  simp -implicitDefEqProofs (disch:=first|assumption|omega|(simp only[aI,aP,aH,i64,sa,aC,lm,la,lc,ln];omega)) only[go_sem,simprocAttr]
 |x::B,A,h=>by
  unfold loopW
  conv=>lhs;arg 1;unfold jL
  have hl:xs.length=A.length+(B.length+1):=by rw[h];simp
  have h2:(xs.map ZB.r)[A.length]? = some x.r:=by rw[h];simp
  have hx':=hx.1
  have hto:=Fx x (hx.2 x (by rw[h];simp))
  have ih:=uR xs hx B (A++[x]) (by simp[h])
  rw[show(((A++[x]).length:Nat):Int)=(A.length:Int)+1 by simp] at ih
  simp only[ZB.r] at h2
  simp only[ZB.x] at hto
  simp -implicitDefEqProofs (disch:=first|assumption|omega|(simp only[aI,aP,aH,i64,sa,aC,lm,la,lc,ln];omega)) only[go_sem,simprocAttr,h2,hto,ih]
theorem D9(xs:List ZB)(hx:xs.length≤1048576∧∀y∈xs,y.sm):call tab tH [.d (.r (xs.map ZB.r)),.d (.r (xs.map ZB.r))]=some (B true):=by
 rw[aS Fi _ rfl,vP]
 have hl:=uR xs hx xs [] rfl
 have hx':=hx.1
 simp only[ln,Int.cast_ofNat_Int] at hl
 simp -implicitDefEqProofs (disch:=first|assumption|omega|(simp only[aI,aP,aH,i64,sa,aC,lm,la,lc,ln];omega)) only[go_sem,simprocAttr,hl]
theorem Fl(x:ZB)(n:Int)(hn:0≤n∧n≤1048576)(hx:x.ok):call tab xI [x.x,I n]=some (I (if n<x.sz then -1 else n-x.sz)):=by
 rw[aS I6 _ rfl,yK]
 have hsz:x.sz=(x.fName.size:Int)+ZA.szs x.fCode:=rfl
 rw[hsz]
 have b0:=hx.fName
 have b1:=hx.fCode.1
 have z1:=ZA.szs_nn x.fCode
 by_cases c0:n-(x.fName.size:Int)<0
 ·rw[if_pos (show n<(x.fName.size:Int)+ZA.szs x.fCode by omega)]
  simp -implicitDefEqProofs (disch:=first|assumption|omega|(simp only[aI,aP,aH,i64,sa,aC,lm,la,lc,ln];omega)) only[go_sem,simprocAttr,ZB.x,c0]
 ·have f1:=Gj x.fCode (n-(x.fName.size:Int)) (by omega) hx.fCode
  by_cases c1:n-(x.fName.size:Int)-ZA.szs x.fCode<0
  ·rw[if_pos (by omega)] at f1
   rw[if_pos (show n<(x.fName.size:Int)+ZA.szs x.fCode by omega)]
   simp -implicitDefEqProofs (disch:=first|assumption|omega|(simp only[aI,aP,aH,i64,sa,aC,lm,la,lc,ln];omega)) only[go_sem,simprocAttr,ZB.x,c0,c1,f1]
  ·rw[if_neg (by omega)] at f1
   rw[if_neg (show ¬n<(x.fName.size:Int)+ZA.szs x.fCode by omega)]
   rw[show n-((x.fName.size:Int)+ZA.szs x.fCode)=n-(x.fName.size:Int)-ZA.szs x.fCode by omega]
   simp -implicitDefEqProofs (disch:=first|assumption|omega|(simp only[aI,aP,aH,i64,sa,aC,lm,la,lc,ln];omega)) only[go_sem,simprocAttr,ZB.x,c0,f1,c1]
theorem uX(xs:List ZB)(hx:xs.length≤1048576)(hok:∀y∈xs,y.ok):∀(B A:List ZB) (n:Int),xs=A++B→0≤n∧n≤1048576 →
  loopW tab [0,1,5] jM {env:=upd (upd (upd emp 5 (some (I (A.length:Int)))) 1 (some (I n))) 0 (some (.d (.r (xs.map ZB.r)))),heap:=emp,fr:=0,next:=0}=(if n<ZB.szl B then some (.ret,{env:=upd emp 4 (some (I (-1))),heap:=emp,fr:=0,next:=0}) else some (.ext 0,{env:=upd emp 1 (some (I (n-ZB.szl B))),heap:=emp,fr:=0,next:=0}))
 |[],A,n,h,hn=>by
  rw[List.append_nil] at h
  subst h
  unfold loopW
  conv=>lhs;arg 1;unfold jM
  rw[if_neg (show ¬n<ZB.szl [] by simp only[ZB.szl];omega)]
  simp -implicitDefEqProofs (disch:=first|assumption|omega|(simp only[aI,aP,aH,i64,sa,aC,lm,la,lc,ln];omega)) only[go_sem,simprocAttr,ZB.szl,Int.sub_zero]
 |x::B,A,n,h,hn=>by
  unfold loopW
  conv=>lhs;arg 1;unfold jM
  have hl:xs.length=A.length+(B.length+1):=by rw[h];simp
  have h2:(xs.map ZB.r)[A.length]? = some x.r:=by rw[h];simp
  have hto:=Fl x n hn (hok x (by rw[h];simp))
  have hnn:=ZB.szl_nn B
  have hxn:=x.sz_nn
  simp only[ZB.r] at h2
  simp only[ZB.x] at hto
  rw[show ZB.szl (x::B)=x.sz+ZB.szl B from rfl]
  by_cases hc:n<x.sz
  ·rw[if_pos hc] at hto
   rw[if_pos (show n<x.sz+ZB.szl B by omega)]
   simp -implicitDefEqProofs (disch:=first|assumption|omega|(simp only[aI,aP,aH,i64,sa,aC,lm,la,lc,ln];omega)) only[go_sem,simprocAttr,h2,hto]
  ·rw[if_neg hc] at hto
   have ih:=uX xs hx hok B (A++[x]) (n-x.sz) (by simp[h]) (by omega)
   rw[show(((A++[x]).length:Nat):Int)=(A.length:Int)+1 by simp] at ih
   by_cases hd:n-x.sz<ZB.szl B
   ·rw[if_pos hd] at ih
    rw[if_pos (show n<x.sz+ZB.szl B by omega)]
    simp -implicitDefEqProofs (disch:=first|assumption|omega|(simp only[aI,aP,aH,i64,sa,aC,lm,la,lc,ln];omega)) only[go_sem,simprocAttr,h2,hto,ih]
   ·rw[if_neg hd,show n-x.sz-ZB.szl B=n-(x.sz+ZB.szl B) by omega] at ih
    rw[if_neg (show ¬n<x.sz+ZB.szl B by omega)]
    simp -implicitDefEqProofs (disch:=first|assumption|omega|(simp only[aI,aP,aH,i64,sa,aC,lm,la,lc,ln];omega)) only[go_sem,simprocAttr,h2,hto,ih]
theorem Dv(xs:List ZB)(n:Int)(hn:0≤n∧n≤1048576)(hx:xs.length≤140737488351232∧∀y∈xs,y.ok):call tab sZ [.d (.r (xs.map ZB.r)),I n]=some (I (if n<ZB.szs xs then -1 else n-ZB.szs xs)):=by
 rw[aS E0 _ rfl,vF]
 have hx1:=hx.1
 have hnn:=ZB.szl_nn xs
 rw[show ZB.szs xs=xs.length+ZB.szl xs from rfl]
 by_cases h:n-(xs.length:Int)<0
 ·rw[if_pos (show n<xs.length+ZB.szl xs by omega)]
  simp -implicitDefEqProofs (disch:=first|assumption|omega|(simp only[aI,aP,aH,i64,sa,aC,lm,la,lc,ln];omega)) only[go_sem,simprocAttr,h]
 ·have hl:=uX xs (by omega) hx.2 xs [] (n-xs.length) rfl (by omega)
  simp only[ln,Int.cast_ofNat_Int] at hl
  by_cases hd:n-(xs.length:Int)<ZB.szl xs
  ·rw[if_pos hd] at hl
   rw[if_pos (show n<xs.length+ZB.szl xs by omega)]
   simp -implicitDefEqProofs (disch:=first|assumption|omega|(simp only[aI,aP,aH,i64,sa,aC,lm,la,lc,ln];omega)) only[go_sem,simprocAttr,h,hl]
  ·rw[if_neg hd,show n-(xs.length:Int)-ZB.szl xs=n-(xs.length+ZB.szl xs) by omega] at hl
   rw[if_neg (show ¬n<xs.length+ZB.szl xs by omega)]
   simp -implicitDefEqProofs (disch:=first|assumption|omega|(simp only[aI,aP,aH,i64,sa,aC,lm,la,lc,ln];omega)) only[go_sem,simprocAttr,h,hl]
end Go.Ev.G
