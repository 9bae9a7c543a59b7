import Derived.Test.YtcaonmepamlclaaGreatEvQText
set_option linter.all false
namespace Go.Ev.G
set_option maxRecDepth 8000
set_option maxHeartbeats 4000000
structure ZC where
 fName:ByteArray
 fChan:Bool
def ZC.r(x:ZC):List D:=[DS x.fName,DB x.fChan]
def ZC.o(x:ZC):List D:=[DS x.fName,DB x.fChan]
abbrev ZC.x(x:ZC):X:= .agg [Str x.fName,B x.fChan]
abbrev ZC.xo(x:ZC):X:= .agg [Str x.fName,B x.fChan]
theorem ZC.fzl(x:ZC):fzl x.o=x.r:=by simp only[ZC.o,ZC.r,Ev.fzl,D.fz,vK]
theorem ZC.fzlr(x:ZC):Ev.fzl x.r=x.r:=by simp only[ZC.r,Ev.fzl,D.fz,vK]
theorem ZC.fzs(xs:List ZC):fzs (xs.map ZC.o)=xs.map ZC.r:=mV _ _ ZC.fzl xs
theorem ZC.fzr(xs:List ZC):Ev.fzs (xs.map ZC.r)=xs.map ZC.r:=mV _ _ ZC.fzlr xs
theorem ZC.noR(xs:List ZC):D.noR.noRss (xs.map ZC.o)=true:=oP _ (fun x=>by simp only[ZC.o,D.noR.noRs,D.noR,bat,bta,uK]) xs
def ZC.sz(x:ZC):Int:=(x.fName.size:Int)
theorem ZC.sz_nn(x:ZC):0≤x.sz:=by
 unfold ZC.sz;omega
def ZC.szl:List ZC→Int
 |[]=>0
 |x::xs=>x.sz+ZC.szl xs
def ZC.szs(xs:List ZC):Int:=xs.length+ZC.szl xs
theorem ZC.szl_nn:∀xs:List ZC,0≤ZC.szl xs
 |[]=>by simp[ZC.szl]
 |x::xs=>by simp only[ZC.szl];have:=x.sz_nn;have:=ZC.szl_nn xs;omega
theorem ZC.szs_nn(xs:List ZC):0≤ZC.szs xs∧(xs.length:Int)≤ZC.szs xs:=by have:=ZC.szl_nn xs;unfold ZC.szs;omega
theorem ZC.sz_le:∀{xs:List ZC} {x:ZC},x∈xs→x.sz≤ZC.szl xs
 |y::xs,x,h=>by
  simp only[ZC.szl]
  have h1:=y.sz_nn;have h2:=ZC.szl_nn xs
  rcases List.mem_cons.1 h with rfl|h
  ·omega
  ·have:=ZC.sz_le h;omega
def ZC.sm(x:ZC):Prop:=x.fName.size≤1048576
theorem ZC.sm_of{x:ZC}(h:x.sz≤1048576):x.sm:=by
 unfold ZC.sz at h
 unfold ZC.sm
 exact by omega
theorem ZC.sms_of{xs:List ZC}(h:ZC.szs xs≤1048576):xs.length≤1048576∧∀y∈xs,y.sm:=by
 have:=ZC.szl_nn xs
 unfold ZC.szs at h
 exact⟨by omega,fun y hy=>ZC.sm_of (by have:=ZC.sz_le hy;omega)⟩
structure ZC.ok (x:ZC):Prop where
 fName:x.fName.size≤140737488351232
 fChan:True
theorem ZC.fit{c:List D}(h:kC [.s,.b] c):∃x:ZC,c=x.r∧x.ok:=by
 simp only[kC] at h
 obtain⟨_,_,rfl,h0,_,_,rfl,h1,rfl⟩:=h
 rw[Ev.fit] at h0;obtain⟨a0,rfl,g0⟩:=h0
 rw[Ev.fit] at h1;obtain⟨a1,rfl⟩:=h1
 exact⟨⟨a0,a1⟩,rfl,⟨g0,trivial⟩⟩
def ZC.mk_(k:Int)(x:ZC):ZC:=⟨Hy (k),decide ((k+1).tmod 3=0)⟩
def ZC.ct(x:ZC):Int:=1+1
theorem ZC.ct_nn(x:ZC):1≤x.ct:=by
 unfold ZC.ct;omega
def ZC.mks:Int→List ZC→List ZC
 |_,[]=>[]
 |k,x::xs=>ZC.mk_ k x::ZC.mks (k+x.ct) xs
def ZC.cts:List ZC→Int
 |[]=>0
 |x::xs=>x.ct+ZC.cts xs
theorem ZC.cts_nn:∀xs:List ZC,(xs.length:Int)≤ZC.cts xs
 |[]=>by simp[ZC.cts]
 |x::xs=>by simp only[ZC.cts,lc];have:=x.ct_nn;have:=ZC.cts_nn xs;omega
theorem ZC.mks_len:∀(k:Int) (xs:List ZC),(ZC.mks k xs).length=xs.length
 |_,[]=>rfl
 |k,x::xs=>by simp[ZC.mks,ZC.mks_len (k+x.ct) xs]
theorem ZC.ct_le(x:ZC):x.ct≤64+64*x.sz:=by
 unfold ZC.ct ZC.sz;omega
theorem ZC.cts_le:∀xs:List ZC,ZC.cts xs≤64*ZC.szs xs
 |[]=>by simp[ZC.cts,ZC.szs,ZC.szl]
 |x::xs=>by
  have h1:=x.ct_le;have h2:=ZC.cts_le xs
  simp only[ZC.cts,ZC.szs,ZC.szl,lc] at *;omega
theorem Rb(x:ZC)(hx:x.sm):call tab Bs [x.x,x.x]=some (B true):=by
 simp only[ZC.sm] at hx
 rw[aJ Wm _ rfl,Ge]
 simp -implicitDefEqProofs (disch:=first|assumption|omega|(simp only[aE,aQ,aD,i64,sa,aC,lm,la,lc,ln];omega)) only[go_sem,simprocAttr,ZC.x]
theorem Af(xs:List ZC)(hx:xs.length≤1048576∧∀y∈xs,y.sm):∀(B A:List ZC),xs=A++B →
  loopW tab [0,1,5] lV {env:=upd (upd (upd emp 5 (some (I (A.length:Int)))) 1 (some (.d (.r (xs.map ZC.r))))) 0 (some (.d (.r (xs.map ZC.r)))),heap:=emp,fr:=0,next:=0}=some (.ext 0,{env:=emp,heap:=emp,fr:=0,next:=0})
 |[],A,h=>by
  rw[List.append_nil] at h
  subst h
  unfold loopW
  conv=>lhs;arg 1;unfold lV
  have hx':=hx.1
  simp -implicitDefEqProofs (disch:=first|assumption|omega|(simp only[aE,aQ,aD,i64,sa,aC,lm,la,lc,ln];omega)) only[go_sem,simprocAttr]
 |x::B,A,h=>by
  unfold loopW
  conv=>lhs;arg 1;unfold lV
  have hl:xs.length=A.length+(B.length+1):=by rw[h];simp
  have h2:(xs.map ZC.r)[A.length]? = some x.r:=by rw[h];simp
  have hx':=hx.1
  have hto:=Rb x (hx.2 x (by rw[h];simp))
  have ih:=Af xs hx B (A++[x]) (by simp[h])
  rw[show(((A++[x]).length:Nat):Int)=(A.length:Int)+1 by simp] at ih
  simp only[ZC.r] at h2
  simp only[ZC.x] at hto
  simp -implicitDefEqProofs (disch:=first|assumption|omega|(simp only[aE,aQ,aD,i64,sa,aC,lm,la,lc,ln];omega)) only[go_sem,simprocAttr,h2,hto,ih]
theorem Nc(xs:List ZC)(hx:xs.length≤1048576∧∀y∈xs,y.sm):call tab yO [.d (.r (xs.map ZC.r)),.d (.r (xs.map ZC.r))]=some (B true):=by
 rw[aJ Pr _ rfl,Dn]
 have hl:=Af xs hx xs [] rfl
 have hx':=hx.1
 simp only[ln,Int.cast_ofNat_Int] at hl
 simp -implicitDefEqProofs (disch:=first|assumption|omega|(simp only[aE,aQ,aD,i64,sa,aC,lm,la,lc,ln];omega)) only[go_sem,simprocAttr,hl]
theorem uR:∀(B A:List ZC) (k:Int),(A.length:Int)+ZC.cts B≤1099511627776→0≤k∧k+ZC.cts B≤4611686018427387904 →
  loopW tab [0,1,5] jB {env:=upd (upd (upd emp 5 (some (I (A.length:Int)))) 1 (some (I k))) 0 (some (.ref (0,0) [])),heap:=upd emp (0,0) (some (.s 2 (A.map ZC.o++B.map ZC.o))),fr:=1,next:=0}=some (.ext 0,{env:=upd emp 1 (some (I (k+ZC.cts B))),heap:=upd emp (0,0) (some (.s 2 (A.map ZC.o++(ZC.mks k B).map ZC.o))),fr:=1,next:=0})
 |[],A,k,h,hk=>by
  unfold loopW
  conv=>lhs;arg 1;unfold jB
  simp only[ZC.cts] at h hk
  simp -implicitDefEqProofs (disch:=first|assumption|omega|(simp only[aE,aQ,aD,i64,sa,aC,lm,la,lc,ln];omega)) only[go_sem,simprocAttr,ZC.cts,ZC.mks,mn,List.append_nil,Int.add_zero]
 |x::B,A,k,h,hk=>by
  unfold loopW
  conv=>lhs;arg 1;unfold jB
  simp only[ZC.cts] at h hk
  have h1:=x.ct_nn
  have h0:=ZC.cts_nn B
  have ih:=uR B (A++[x.mk_ k]) (k+x.ct) (by simp;omega) (by omega)
  rw[show(((A++[x.mk_ k]).length:Nat):Int)=(A.length:Int)+1 by simp,show k+x.ct+ZC.cts B=k+ZC.cts (x::B) by simp only[ZC.cts];omega] at ih
  simp only[List.map_append,mc,mn,List.append_assoc,List.cons_append,List.nil_append] at ih
  simp only[ZC.mks,mc]
  have hm:ZC.o (x.mk_ k)=[DS (Hy (k)),DB (decide ((k+1).tmod 3=0))]:=rfl
  have hkx:k+x.ct=k+1+1:=by unfold ZC.ct;omega
  rw[hm,hkx] at ih
  rw[hm,hkx]
  unfold ZC.ct at hk h0
  simp -implicitDefEqProofs (disch:=first|assumption|omega|(simp only[aE,aQ,aD,i64,sa,aC,lm,la,lc,ln];omega)) only[go_sem,simprocAttr,ZC.o,lc,qW,qX,qY,eW,ih]
theorem Kg(xs:List ZC)(k:Int)(h:ZC.cts xs≤1099511627776)(hk:0≤k∧k+ZC.cts xs≤4611686018427387904):evCW tab sJ [.ref (0,0) [],I k] (upd emp (0,0) (some (.s 2 (xs.map ZC.o)))) 1=some (I (k+ZC.cts xs),upd emp (0,0) (some (.s 2 ((ZC.mks k xs).map ZC.o)))):=by
 rw[aP Ld _ _ _ rfl,xJ]
 have hl:=uR xs [] k (by simpa using h) hk
 simp only[mn,List.nil_append,ln,Int.cast_ofNat_Int] at hl
 simp -implicitDefEqProofs (disch:=first|assumption|omega|(simp only[aE,aQ,aD,i64,sa,aC,lm,la,lc,ln];omega)) only[go_sem,simprocAttr,hl]
set_option maxRecDepth 8000
set_option maxHeartbeats 4000000
theorem Qg(x:ZC)(hx:x.sm):call tab B6 [x.x]=some x.xo:=by
 simp only[ZC.sm] at hx
 rw[aJ Ux _ rfl,Gw]
 simp -implicitDefEqProofs (disch:=first|assumption|omega|(simp only[aE,aQ,aD,i64,sa,aC,lm,la,lc,ln];omega)) only[go_sem,simprocAttr,ZC.x,ZC.xo]
theorem Ay(xs:List ZC)(hx:xs.length≤1048576∧∀y∈xs,y.sm):∀(B A:List ZC),xs=A++B →
  loopW tab [0,3,4] lX {env:=upd (upd (upd emp 4 (some (I (A.length:Int)))) 3 (some (.ref (0,0) []))) 0 (some (.d (.r (xs.map ZC.r)))),heap:=upd emp (0,0) (some (.s 2 (A.map ZC.o++List.replicate B.length [DS ⟨#[]⟩,DB false]))),fr:=0,next:=1}=some (.ext 0,{env:=upd emp 3 (some (.ref (0,0) [])),heap:=upd emp (0,0) (some (.s 2 (xs.map ZC.o))),fr:=0,next:=1})
 |[],A,h=>by
  rw[List.append_nil] at h
  subst h
  unfold loopW
  conv=>lhs;arg 1;unfold lX
  have hx':=hx.1
  simp -implicitDefEqProofs (disch:=first|assumption|omega|(simp only[aE,aQ,aD,i64,sa,aC,lm,la,lc,ln];omega)) only[go_sem,simprocAttr,List.replicate_zero]
 |x::B,A,h=>by
  unfold loopW
  conv=>lhs;arg 1;unfold lX
  have hl:xs.length=A.length+(B.length+1):=by rw[h];simp
  have h2:(xs.map ZC.r)[A.length]? = some x.r:=by rw[h];simp
  have hx':=hx.1
  have hto:=Qg x (hx.2 x (by rw[h];simp))
  have ih:=Ay xs hx B (A++[x]) (by simp[h])
  rw[show(((A++[x]).length:Nat):Int)=(A.length:Int)+1 by simp] at ih
  simp only[List.map_append,mc,mn,List.append_assoc,List.cons_append,List.nil_append,ZC.o] at ih
  simp only[ZC.r] at h2
  simp only[ZC.x,ZC.xo] at hto
  simp -implicitDefEqProofs (disch:=first|assumption|omega|(simp only[aE,aQ,aD,i64,sa,aC,lm,la,lc,ln];omega)) only[go_sem,simprocAttr,lc,List.replicate_succ,qW,qX,qY,h2,hto,ih]
theorem Np(xs:List ZC)(hx:xs.length≤1048576∧∀y∈xs,y.sm):call tab xQ [.d (.r (xs.map ZC.r))]=some (.d (.s 2 (xs.map ZC.o))):=by
 rw[aJ Qi _ rfl,C5]
 have hl:=Ay xs hx xs [] rfl
 have hx':=hx.1
 simp only[mn,List.nil_append,ln,Int.cast_ofNat_Int] at hl
 simp -implicitDefEqProofs (disch:=first|assumption|omega|(simp only[aE,aQ,aD,i64,sa,aC,lm,la,lc,ln];omega)) only[go_sem,simprocAttr,hl]
theorem Ra(x:ZC)(n:Int)(hn:0≤n∧n≤1048576)(hx:x.ok):call tab Bt [x.x,I n]=some (I (if n<x.sz then -1 else n-x.sz)):=by
 rw[aJ Td _ rfl,Eu]
 have hsz:x.sz=(x.fName.size:Int):=rfl
 rw[hsz]
 have b0:=hx.fName
 by_cases c0:n-(x.fName.size:Int)<0
 ·rw[if_pos (show n<(x.fName.size:Int) by omega)]
  simp -implicitDefEqProofs (disch:=first|assumption|omega|(simp only[aE,aQ,aD,i64,sa,aC,lm,la,lc,ln];omega)) only[go_sem,simprocAttr,ZC.x,c0]
 ·rw[if_neg (show ¬n<(x.fName.size:Int) by omega)]
  simp -implicitDefEqProofs (disch:=first|assumption|omega|(simp only[aE,aQ,aD,i64,sa,aC,lm,la,lc,ln];omega)) only[go_sem,simprocAttr,ZC.x,c0]
theorem zX(xs:List ZC)(hx:xs.length≤1048576)(hok:∀y∈xs,y.ok):∀(B A:List ZC) (n:Int),xs=A++B→0≤n∧n≤1048576 →
  loopW tab [0,1,5] lL {env:=upd (upd (upd emp 5 (some (I (A.length:Int)))) 1 (some (I n))) 0 (some (.d (.r (xs.map ZC.r)))),heap:=emp,fr:=0,next:=0}=(if n<ZC.szl B then some (.ret,{env:=upd emp 4 (some (I (-1))),heap:=emp,fr:=0,next:=0}) else some (.ext 0,{env:=upd emp 1 (some (I (n-ZC.szl B))),heap:=emp,fr:=0,next:=0}))
 |[],A,n,h,hn=>by
  rw[List.append_nil] at h
  subst h
  unfold loopW
  conv=>lhs;arg 1;unfold lL
  rw[if_neg (show ¬n<ZC.szl [] by simp only[ZC.szl];omega)]
  simp -implicitDefEqProofs (disch:=first|assumption|omega|(simp only[aE,aQ,aD,i64,sa,aC,lm,la,lc,ln];omega)) only[go_sem,simprocAttr,ZC.szl,Int.sub_zero]
 |x::B,A,n,h,hn=>by
  unfold loopW
  conv=>lhs;arg 1;unfold lL
  have hl:xs.length=A.length+(B.length+1):=by rw[h];simp
  have h2:(xs.map ZC.r)[A.length]? = some x.r:=by rw[h];simp
  have hto:=Ra x n hn (hok x (by rw[h];simp))
  have hnn:=ZC.szl_nn B
  have hxn:=x.sz_nn
  simp only[ZC.r] at h2
  simp only[ZC.x] at hto
  rw[show ZC.szl (x::B)=x.sz+ZC.szl B from rfl]
  by_cases hc:n<x.sz
  ·rw[if_pos hc] at hto
   rw[if_pos (show n<x.sz+ZC.szl B by omega)]
   simp -implicitDefEqProofs (disch:=first|assumption|omega|(simp only[aE,aQ,aD,i64,sa,aC,lm,la,lc,ln];omega)) only[go_sem,simprocAttr,h2,hto]
  ·rw[if_neg hc] at hto
   have ih:=zX xs hx hok B (A++[x]) (n-x.sz) (by simp[h]) (by omega)
   rw[show(((A++[x]).length:Nat):Int)=(A.length:Int)+1 by simp] at ih
   by_cases hd:n-x.sz<ZC.szl B
   ·rw[if_pos hd] at ih
    rw[if_pos (show n<x.sz+ZC.szl B by omega)]
    simp -implicitDefEqProofs (disch:=first|assumption|omega|(simp only[aE,aQ,aD,i64,sa,aC,lm,la,lc,ln];omega)) only[go_sem,simprocAttr,h2,hto,ih]
   ·rw[if_neg hd,show n-x.sz-ZC.szl B=n-(x.sz+ZC.szl B) by omega] at ih
    rw[if_neg (show ¬n<x.sz+ZC.szl B by omega)]
    simp -implicitDefEqProofs (disch:=first|assumption|omega|(simp only[aE,aQ,aD,i64,sa,aC,lm,la,lc,ln];omega)) only[go_sem,simprocAttr,h2,hto,ih]
theorem Mq(xs:List ZC)(n:Int)(hn:0≤n∧n≤1048576)(hx:xs.length≤140737488351232∧∀y∈xs,y.ok):call tab x7 [.d (.r (xs.map ZC.r)),I n]=some (I (if n<ZC.szs xs then -1 else n-ZC.szs xs)):=by
 rw[aJ Qu _ rfl,Dh]
 have hx1:=hx.1
 have hnn:=ZC.szl_nn xs
 rw[show ZC.szs xs=xs.length+ZC.szl xs from rfl]
 by_cases h:n-(xs.length:Int)<0
 ·rw[if_pos (show n<xs.length+ZC.szl xs by omega)]
  simp -implicitDefEqProofs (disch:=first|assumption|omega|(simp only[aE,aQ,aD,i64,sa,aC,lm,la,lc,ln];omega)) only[go_sem,simprocAttr,h]
 ·have hl:=zX xs (by omega) hx.2 xs [] (n-xs.length) rfl (by omega)
  simp only[ln,Int.cast_ofNat_Int] at hl
  by_cases hd:n-(xs.length:Int)<ZC.szl xs
  ·rw[if_pos hd] at hl
   rw[if_pos (show n<xs.length+ZC.szl xs by omega)]
   simp -implicitDefEqProofs (disch:=first|assumption|omega|(simp only[aE,aQ,aD,i64,sa,aC,lm,la,lc,ln];omega)) only[go_sem,simprocAttr,h,hl]
  ·rw[if_neg hd,show n-(xs.length:Int)-ZC.szl xs=n-(xs.length+ZC.szl xs) by omega] at hl
   rw[if_neg (show ¬n<xs.length+ZC.szl xs by omega)]
   simp -implicitDefEqProofs (disch:=first|assumption|omega|(simp only[aE,aQ,aD,i64,sa,aC,lm,la,lc,ln];omega)) only[go_sem,simprocAttr,h,hl]
set_option maxRecDepth 8000
set_option maxHeartbeats 4000000
inductive ZB where
 |mk (op:Int) (tx:ByteArray) (v:Int) (ks:List ZB)
theorem ZB.ind{P:ZB→Prop}(h:∀op tx v ks,(∀y∈ks,P y)→P (.mk op tx v ks)):∀x,P x
 |.mk op tx v ks=>h op tx v ks (fun y hy=>ZB.ind h y)
 termination_by x=>SizeOf.sizeOf x
 decreasing_by
  have:=List.sizeOf_lt_of_mem hy
  simp only[ZB.mk.sizeOf_spec]
  omega
mutual
def ZB.r:ZB→List D
 |.mk op tx v ks=>[DI op,DS tx,DI v,.r (Ti ks)]
def Ti:List ZB→List (List D)
 |[]=>[]
 |k::ks=>k.r::Ti ks
end
mutual
def ZB.o:ZB→List D
 |.mk op tx v ks=>[DI op,DS tx,DI v,.s 4 (Vr ks)]
def Vr:List ZB→List (List D)
 |[]=>[]
 |k::ks=>k.o::Vr ks
end
theorem Uk:∀ks:List ZB,Ti ks=ks.map ZB.r
 |[]=>by rw[Ti];rfl
 |k::ks=>by rw[Ti,Uk ks];rfl
theorem T4:∀ks:List ZB,Vr ks=ks.map ZB.o
 |[]=>by rw[Vr];rfl
 |k::ks=>by rw[Vr,T4 ks];rfl
theorem ZB.r_eq(op:Int)(tx:ByteArray)(v:Int)(ks:List ZB):(ZB.mk op tx v ks).r=[DI op,DS tx,DI v,.r (ks.map ZB.r)]:=by rw[ZB.r,Uk]
theorem ZB.o_eq(op:Int)(tx:ByteArray)(v:Int)(ks:List ZB):(ZB.mk op tx v ks).o=[DI op,DS tx,DI v,.s 4 (ks.map ZB.o)]:=by rw[ZB.o,T4]
def ZB.op:ZB→Int | .mk op _ _ _=>op
def ZB.tx:ZB→ByteArray | .mk _ tx _ _=>tx
def ZB.v:ZB→Int | .mk _ _ v _=>v
def ZB.ks:ZB→List ZB | .mk _ _ _ ks=>ks
abbrev ZB.x(x:ZB):X:= .agg [I x.op,Str x.tx,I x.v,.d (.r (x.ks.map ZB.r))]
abbrev ZB.xo(x:ZB):X:= .agg [I x.op,Str x.tx,I x.v,.d (.s 4 (x.ks.map ZB.o))]
theorem ZB.r_def(x:ZB):x.r=[DI x.op,DS x.tx,DI x.v,.r (x.ks.map ZB.r)]:=by cases x;exact ZB.r_eq ..
theorem ZB.o_def(x:ZB):x.o=[DI x.op,DS x.tx,DI x.v,.s 4 (x.ks.map ZB.o)]:=by cases x;exact ZB.o_eq ..
theorem ZB.fzl(x:ZB):fzl x.o=x.r:=by
 refine ZB.ind (P:=fun x=>Ev.fzl x.o=x.r) (fun op tx v ks ih=> ?_) x
 rw[ZB.o_eq,ZB.r_eq]
 have h:Ev.fzs (ks.map ZB.o)=ks.map ZB.r:=by
  induction ks with
  |nil=>simp only[mn,Ev.fzs]
  |cons k ks ih2=>simp only[mc,Ev.fzs,ih k (by simp),ih2 (fun y hy=>ih y (by simp[hy]))]
 simp only[Ev.fzl,D.fz,h]
theorem ZB.fzs(xs:List ZB):fzs (xs.map ZB.o)=xs.map ZB.r:=mV _ _ ZB.fzl xs
theorem ZB.noRs(x:ZB):D.noR.noRs x.o=true:=by
 refine ZB.ind (P:=fun x=>D.noR.noRs x.o=true) (fun op tx v ks ih=> ?_) x
 have h:D.noR.noRss (ks.map ZB.o)=true:=by
  induction ks with
  |nil=>simp only[mn,D.noR.noRss]
  |cons k ks ih2=>simp only[mc,D.noR.noRss,ih k (by simp),ih2 (fun y hy=>ih y (by simp[hy])),Bool.and_self]
 simp only[ZB.o_eq,D.noR.noRs,D.noR,h,Bool.and_self]
theorem ZB.noR(xs:List ZB):D.noR.noRss (xs.map ZB.o)=true:=oP _ ZB.noRs xs
inductive ZB.Sm:ZB→Prop where
 |mk {op tx v ks}:tx.size≤1048576→ks.length≤1048576→(∀y∈ks,ZB.Sm y)→ZB.Sm (.mk op tx v ks)
theorem ZB.Sm.ks{x:ZB}(h:x.Sm):x.ks.length≤1048576∧∀y∈x.ks,y.Sm:=by cases h with|mk h1 h2 h3=>exact⟨h2,h3⟩
theorem ZB.Sm.tx{x:ZB}(h:x.Sm):x.tx.size≤1048576:=by cases h with|mk h1 h2 h3=>exact h1
theorem Cy(xs:List ZB)(hx:xs.length≤1048576)(H:∀y∈xs,call tab oY [y.x,y.x]=some (B true)):∀(Bl:List ZB) (j:Int),xs.drop j.toNat=Bl→0≤j →
  loopW tab [0,1,5] nC {env:=upd (upd (upd emp 5 (some (I j))) 1 (some (.d (.r (xs.map ZB.r))))) 0 (some (.d (.r (xs.map ZB.r)))),heap:=emp,fr:=0,next:=0}=some (.ext 0,{env:=emp,heap:=emp,fr:=0,next:=0})
 |[],j,hd,hj=>by
  unfold loopW
  conv=>lhs;arg 1;unfold nC
  have h1:=b9 hd hj
  simp -implicitDefEqProofs (disch:=first|assumption|omega|(simp only[aE,aQ,aD,i64,sa,aC,lm,la,lc,ln];omega)) only[go_sem,simprocAttr]
 |x::Bl,j,hd,hj=>by
  unfold loopW
  conv=>lhs;arg 1;unfold nC
  have h1:=bK hd hj
  have h5:=h1.2.1
  have h2:=eK ZB.r h1.1
  rw[ZB.r_def] at h2
  have g0:=H x h1.2.2.2.1
  have ih:=Cy xs hx H Bl (j+1) h1.2.2.1 (by omega)
  simp -implicitDefEqProofs (disch:=first|assumption|omega|(simp only[aE,aQ,aD,i64,sa,aC,lm,la,lc,ln];omega)) only[go_sem,simprocAttr,h2,g0,ih]
theorem Tf(x:ZB)(hx:x.Sm):call tab oY [x.x,x.x]=some (B true):=by
 refine ZB.ind (P:=fun x=>x.Sm→call tab oY [x.x,x.x]=some (B true)) (fun op tx v ks ih hx=> ?_) x hx
 have hk:=hx.ks
 have h0:=Cy ks hk.1 (fun y hy=>ih y hy (hk.2 y hy)) ks 0 rfl (by omega)
 have hl:=hk.1
 simp only[ZB.ks] at hl
 have h1:call tab Bn [.d (.r (ks.map ZB.r)),.d (.r (ks.map ZB.r))]=some (B true):=by
  rw[aJ Tw _ rfl,En]
  simp -implicitDefEqProofs (disch:=first|assumption|omega|(simp only[aE,aQ,aD,i64,sa,aC,lm,la,lc,ln];omega)) only[go_sem,simprocAttr,h0]
 rw[aJ Xy _ rfl,Jf]
 simp -implicitDefEqProofs (disch:=first|assumption|omega|(simp only[aE,aQ,aD,i64,sa,aC,lm,la,lc,ln];omega)) only[go_sem,simprocAttr,ZB.op,ZB.tx,ZB.v,ZB.ks,h1]
mutual
def ZB.ct:ZB→Int
 |.mk _ _ _ ks=>1+1+1+dZ ks
def dZ:List ZB→Int
 |[]=>0
 |x::xs=>x.ct+dZ xs
end
mutual
def ZB.mk_:ZB→Int→ZB
 |.mk _ _ _ ks,k=> .mk k (Hy (k+1)) (k+1+1) (pL ks (k+1+1+1))
def pL:List ZB→Int→List ZB
 |[],_=>[]
 |x::xs,k=>x.mk_ k::pL xs (k+x.ct)
end
theorem ZB.ct_eq(op:Int)(tx:ByteArray)(v:Int)(ks:List ZB):(ZB.mk op tx v ks).ct=3+dZ ks:=by rw[ZB.ct];omega
theorem G5:dZ []=0:=by rw[dZ]
theorem Cq(x:ZB)(xs:List ZB):dZ (x::xs)=x.ct+dZ xs:=by rw[dZ]
theorem zqF(k:Int):pL [] k=[]:=by rw[pL]
theorem zzC(x:ZB)(xs:List ZB)(k:Int):pL (x::xs) k=x.mk_ k::pL xs (k+x.ct):=by rw[pL]
theorem ZB.mk_eq(op:Int)(tx:ByteArray)(v:Int)(ks:List ZB)(k:Int):(ZB.mk op tx v ks).mk_ k= .mk k (Hy (k+1)) (k+1+1) (pL ks (k+1+1+1)):=by rw[ZB.mk_]
theorem Ot{xs:List ZB}(h:∀y∈xs,3≤y.ct):(xs.length:Int)≤dZ xs:=by
 induction xs with
 |nil=>rw[dZ];simp
 |cons x xs ih =>
  have h1:=h x (by simp)
  have h2:=ih (fun y hy=>h y (by simp[hy]))
  rw[dZ,lc];omega
theorem ZB.ct_nn(x:ZB):3≤x.ct:=by
 refine ZB.ind (P:=fun x=>3≤x.ct) (fun op tx v ks ih=> ?_) x
 have:=Ot ih
 rw[ZB.ct_eq];omega
theorem J3(xs:List ZB):(xs.length:Int)≤dZ xs:=Ot (fun y _=>y.ct_nn)
abbrev Nz(xs:List ZB):Prop:=∀k:Int,dZ xs≤1099511627776→0≤k∧k+dZ xs≤4611686018427387904→evCW tab pK [.ref (0,0) [],I k] (upd emp (0,0) (some (.s 4 (xs.map ZB.o)))) 1=some (I (k+dZ xs),upd emp (0,0) (some (.s 4 ((pL xs k).map ZB.o))))
theorem wU:∀(B A:List ZB) (k:Int),(∀y∈B,Nz y.ks)→(A.length:Int)+dZ B≤1099511627776→0≤k∧k+dZ B≤4611686018427387904 →
  loopW tab [0,1,5] j5 {env:=upd (upd (upd emp 5 (some (I (A.length:Int)))) 1 (some (I k))) 0 (some (.ref (0,0) [])),heap:=upd emp (0,0) (some (.s 4 (A.map ZB.o++B.map ZB.o))),fr:=1,next:=0}=some (.ext 0,{env:=upd emp 1 (some (I (k+dZ B))),heap:=upd emp (0,0) (some (.s 4 (A.map ZB.o++(pL B k).map ZB.o))),fr:=1,next:=0})
 |[],A,k,H,h,hk=>by
  unfold loopW
  conv=>lhs;arg 1;unfold j5
  simp only[G5] at h hk
  simp -implicitDefEqProofs (disch:=first|assumption|omega|(simp only[aE,aQ,aD,i64,sa,aC,lm,la,lc,ln];omega)) only[go_sem,simprocAttr,G5,zqF,mn,List.append_nil,Int.add_zero]
 |x::B,A,k,H,h,hk=>by
  unfold loopW
  conv=>lhs;arg 1;unfold j5
  simp only[Cq] at h hk
  have h1:=x.ct_nn
  have h0:=J3 B
  have ih:=wU B (A++[x.mk_ k]) (k+x.ct) (fun y hy=>H y (by simp[hy])) (by simp;omega) (by omega)
  have Hx:=H x (by simp)
  rw[show(((A++[x.mk_ k]).length:Nat):Int)=(A.length:Int)+1 by simp,show k+x.ct+dZ B=k+dZ (x::B) by rw[Cq];omega] at ih
  simp only[List.map_append,mc,mn,List.append_assoc,List.cons_append,List.nil_append] at ih
  obtain⟨op,tx,v,ks⟩:=x
  simp only[zzC,mc]
  simp only[ZB.ct_eq] at hk h h1 ih
  have g0:=Hx (k+1+1+1) (by simp only[ZB.ks];omega) (by simp only[ZB.ks];omega)
  simp only[ZB.ks] at g0
  have e:k+(3+dZ ks)=k+1+1+1+dZ ks:=by omega
  simp only[ZB.mk_eq,ZB.o_eq,ZB.ct_eq,e] at ih ⊢
  simp -implicitDefEqProofs (disch:=first|assumption|omega|(simp only[aE,aQ,aD,i64,sa,aC,lm,la,lc,ln];omega)) only[go_sem,simprocAttr,lc,qW,qX,qY,g0,eW,ih]
theorem vD(xs:List ZB)(H:∀y∈xs,Nz y.ks):Nz xs:=by
 intro k h hk
 rw[aP M4 _ _ _ rfl,A2]
 have hl:=wU xs [] k H (by simpa using h) hk
 simp only[mn,List.nil_append,ln,Int.cast_ofNat_Int] at hl
 simp -implicitDefEqProofs (disch:=first|assumption|omega|(simp only[aE,aQ,aD,i64,sa,aC,lm,la,lc,ln];omega)) only[go_sem,simprocAttr,hl]
theorem Mk(x:ZB):Nz x.ks:=ZB.ind (P:=fun x=>Nz x.ks) (fun op tx v ks ih=>vD ks ih) x
theorem Ks(xs:List ZB):Nz xs:=vD xs (fun y _=>Mk y)
set_option maxRecDepth 8000
set_option maxHeartbeats 4000000
theorem ZB.op_mk(op:Int)(tx:ByteArray)(v:Int)(ks:List ZB):(ZB.mk op tx v ks).op=op:=rfl
theorem ZB.tx_mk(op:Int)(tx:ByteArray)(v:Int)(ks:List ZB):(ZB.mk op tx v ks).tx=tx:=rfl
theorem ZB.v_mk(op:Int)(tx:ByteArray)(v:Int)(ks:List ZB):(ZB.mk op tx v ks).v=v:=rfl
theorem ZB.ks_mk(op:Int)(tx:ByteArray)(v:Int)(ks:List ZB):(ZB.mk op tx v ks).ks=ks:=rfl
structure ZA where
 fName:ByteArray
 fParams:List ZC
 fBody:ZB
def ZA.r(x:ZA):List D:=[DS x.fName,.r (x.fParams.map ZC.r),DI x.fBody.op,DS x.fBody.tx,DI x.fBody.v,.r (x.fBody.ks.map ZB.r)]
def ZA.o(x:ZA):List D:=[DS x.fName,.s 2 (x.fParams.map ZC.o),DI x.fBody.op,DS x.fBody.tx,DI x.fBody.v,.s 4 (x.fBody.ks.map ZB.o)]
abbrev ZA.x(x:ZA):X:= .agg [Str x.fName,.d (.r (x.fParams.map ZC.r)),I x.fBody.op,Str x.fBody.tx,I x.fBody.v,.d (.r (x.fBody.ks.map ZB.r))]
abbrev ZA.xo(x:ZA):X:= .agg [Str x.fName,.d (.s 2 (x.fParams.map ZC.o)),I x.fBody.op,Str x.fBody.tx,I x.fBody.v,.d (.s 4 (x.fBody.ks.map ZB.o))]
theorem ZA.fzl(x:ZA):fzl x.o=x.r:=by simp only[ZA.o,ZA.r,Ev.fzl,D.fz,ZC.fzs,ZB.fzs]
theorem ZA.fzs(xs:List ZA):fzs (xs.map ZA.o)=xs.map ZA.r:=mV _ _ ZA.fzl xs
theorem ZA.noR(xs:List ZA):D.noR.noRss (xs.map ZA.o)=true:=oP _ (fun x=>by simp only[ZA.o,D.noR.noRs,D.noR,bat,bta,ZC.noR,ZB.noR]) xs
structure ZA.Sm (x:ZA):Prop where
 nm:x.fName.size≤1048576
 ps:x.fParams.length≤1048576∧∀y∈x.fParams,y.sm
 bd:x.fBody.Sm
theorem Wp(x:ZA)(hx:x.Sm):call tab Eq [x.x,x.x]=some (B true):=by
 have h1:=Nc x.fParams hx.ps
 have h2:=Tf x.fBody hx.bd
 rw[aJ W6 _ rfl,H7]
 simp -implicitDefEqProofs (disch:=first|assumption|omega|(simp only[aE,aQ,aD,i64,sa,aC,lm,la,lc,ln];omega)) only[go_sem,simprocAttr,h1,h2]
theorem Dw(xs:List ZA)(hx:xs.length≤1048576)(H:∀y∈xs,y.Sm):∀(Bl:List ZA) (j:Int),xs.drop j.toNat=Bl→0≤j →
  loopW tab [0,1,5] mT {env:=upd (upd (upd emp 5 (some (I j))) 1 (some (.d (.r (xs.map ZA.r))))) 0 (some (.d (.r (xs.map ZA.r)))),heap:=emp,fr:=0,next:=0}=some (.ext 0,{env:=emp,heap:=emp,fr:=0,next:=0})
 |[],j,hd,hj=>by
  unfold loopW
  conv=>lhs;arg 1;unfold mT
  have h1:=b9 hd hj
  simp -implicitDefEqProofs (disch:=first|assumption|omega|(simp only[aE,aQ,aD,i64,sa,aC,lm,la,lc,ln];omega)) only[go_sem,simprocAttr]
 |x::Bl,j,hd,hj=>by
  unfold loopW
  conv=>lhs;arg 1;unfold mT
  have h1:=bK hd hj
  have h5:=h1.2.1
  have h2:=eK ZA.r h1.1
  simp only[ZA.r] at h2
  have g0:=Wp x (H x h1.2.2.2.1)
  have ih:=Dw xs hx H Bl (j+1) h1.2.2.1 (by omega)
  simp -implicitDefEqProofs (disch:=first|assumption|omega|(simp only[aE,aQ,aD,i64,sa,aC,lm,la,lc,ln];omega)) only[go_sem,simprocAttr,h2,g0,ih]
theorem Qa(xs:List ZA)(hx:xs.length≤1048576)(H:∀y∈xs,y.Sm):call tab Be [.d (.r (xs.map ZA.r)),.d (.r (xs.map ZA.r))]=some (B true):=by
 have h0:=Dw xs hx H xs 0 rfl (by omega)
 rw[aJ Va _ rfl,F5]
 simp -implicitDefEqProofs (disch:=first|assumption|omega|(simp only[aE,aQ,aD,i64,sa,aC,lm,la,lc,ln];omega)) only[go_sem,simprocAttr,h0]
def ZA.ct(x:ZA):Int:=1+ZC.cts x.fParams+1+1+1+dZ x.fBody.ks
def ZA.mk_(k:Int)(x:ZA):ZA:=⟨Hy k,ZC.mks (k+1) x.fParams,.mk (k+1+ZC.cts x.fParams) (Hy (k+1+ZC.cts x.fParams+1)) (k+1+ZC.cts x.fParams+1+1) (pL x.fBody.ks (k+1+ZC.cts x.fParams+1+1+1))⟩
def ZA.cts:List ZA→Int
 |[]=>0
 |x::xs=>x.ct+ZA.cts xs
def ZA.mks:Int→List ZA→List ZA
 |_,[]=>[]
 |k,x::xs=>x.mk_ k::ZA.mks (k+x.ct) xs
theorem ZA.ct_nn(x:ZA):4≤x.ct:=by
 have:=ZC.cts_nn x.fParams;have:=J3 x.fBody.ks
 unfold ZA.ct;omega
theorem ZA.cts_nn:∀xs:List ZA,(xs.length:Int)≤ZA.cts xs
 |[]=>by simp[ZA.cts]
 |x::xs=>by have:=x.ct_nn;have:=ZA.cts_nn xs;simp only[ZA.cts,lc];omega
theorem ZA.mks_len:∀(k:Int) (xs:List ZA),(ZA.mks k xs).length=xs.length
 |_,[]=>rfl
 |k,x::xs=>by simp only[ZA.mks,lc,ZA.mks_len _ xs]
theorem xA:∀(B A:List ZA) (k:Int),(A.length:Int)+ZA.cts B≤1099511627776→0≤k∧k+ZA.cts B≤4611686018427387904 →
  loopW tab [0,1,5] kE {env:=upd (upd (upd emp 5 (some (I (A.length:Int)))) 1 (some (I k))) 0 (some (.ref (0,0) [])),heap:=upd emp (0,0) (some (.s 6 (A.map ZA.o++B.map ZA.o))),fr:=1,next:=0}=some (.ext 0,{env:=upd emp 1 (some (I (k+ZA.cts B))),heap:=upd emp (0,0) (some (.s 6 (A.map ZA.o++(ZA.mks k B).map ZA.o))),fr:=1,next:=0})
 |[],A,k,h,hk=>by
  unfold loopW
  conv=>lhs;arg 1;unfold kE
  simp only[ZA.cts] at h hk
  simp -implicitDefEqProofs (disch:=first|assumption|omega|(simp only[aE,aQ,aD,i64,sa,aC,lm,la,lc,ln];omega)) only[go_sem,simprocAttr,ZA.cts,ZA.mks,mn,List.append_nil,Int.add_zero]
 |x::B,A,k,h,hk=>by
  unfold loopW
  conv=>lhs;arg 1;unfold kE
  simp only[ZA.cts] at h hk
  have h1:=x.ct_nn
  have h0:=ZA.cts_nn B
  have ih:=xA B (A++[x.mk_ k]) (k+x.ct) (by simp;omega) (by omega)
  rw[show(((A++[x.mk_ k]).length:Nat):Int)=(A.length:Int)+1 by simp,show k+x.ct+ZA.cts B=k+ZA.cts (x::B) by simp only[ZA.cts];omega] at ih
  simp only[List.map_append,mc,mn,List.append_assoc,List.cons_append,List.nil_append] at ih
  simp only[ZA.mks,mc]
  have hp:=ZC.cts_nn x.fParams
  have hkn:=J3 x.fBody.ks
  unfold ZA.ct at hk h h1
  have f0:=Kg x.fParams (k+1) (by omega) (by omega)
  have f1:=Ks x.fBody.ks (k+1+ZC.cts x.fParams+1+1+1) (by omega) (by omega)
  have e:k+x.ct=k+1+ZC.cts x.fParams+1+1+1+dZ x.fBody.ks:=by unfold ZA.ct;omega
  rw[e] at ih ⊢
  simp only[ZA.mk_,ZA.o,ZB.op_mk,ZB.tx_mk,ZB.v_mk,ZB.ks_mk] at ih ⊢
  simp -implicitDefEqProofs (disch:=first|assumption|omega|(simp only[aE,aQ,aD,i64,sa,aC,lm,la,lc,ln];omega)) only[go_sem,simprocAttr,lc,qW,qX,qY,f0,f1,eW,ih]
theorem Mj(xs:List ZA)(k:Int)(h:ZA.cts xs≤1099511627776)(hk:0≤k∧k+ZA.cts xs≤4611686018427387904):evCW tab vJ [.ref (0,0) [],I k] (upd emp (0,0) (some (.s 6 (xs.map ZA.o)))) 1=some (I (k+ZA.cts xs),upd emp (0,0) (some (.s 6 ((ZA.mks k xs).map ZA.o)))):=by
 rw[aP Oh _ _ _ rfl,A4]
 have hl:=xA xs [] k (by simpa using h) hk
 simp only[mn,List.nil_append,ln,Int.cast_ofNat_Int] at hl
 simp -implicitDefEqProofs (disch:=first|assumption|omega|(simp only[aE,aQ,aD,i64,sa,aC,lm,la,lc,ln];omega)) only[go_sem,simprocAttr,hl]
set_option maxRecDepth 8000
set_option maxHeartbeats 4000000
mutual
def ZB.sz:ZB→Int
 |.mk _ tx _ ks=>tx.size+(ks.length+bH ks)
def bH:List ZB→Int
 |[]=>0
 |x::xs=>x.sz+bH xs
end
theorem ZB.sz_eq(op:Int)(tx:ByteArray)(v:Int)(ks:List ZB):(ZB.mk op tx v ks).sz=tx.size+(ks.length+bH ks):=by rw[ZB.sz]
theorem oT:bH []=0:=by rw[bH]
theorem dH(x:ZB)(xs:List ZB):bH (x::xs)=x.sz+bH xs:=by rw[bH]
theorem O3{xs:List ZB}(h:∀y∈xs,0≤y.sz):0≤bH xs:=by
 induction xs with
 |nil=>rw[bH];omega
 |cons x xs ih =>
  have h1:=h x (by simp)
  have h2:=ih (fun y hy=>h y (by simp[hy]))
  rw[bH];omega
theorem ZB.sz_nn(x:ZB):0≤x.sz:=by
 refine ZB.ind (P:=fun x=>0≤x.sz) (fun op tx v ks ih=> ?_) x
 have:=O3 ih
 rw[ZB.sz_eq];omega
theorem dC(xs:List ZB):0≤bH xs:=O3 (fun y _=>y.sz_nn)
theorem S8:∀{xs:List ZB} {x:ZB},x∈xs→x.sz≤bH xs
 |y::xs,x,h=>by
  rw[dH]
  have h1:=y.sz_nn;have h2:=dC xs
  rcases List.mem_cons.1 h with rfl|h
  ·omega
  ·have:=S8 h;omega
theorem ZB.sm_of(x:ZB)(h:x.sz≤1048576):x.Sm:=by
 refine ZB.ind (P:=fun x=>x.sz≤1048576→x.Sm) (fun op tx v ks ih h=> ?_) x h
 rw[ZB.sz_eq] at h
 have h1:=dC ks
 exact .mk (by omega) (by omega) (fun y hy=>ih y hy (by have:=S8 hy;omega))
inductive ZB.Ok:ZB→Prop where
 |mk {op tx v ks}:(Lit.int .i64 op).wf=true→tx.size≤140737488351232→(Lit.int .i64 v).wf=true→ks.length≤140737488351232→(∀y∈ks,ZB.Ok y)→ZB.Ok (.mk op tx v ks)
theorem ZB.fit{b:Nat}(hb:1≤b){c:List D}(h:Nd b c):∃x:ZB,c=x.r∧x.Ok:=by
 induction h with
 | @mk op n s els h1 h2 h3 h4 h5 ih =>
  have key:∀(l:List (List D)),(∀c∈l,∃x:ZB,c=x.r∧x.Ok)→∃ks:List ZB,l=ks.map ZB.r∧∀y∈ks,y.Ok:=by
   intro l
   induction l with
   |nil=>intro _;exact⟨[],rfl,by simp⟩
   |cons a l ihl =>
    intro h
    obtain⟨x,rfl,hx⟩:=h a (by simp)
    obtain⟨ks,rfl,hk⟩:=ihl (fun c hc=>h c (by simp[hc]))
    refine⟨x::ks,rfl,fun y hy=> ?_⟩
    rcases List.mem_cons.1 hy with rfl|hy
    ·exact hx
    ·exact hk y hy
  obtain⟨ks,rfl,hk⟩:=key els ih
  refine⟨.mk op s n ks,by rw[ZB.r_eq],.mk h1 h2 h3 ?_ hk⟩
  rw[lm] at h4
  exact Nat.le_trans (Nat.le_mul_of_pos_right _ hb) h4
abbrev zKZ(xs:List ZB):Prop:=∀n:Int,0≤n∧n≤1048576→call tab B4 [.d (.r (xs.map ZB.r)),I n]=some (I (if n<xs.length+bH xs then -1 else n-(xs.length+bH xs)))
theorem Fj(x:ZB)(hx:x.Ok)(H:zKZ x.ks)(n:Int)(hn:0≤n∧n≤1048576):call tab xG [x.x,I n]=some (I (if n<x.sz then -1 else n-x.sz)):=by
 obtain⟨op,tx,v,ks⟩:=x
 simp only[ZB.ks] at H
 rw[aJ Yo _ rfl,In,ZB.sz_eq]
 have b0:tx.size≤140737488351232:=by cases hx with|mk h1 h2 h3 h4 h5=>exact h2
 have b1:ks.length≤140737488351232:=by cases hx with|mk h1 h2 h3 h4 h5=>exact h4
 have z1:=dC ks
 by_cases c0:n-(tx.size:Int)<0
 ·rw[if_pos (show n<(tx.size:Int)+(ks.length+bH ks) by omega)]
  simp -implicitDefEqProofs (disch:=first|assumption|omega) only[go_sem,simprocAttr,ZB.op,ZB.tx,ZB.v,ZB.ks,c0]
 ·have f1:=H (n-(tx.size:Int)) (by omega)
  by_cases c1:n-(tx.size:Int)<ks.length+bH ks
  ·rw[if_pos c1] at f1
   rw[if_pos (show n<(tx.size:Int)+(ks.length+bH ks) by omega)]
   simp -implicitDefEqProofs (disch:=first|assumption|omega) only[go_sem,simprocAttr,ZB.op,ZB.tx,ZB.v,ZB.ks,c0,f1]
  ·rw[if_neg c1] at f1
   rw[if_neg (show ¬n<(tx.size:Int)+(ks.length+bH ks) by omega)]
   rw[show n-((tx.size:Int)+(ks.length+bH ks))=n-(tx.size:Int)-(ks.length+bH ks) by omega]
   have c2:¬n-(tx.size:Int)-(ks.length+bH ks)<0:=by omega
   generalize n-(tx.size:Int)-(ks.length+bH ks)=u at *
   simp -implicitDefEqProofs (disch:=first|assumption|omega) only[go_sem,simprocAttr,ZB.op,ZB.tx,ZB.v,ZB.ks,c0,f1,c2]
theorem D2(xs:List ZB)(hx:xs.length≤1048576)(hok:∀y∈xs,y.Ok∧zKZ y.ks):∀(B A:List ZB) (n:Int),xs=A++B→0≤n∧n≤1048576 →
  loopW tab [0,1,5] mX {env:=upd (upd (upd emp 5 (some (I (A.length:Int)))) 1 (some (I n))) 0 (some (.d (.r (xs.map ZB.r)))),heap:=emp,fr:=0,next:=0}=(if n<bH B then some (.ret,{env:=upd emp 4 (some (I (-1))),heap:=emp,fr:=0,next:=0}) else some (.ext 0,{env:=upd emp 1 (some (I (n-bH B))),heap:=emp,fr:=0,next:=0}))
 |[],A,n,h,hn=>by
  rw[List.append_nil] at h
  subst h
  unfold loopW
  conv=>lhs;arg 1;unfold mX
  rw[oT,if_neg (show ¬n<0 by omega)]
  simp -implicitDefEqProofs (disch:=first|assumption|omega) only[go_sem,simprocAttr,Int.sub_zero]
 |x::B,A,n,h,hn=>by
  unfold loopW
  conv=>lhs;arg 1;unfold mX
  have hl:xs.length=A.length+(B.length+1):=by rw[h];simp
  have h2:(xs.map ZB.r)[A.length]? = some x.r:=by rw[h];simp
  have hto:=Fj x (hok x (by rw[h];simp)).1 (hok x (by rw[h];simp)).2 n hn
  have hnn:=dC B
  have hxn:=x.sz_nn
  rw[ZB.r_def] at h2
  rw[dH]
  by_cases hc:n<x.sz
  ·rw[if_pos hc] at hto
   rw[if_pos (show n<x.sz+bH B by omega)]
   simp -implicitDefEqProofs (disch:=first|assumption|omega) only[go_sem,simprocAttr,h2,hto]
  ·rw[if_neg hc] at hto
   have ih:=D2 xs hx hok B (A++[x]) (n-x.sz) (by simp[h]) (by omega)
   rw[show(((A++[x]).length:Nat):Int)=(A.length:Int)+1 by simp] at ih
   have hnx:0≤n-x.sz:=by omega
   by_cases hd:n-x.sz<bH B
   ·rw[if_pos hd] at ih
    rw[if_pos (show n<x.sz+bH B by omega)]
    simp -implicitDefEqProofs (disch:=first|assumption|omega) only[go_sem,simprocAttr,h2,hto,ih]
   ·rw[if_neg hd,show n-x.sz-bH B=n-(x.sz+bH B) by omega] at ih
    rw[if_neg (show ¬n<x.sz+bH B by omega)]
    simp -implicitDefEqProofs (disch:=first|assumption|omega) only[go_sem,simprocAttr,h2,hto,ih]
theorem P2(xs:List ZB)(hx:xs.length≤140737488351232)(hok:∀y∈xs,y.Ok∧zKZ y.ks):zKZ xs:=by
 intro n hn
 rw[aJ Tk _ rfl,Gu]
 have hnn:=dC xs
 by_cases h:n-(xs.length:Int)<0
 ·rw[if_pos (show n<xs.length+bH xs by omega)]
  simp -implicitDefEqProofs (disch:=first|assumption|omega) only[go_sem,simprocAttr,h]
 ·have hl:=D2 xs (by omega) hok xs [] (n-xs.length) rfl (by omega)
  simp only[ln,Int.cast_ofNat_Int] at hl
  by_cases hd:n-(xs.length:Int)<bH xs
  ·rw[if_pos hd] at hl
   rw[if_pos (show n<xs.length+bH xs by omega)]
   simp -implicitDefEqProofs (disch:=first|assumption|omega) only[go_sem,simprocAttr,h,hl]
  ·rw[if_neg hd,show n-(xs.length:Int)-bH xs=n-(xs.length+bH xs) by omega] at hl
   rw[if_neg (show ¬n<xs.length+bH xs by omega)]
   simp -implicitDefEqProofs (disch:=first|assumption|omega) only[go_sem,simprocAttr,h,hl]
theorem z1z(x:ZB)(hx:x.Ok):zKZ x.ks:=by
 refine ZB.ind (P:=fun x=>x.Ok→zKZ x.ks) (fun op tx v ks ih hx=> ?_) x hx
 cases hx with
 |mk h1 h2 h3 h4 h5=>exact P2 ks h4 (fun y hy=>⟨h5 y hy,ih y hy (h5 y hy)⟩)
abbrev zwz(xs:List ZB):Prop:=call tab Cc [.d (.r (xs.map ZB.r))]=some (.d (.s 4 (xs.map ZB.o)))
theorem F8(x:ZB)(H:zwz x.ks):call tab wX [x.x]=some x.xo:=by
 rw[aJ Xp _ rfl,Iz]
 simp -implicitDefEqProofs (disch:=first|assumption|omega) only[go_sem,simprocAttr,H]
theorem C8(xs:List ZB)(hx:xs.length≤1048576)(H:∀y∈xs,zwz y.ks):∀(B A:List ZB),xs=A++B →
  loopW tab [0,3,4] nB {env:=upd (upd (upd emp 4 (some (I (A.length:Int)))) 3 (some (.ref (0,0) []))) 0 (some (.d (.r (xs.map ZB.r)))),heap:=upd emp (0,0) (some (.s 4 (A.map ZB.o++List.replicate B.length [DI 0,DS ⟨#[]⟩,DI 0,.s 4 []]))),fr:=0,next:=1}=some (.ext 0,{env:=upd emp 3 (some (.ref (0,0) [])),heap:=upd emp (0,0) (some (.s 4 (xs.map ZB.o))),fr:=0,next:=1})
 |[],A,h=>by
  rw[List.append_nil] at h
  subst h
  unfold loopW
  conv=>lhs;arg 1;unfold nB
  simp -implicitDefEqProofs (disch:=first|assumption|omega) only[go_sem,simprocAttr,List.replicate_zero,ln,List.append_nil]
 |x::B,A,h=>by
  unfold loopW
  conv=>lhs;arg 1;unfold nB
  have hl:xs.length=A.length+(B.length+1):=by rw[h];simp
  have h2:(xs.map ZB.r)[A.length]? = some x.r:=by rw[h];simp
  have hto:=F8 x (H x (by rw[h];simp))
  have ih:=C8 xs hx H B (A++[x]) (by simp[h])
  rw[show(((A++[x]).length:Nat):Int)=(A.length:Int)+1 by simp] at ih
  simp only[List.map_append,mc,mn,List.append_assoc,List.cons_append,List.nil_append,ZB.o_def] at ih
  rw[ZB.r_def] at h2
  simp -implicitDefEqProofs (disch:=first|assumption|omega) only[go_sem,simprocAttr,lc,List.replicate_succ,qW,qX,qY,h2,hto,ih]
theorem P9(xs:List ZB)(hx:xs.length≤1048576)(H:∀y∈xs,zwz y.ks):zwz xs:=by
 have hl:=C8 xs hx H xs [] rfl
 rw[zwz,aJ Ud _ rfl,Fp]
 simp only[mn,List.nil_append,ln,Int.cast_ofNat_Int] at hl
 simp -implicitDefEqProofs (disch:=first|assumption|omega|(simp only[aE,aQ,aD,i64,sa,aC,lm,la,lc,ln];omega)) only[go_sem,simprocAttr,hl]
theorem z1o(x:ZB)(hx:x.Sm):zwz x.ks:=by
 refine ZB.ind (P:=fun x=>x.Sm→zwz x.ks) (fun op tx v ks ih hx=> ?_) x hx
 have hk:=hx.ks
 exact P9 ks hk.1 (fun y hy=>ih y hy (hk.2 y hy))
def ZA.sz(x:ZA):Int:=x.fName.size+ZC.szs x.fParams+x.fBody.sz
def ZA.szl:List ZA→Int
 |[]=>0
 |x::xs=>x.sz+ZA.szl xs
def ZA.szs(xs:List ZA):Int:=xs.length+ZA.szl xs
theorem ZA.sz_nn(x:ZA):0≤x.sz:=by
 have h1:=(ZC.szs_nn x.fParams).1
 have h2:=x.fBody.sz_nn
 unfold ZA.sz;omega
theorem ZA.szl_nn:∀xs:List ZA,0≤ZA.szl xs
 |[]=>by simp[ZA.szl]
 |x::xs=>by simp only[ZA.szl];have:=x.sz_nn;have:=ZA.szl_nn xs;omega
theorem ZA.sz_le:∀{xs:List ZA} {x:ZA},x∈xs→x.sz≤ZA.szl xs
 |y::xs,x,h=>by
  simp only[ZA.szl]
  have h1:=y.sz_nn;have h2:=ZA.szl_nn xs
  rcases List.mem_cons.1 h with rfl|h
  ·omega
  ·have:=ZA.sz_le h;omega
theorem ZA.sm_of{x:ZA}(h:x.sz≤1048576):x.Sm:=by
 have h1:=ZC.szs_nn x.fParams
 have h2:=x.fBody.sz_nn
 unfold ZA.sz at h
 exact⟨by omega,ZC.sms_of (by omega),x.fBody.sm_of (by omega)⟩
theorem ZA.sms_of{xs:List ZA}(h:ZA.szs xs≤1048576):xs.length≤1048576∧∀y∈xs,ZA.Sm y:=by
 have:=ZA.szl_nn xs
 unfold ZA.szs at h
 exact⟨by omega,fun y hy=>ZA.sm_of (by have:=ZA.sz_le hy;omega)⟩
structure ZA.Ok (x:ZA):Prop where
 fName:x.fName.size≤140737488351232
 fParams:x.fParams.length≤140737488351232∧∀y∈x.fParams,y.ok
 fBody:x.fBody.Ok
set_option maxRecDepth 8000
set_option maxHeartbeats 4000000
set_option maxRecDepth 8000
set_option maxHeartbeats 4000000
structure ZD where
 fOp:Int
 fD:Int
 fA:Int
 fB:Int
 fN:Int
 fS:ByteArray
 fArgs:List Int
def ZD.r(x:ZD):List D:=[DI x.fOp,DI x.fD,DI x.fA,DI x.fB,DI x.fN,DS x.fS,.r (bB x.fArgs)]
def ZD.o(x:ZD):List D:=[DI x.fOp,DI x.fD,DI x.fA,DI x.fB,DI x.fN,DS x.fS,.s 1 (bB x.fArgs)]
abbrev ZD.x(x:ZD):X:= .agg [I x.fOp,I x.fD,I x.fA,I x.fB,I x.fN,Str x.fS,.d (.r (bB x.fArgs))]
abbrev ZD.xo(x:ZD):X:= .agg [I x.fOp,I x.fD,I x.fA,I x.fB,I x.fN,Str x.fS,.d (.s 1 (bB x.fArgs))]
theorem ZD.fzl(x:ZD):fzl x.o=x.r:=by simp only[ZD.o,ZD.r,Ev.fzl,D.fz,vK]
theorem ZD.fzlr(x:ZD):Ev.fzl x.r=x.r:=by simp only[ZD.r,Ev.fzl,D.fz,vK]
theorem ZD.fzs(xs:List ZD):fzs (xs.map ZD.o)=xs.map ZD.r:=mV _ _ ZD.fzl xs
theorem ZD.fzr(xs:List ZD):Ev.fzs (xs.map ZD.r)=xs.map ZD.r:=mV _ _ ZD.fzlr xs
theorem ZD.noR(xs:List ZD):D.noR.noRss (xs.map ZD.o)=true:=oP _ (fun x=>by simp only[ZD.o,D.noR.noRs,D.noR,bat,bta,uK]) xs
def ZD.sz(x:ZD):Int:=(x.fS.size:Int)+(x.fArgs.length:Int)
theorem ZD.sz_nn(x:ZD):0≤x.sz:=by
 unfold ZD.sz;omega
def ZD.szl:List ZD→Int
 |[]=>0
 |x::xs=>x.sz+ZD.szl xs
def ZD.szs(xs:List ZD):Int:=xs.length+ZD.szl xs
theorem ZD.szl_nn:∀xs:List ZD,0≤ZD.szl xs
 |[]=>by simp[ZD.szl]
 |x::xs=>by simp only[ZD.szl];have:=x.sz_nn;have:=ZD.szl_nn xs;omega
theorem ZD.szs_nn(xs:List ZD):0≤ZD.szs xs∧(xs.length:Int)≤ZD.szs xs:=by have:=ZD.szl_nn xs;unfold ZD.szs;omega
theorem ZD.sz_le:∀{xs:List ZD} {x:ZD},x∈xs→x.sz≤ZD.szl xs
 |y::xs,x,h=>by
  simp only[ZD.szl]
  have h1:=y.sz_nn;have h2:=ZD.szl_nn xs
  rcases List.mem_cons.1 h with rfl|h
  ·omega
  ·have:=ZD.sz_le h;omega
def ZD.sm(x:ZD):Prop:=x.fS.size≤1048576∧x.fArgs.length≤1048576
theorem ZD.sm_of{x:ZD}(h:x.sz≤1048576):x.sm:=by
 unfold ZD.sz at h
 unfold ZD.sm
 exact⟨by omega,by omega⟩
theorem ZD.sms_of{xs:List ZD}(h:ZD.szs xs≤1048576):xs.length≤1048576∧∀y∈xs,y.sm:=by
 have:=ZD.szl_nn xs
 unfold ZD.szs at h
 exact⟨by omega,fun y hy=>ZD.sm_of (by have:=ZD.sz_le hy;omega)⟩
structure ZD.ok (x:ZD):Prop where
 fOp:i64 x.fOp
 fD:i64 x.fD
 fA:i64 x.fA
 fB:i64 x.fB
 fN:i64 x.fN
 fS:x.fS.size≤140737488351232
 fArgs:x.fArgs.length≤140737488351232∧∀n∈x.fArgs,i64 n
theorem ZD.fit{c:List D}(h:kC [.i .i64,.i .i64,.i .i64,.i .i64,.i .i64,.s,.l 8 [.i .i64]] c):∃x:ZD,c=x.r∧x.ok:=by
 simp only[kC] at h
 obtain⟨_,_,rfl,h0,_,_,rfl,h1,_,_,rfl,h2,_,_,rfl,h3,_,_,rfl,h4,_,_,rfl,h5,_,_,rfl,h6,rfl⟩:=h
 rw[Ev.fit] at h0;obtain⟨a0,rfl,g0⟩:=h0
 rw[Ev.fit] at h1;obtain⟨a1,rfl,g1⟩:=h1
 rw[Ev.fit] at h2;obtain⟨a2,rfl,g2⟩:=h2
 rw[Ev.fit] at h3;obtain⟨a3,rfl,g3⟩:=h3
 rw[Ev.fit] at h4;obtain⟨a4,rfl,g4⟩:=h4
 rw[Ev.fit] at h5;obtain⟨a5,rfl,g5⟩:=h5
 rw[Ev.fit] at h6;obtain⟨e6,rfl,b6,c6⟩:=h6;obtain⟨a6,rfl,g6⟩:=Me (enc:=fun n=>[DI n]) (ok:=i64) (fun c hc=>z7q hc) c6;rw[lm] at b6
 exact⟨⟨a0,a1,a2,a3,a4,a5,a6⟩,rfl,⟨zqW g0,zqW g1,zqW g2,zqW g3,zqW g4,g5,⟨(by omega:a6.length≤140737488351232),g6⟩⟩⟩
def ZD.mk_(k:Int)(x:ZD):ZD:=⟨k,k+1,k+1+1,k+1+1+1,k+1+1+1+1,Hy (k+1+1+1+1+1),tO (k+1+1+1+1+1+1) x.fArgs⟩
def ZD.ct(x:ZD):Int:=1+1+1+1+1+1+(x.fArgs.length:Int)
theorem ZD.ct_nn(x:ZD):1≤x.ct:=by
 unfold ZD.ct;omega
def ZD.mks:Int→List ZD→List ZD
 |_,[]=>[]
 |k,x::xs=>ZD.mk_ k x::ZD.mks (k+x.ct) xs
def ZD.cts:List ZD→Int
 |[]=>0
 |x::xs=>x.ct+ZD.cts xs
theorem ZD.cts_nn:∀xs:List ZD,(xs.length:Int)≤ZD.cts xs
 |[]=>by simp[ZD.cts]
 |x::xs=>by simp only[ZD.cts,lc];have:=x.ct_nn;have:=ZD.cts_nn xs;omega
theorem ZD.mks_len:∀(k:Int) (xs:List ZD),(ZD.mks k xs).length=xs.length
 |_,[]=>rfl
 |k,x::xs=>by simp[ZD.mks,ZD.mks_len (k+x.ct) xs]
theorem ZD.ct_le(x:ZD):x.ct≤64+64*x.sz:=by
 unfold ZD.ct ZD.sz;omega
theorem ZD.cts_le:∀xs:List ZD,ZD.cts xs≤64*ZD.szs xs
 |[]=>by simp[ZD.cts,ZD.szs,ZD.szl]
 |x::xs=>by
  have h1:=x.ct_le;have h2:=ZD.cts_le xs
  simp only[ZD.cts,ZD.szs,ZD.szl,lc] at *;omega
theorem Y2(x:ZD)(hx:x.sm):call tab Ji [x.x,x.x]=some (B true):=by
 simp only[ZD.sm] at hx
 have t0:=Ut x.fArgs (by omega)
 rw[aJ zj3 _ rfl,Km]
 simp -implicitDefEqProofs (disch:=first|assumption|omega|(simp only[aE,aQ,aD,i64,sa,aC,lm,la,lc,ln];omega)) only[go_sem,simprocAttr,ZD.x,t0]
theorem Fn(xs:List ZD)(hx:xs.length≤1048576∧∀y∈xs,y.sm):∀(B A:List ZD),xs=A++B →
  loopW tab [0,1,5] oA {env:=upd (upd (upd emp 5 (some (I (A.length:Int)))) 1 (some (.d (.r (xs.map ZD.r))))) 0 (some (.d (.r (xs.map ZD.r)))),heap:=emp,fr:=0,next:=0}=some (.ext 0,{env:=emp,heap:=emp,fr:=0,next:=0})
 |[],A,h=>by
  rw[List.append_nil] at h
  subst h
  unfold loopW
  conv=>lhs;arg 1;unfold oA
  have hx':=hx.1
  simp -implicitDefEqProofs (disch:=first|assumption|omega|(simp only[aE,aQ,aD,i64,sa,aC,lm,la,lc,ln];omega)) only[go_sem,simprocAttr]
 |x::B,A,h=>by
  unfold loopW
  conv=>lhs;arg 1;unfold oA
  have hl:xs.length=A.length+(B.length+1):=by rw[h];simp
  have h2:(xs.map ZD.r)[A.length]? = some x.r:=by rw[h];simp
  have hx':=hx.1
  have hto:=Y2 x (hx.2 x (by rw[h];simp))
  have ih:=Fn xs hx B (A++[x]) (by simp[h])
  rw[show(((A++[x]).length:Nat):Int)=(A.length:Int)+1 by simp] at ih
  simp only[ZD.r] at h2
  simp only[ZD.x] at hto
  simp -implicitDefEqProofs (disch:=first|assumption|omega|(simp only[aE,aQ,aD,i64,sa,aC,lm,la,lc,ln];omega)) only[go_sem,simprocAttr,h2,hto,ih]
theorem Tx(xs:List ZD)(hx:xs.length≤1048576∧∀y∈xs,y.sm):call tab Fa [.d (.r (xs.map ZD.r)),.d (.r (xs.map ZD.r))]=some (B true):=by
 rw[aJ Xd _ rfl,I6]
 have hl:=Fn xs hx xs [] rfl
 have hx':=hx.1
 simp only[ln,Int.cast_ofNat_Int] at hl
 simp -implicitDefEqProofs (disch:=first|assumption|omega|(simp only[aE,aQ,aD,i64,sa,aC,lm,la,lc,ln];omega)) only[go_sem,simprocAttr,hl]
theorem Aj:∀(B A:List ZD) (k:Int),(A.length:Int)+ZD.cts B≤1099511627776→0≤k∧k+ZD.cts B≤4611686018427387904 →
  loopW tab [0,1,5] lN {env:=upd (upd (upd emp 5 (some (I (A.length:Int)))) 1 (some (I k))) 0 (some (.ref (0,0) [])),heap:=upd emp (0,0) (some (.s 7 (A.map ZD.o++B.map ZD.o))),fr:=1,next:=0}=some (.ext 0,{env:=upd emp 1 (some (I (k+ZD.cts B))),heap:=upd emp (0,0) (some (.s 7 (A.map ZD.o++(ZD.mks k B).map ZD.o))),fr:=1,next:=0})
 |[],A,k,h,hk=>by
  unfold loopW
  conv=>lhs;arg 1;unfold lN
  simp only[ZD.cts] at h hk
  simp -implicitDefEqProofs (disch:=first|assumption|omega|(simp only[aE,aQ,aD,i64,sa,aC,lm,la,lc,ln];omega)) only[go_sem,simprocAttr,ZD.cts,ZD.mks,mn,List.append_nil,Int.add_zero]
 |x::B,A,k,h,hk=>by
  unfold loopW
  conv=>lhs;arg 1;unfold lN
  simp only[ZD.cts] at h hk
  have h1:=x.ct_nn
  have h0:=ZD.cts_nn B
  have ih:=Aj B (A++[x.mk_ k]) (k+x.ct) (by simp;omega) (by omega)
  rw[show(((A++[x.mk_ k]).length:Nat):Int)=(A.length:Int)+1 by simp,show k+x.ct+ZD.cts B=k+ZD.cts (x::B) by simp only[ZD.cts];omega] at ih
  simp only[List.map_append,mc,mn,List.append_assoc,List.cons_append,List.nil_append] at ih
  simp only[ZD.mks,mc]
  have hm:ZD.o (x.mk_ k)=[DI (k),DI (k+1),DI (k+1+1),DI (k+1+1+1),DI (k+1+1+1+1),DS (Hy (k+1+1+1+1+1)),.s 1 (bB (tO (k+1+1+1+1+1+1) x.fArgs))]:=rfl
  have hkx:k+x.ct=k+1+1+1+1+1+1+(x.fArgs.length:Int):=by unfold ZD.ct;omega
  rw[hm,hkx] at ih
  rw[hm,hkx]
  unfold ZD.ct at hk h0
  have f0:=Nl x.fArgs (k+1+1+1+1+1+1) (by omega) (by omega)
  simp -implicitDefEqProofs (disch:=first|assumption|omega|(simp only[aE,aQ,aD,i64,sa,aC,lm,la,lc,ln];omega)) only[go_sem,simprocAttr,ZD.o,lc,qW,qX,qY,f0,eW,ih]
theorem Nf(xs:List ZD)(k:Int)(h:ZD.cts xs≤1099511627776)(hk:0≤k∧k+ZD.cts xs≤4611686018427387904):evCW tab yV [.ref (0,0) [],I k] (upd emp (0,0) (some (.s 7 (xs.map ZD.o)))) 1=some (I (k+ZD.cts xs),upd emp (0,0) (some (.s 7 ((ZD.mks k xs).map ZD.o)))):=by
 rw[aP Ri _ _ _ rfl,D4]
 have hl:=Aj xs [] k (by simpa using h) hk
 simp only[mn,List.nil_append,ln,Int.cast_ofNat_Int] at hl
 simp -implicitDefEqProofs (disch:=first|assumption|omega|(simp only[aE,aQ,aD,i64,sa,aC,lm,la,lc,ln];omega)) only[go_sem,simprocAttr,hl]
theorem Ag(full:List (List D)):∀(B A:List ZD) (k:Int),full=A.map ZD.r++(ZD.mks k B).map ZD.r→(A.length:Int)+ZD.cts B≤1099511627776→0≤k∧k+ZD.cts B≤4611686018427387904 →
  loopW tab [0,1,5] lT {env:=upd (upd (upd emp 5 (some (I (A.length:Int)))) 1 (some (I k))) 0 (some (.d (.r full))),heap:=emp,fr:=0,next:=0}=some (.ext 0,{env:=upd emp 1 (some (I (k+ZD.cts B))),heap:=emp,fr:=0,next:=0})
 |[],A,k,hf,h,hk=>by
  subst hf
  unfold loopW
  conv=>lhs;arg 1;unfold lT
  simp only[ZD.cts] at h hk
  simp -implicitDefEqProofs (disch:=first|assumption|omega|(simp only[aE,aQ,aD,i64,sa,aC,lm,la,lc,ln];omega)) only[go_sem,simprocAttr,ZD.cts,ZD.mks,mn,List.append_nil,Int.add_zero]
 |x::B,A,k,hf,h,hk=>by
  simp only[ZD.cts] at h hk
  have h1:=x.ct_nn
  have h0:=ZD.cts_nn B
  have ih:=Ag full B (A++[x.mk_ k]) (k+x.ct) (by rw[hf];simp[ZD.mks]) (by simp;omega) (by omega)
  unfold loopW
  conv=>lhs;arg 1;unfold lT
  have hlen:=ZD.mks_len k (x::B)
  have h2:full[A.length]? = some (ZD.r (x.mk_ k)):=by rw[hf];simp[ZD.mks]
  have h3:full.length=A.length+(B.length+1):=by rw[hf,la,lm,lm,hlen,lc]
  clear hf
  rw[show(((A++[x.mk_ k]).length:Nat):Int)=(A.length:Int)+1 by simp,show k+x.ct+ZD.cts B=k+ZD.cts (x::B) by simp only[ZD.cts];omega] at ih
  have hm:ZD.r (x.mk_ k)=[DI (k),DI (k+1),DI (k+1+1),DI (k+1+1+1),DI (k+1+1+1+1),DS (Hy (k+1+1+1+1+1)),.r (bB (tO (k+1+1+1+1+1+1) x.fArgs))]:=rfl
  have hkx:k+x.ct=k+1+1+1+1+1+1+(x.fArgs.length:Int):=by unfold ZD.ct;omega
  rw[hkx] at ih
  rw[hm] at h2
  unfold ZD.ct at hk h0
  have f0:=Nv x.fArgs (k+1+1+1+1+1+1) (by omega) (by omega)
  simp -implicitDefEqProofs (disch:=first|assumption|omega|(simp only[aE,aQ,aD,i64,sa,aC,lm,la,lc,ln];omega)) only[go_sem,simprocAttr,h2,h3,f0,eW,ih]
theorem Nt(xs:List ZD)(k:Int)(h:ZD.cts xs≤1099511627776)(hk:0≤k∧k+ZD.cts xs≤4611686018427387904):call tab x6 [.d (.r ((ZD.mks k xs).map ZD.r)),I k]=some (I (k+ZD.cts xs)):=by
 rw[aJ P5 _ rfl,Du]
 have hl:=Ag _ xs [] k rfl (by simpa using h) hk
 simp only[mn,List.nil_append,ln,Int.cast_ofNat_Int] at hl
 simp -implicitDefEqProofs (disch:=first|assumption|omega|(simp only[aE,aQ,aD,i64,sa,aC,lm,la,lc,ln];omega)) only[go_sem,simprocAttr,hl]
set_option maxRecDepth 8000
set_option maxHeartbeats 4000000
structure ZE where
 fName:ByteArray
 fParams:Int
 fRegs:Int
 fCode:List ZD
def ZE.r(x:ZE):List D:=[DS x.fName,DI x.fParams,DI x.fRegs,.r (x.fCode.map ZD.r)]
def ZE.o(x:ZE):List D:=[DS x.fName,DI x.fParams,DI x.fRegs,.s 7 (x.fCode.map ZD.o)]
abbrev ZE.x(x:ZE):X:= .agg [Str x.fName,I x.fParams,I x.fRegs,.d (.r (x.fCode.map ZD.r))]
abbrev ZE.xo(x:ZE):X:= .agg [Str x.fName,I x.fParams,I x.fRegs,.d (.s 7 (x.fCode.map ZD.o))]
theorem ZE.fzl(x:ZE):fzl x.o=x.r:=by simp only[ZE.o,ZE.r,Ev.fzl,D.fz,ZD.fzs,vK]
theorem ZE.fzlr(x:ZE):Ev.fzl x.r=x.r:=by simp only[ZE.r,Ev.fzl,D.fz,ZD.fzr,vK]
theorem ZE.fzs(xs:List ZE):fzs (xs.map ZE.o)=xs.map ZE.r:=mV _ _ ZE.fzl xs
theorem ZE.fzr(xs:List ZE):Ev.fzs (xs.map ZE.r)=xs.map ZE.r:=mV _ _ ZE.fzlr xs
theorem ZE.noR(xs:List ZE):D.noR.noRss (xs.map ZE.o)=true:=oP _ (fun x=>by simp only[ZE.o,D.noR.noRs,D.noR,bat,bta,ZD.noR,uK]) xs
def ZE.sz(x:ZE):Int:=(x.fName.size:Int)+ZD.szs x.fCode
theorem ZE.sz_nn(x:ZE):0≤x.sz:=by
 unfold ZE.sz;have:=ZD.szs_nn x.fCode;omega
def ZE.szl:List ZE→Int
 |[]=>0
 |x::xs=>x.sz+ZE.szl xs
def ZE.szs(xs:List ZE):Int:=xs.length+ZE.szl xs
theorem ZE.szl_nn:∀xs:List ZE,0≤ZE.szl xs
 |[]=>by simp[ZE.szl]
 |x::xs=>by simp only[ZE.szl];have:=x.sz_nn;have:=ZE.szl_nn xs;omega
theorem ZE.szs_nn(xs:List ZE):0≤ZE.szs xs∧(xs.length:Int)≤ZE.szs xs:=by have:=ZE.szl_nn xs;unfold ZE.szs;omega
theorem ZE.sz_le:∀{xs:List ZE} {x:ZE},x∈xs→x.sz≤ZE.szl xs
 |y::xs,x,h=>by
  simp only[ZE.szl]
  have h1:=y.sz_nn;have h2:=ZE.szl_nn xs
  rcases List.mem_cons.1 h with rfl|h
  ·omega
  ·have:=ZE.sz_le h;omega
def ZE.sm(x:ZE):Prop:=x.fName.size≤1048576∧(x.fCode.length≤1048576∧∀y∈x.fCode,y.sm)
theorem ZE.sm_of{x:ZE}(h:x.sz≤1048576):x.sm:=by
 unfold ZE.sz at h
 unfold ZE.sm
 have:=ZD.szs_nn x.fCode
 exact⟨by omega,⟨by omega,fun y hy=>ZD.sm_of (by have:=ZD.sz_le hy;unfold ZD.szs at *;omega)⟩⟩
theorem ZE.sms_of{xs:List ZE}(h:ZE.szs xs≤1048576):xs.length≤1048576∧∀y∈xs,y.sm:=by
 have:=ZE.szl_nn xs
 unfold ZE.szs at h
 exact⟨by omega,fun y hy=>ZE.sm_of (by have:=ZE.sz_le hy;omega)⟩
structure ZE.ok (x:ZE):Prop where
 fName:x.fName.size≤140737488351232
 fParams:i64 x.fParams
 fRegs:i64 x.fRegs
 fCode:x.fCode.length≤140737488351232∧∀y∈x.fCode,y.ok
theorem ZE.fit{c:List D}(h:kC [.s,.i .i64,.i .i64,.l 80 [.i .i64,.i .i64,.i .i64,.i .i64,.i .i64,.s,.l 8 [.i .i64]]] c):∃x:ZE,c=x.r∧x.ok:=by
 simp only[kC] at h
 obtain⟨_,_,rfl,h0,_,_,rfl,h1,_,_,rfl,h2,_,_,rfl,h3,rfl⟩:=h
 rw[Ev.fit] at h0;obtain⟨a0,rfl,g0⟩:=h0
 rw[Ev.fit] at h1;obtain⟨a1,rfl,g1⟩:=h1
 rw[Ev.fit] at h2;obtain⟨a2,rfl,g2⟩:=h2
 rw[Ev.fit] at h3;obtain⟨e3,rfl,b3,c3⟩:=h3;obtain⟨a3,rfl,g3⟩:=Me (fun c hc=>ZD.fit hc) c3;rw[lm] at b3
 exact⟨⟨a0,a1,a2,a3⟩,rfl,⟨g0,zqW g1,zqW g2,⟨(by omega:a3.length≤140737488351232),g3⟩⟩⟩
def ZE.mk_(k:Int)(x:ZE):ZE:=⟨Hy (k),k+1,k+1+1,ZD.mks (k+1+1+1) x.fCode⟩
def ZE.ct(x:ZE):Int:=1+1+1+ZD.cts x.fCode
theorem ZE.ct_nn(x:ZE):1≤x.ct:=by
 unfold ZE.ct;have:=ZD.cts_nn x.fCode;omega
def ZE.mks:Int→List ZE→List ZE
 |_,[]=>[]
 |k,x::xs=>ZE.mk_ k x::ZE.mks (k+x.ct) xs
def ZE.cts:List ZE→Int
 |[]=>0
 |x::xs=>x.ct+ZE.cts xs
theorem ZE.cts_nn:∀xs:List ZE,(xs.length:Int)≤ZE.cts xs
 |[]=>by simp[ZE.cts]
 |x::xs=>by simp only[ZE.cts,lc];have:=x.ct_nn;have:=ZE.cts_nn xs;omega
theorem ZE.mks_len:∀(k:Int) (xs:List ZE),(ZE.mks k xs).length=xs.length
 |_,[]=>rfl
 |k,x::xs=>by simp[ZE.mks,ZE.mks_len (k+x.ct) xs]
theorem ZE.ct_le(x:ZE):x.ct≤64+64*x.sz:=by
 unfold ZE.ct ZE.sz;have:=ZD.cts_le x.fCode;have:=ZD.szs_nn x.fCode;omega
theorem ZE.cts_le:∀xs:List ZE,ZE.cts xs≤64*ZE.szs xs
 |[]=>by simp[ZE.cts,ZE.szs,ZE.szl]
 |x::xs=>by
  have h1:=x.ct_le;have h2:=ZE.cts_le xs
  simp only[ZE.cts,ZE.szs,ZE.szl,lc] at *;omega
theorem Tm(x:ZE)(hx:x.sm):call tab E2 [x.x,x.x]=some (B true):=by
 simp only[ZE.sm] at hx
 have t0:=Tx x.fCode (by first|exact hx|exact hx.1|exact hx.2|exact hx.2.1|exact hx.2.2|exact hx.2.2.1|exact hx.2.2.2|exact hx.2.2.2.1)
 rw[aJ Xt _ rfl,Ie]
 simp -implicitDefEqProofs (disch:=first|assumption|omega|(simp only[aE,aQ,aD,i64,sa,aC,lm,la,lc,ln];omega)) only[go_sem,simprocAttr,ZE.x,t0]
theorem Dk(xs:List ZE)(hx:xs.length≤1048576∧∀y∈xs,y.sm):∀(B A:List ZE),xs=A++B →
  loopW tab [0,1,5] mO {env:=upd (upd (upd emp 5 (some (I (A.length:Int)))) 1 (some (.d (.r (xs.map ZE.r))))) 0 (some (.d (.r (xs.map ZE.r)))),heap:=emp,fr:=0,next:=0}=some (.ext 0,{env:=emp,heap:=emp,fr:=0,next:=0})
 |[],A,h=>by
  rw[List.append_nil] at h
  subst h
  unfold loopW
  conv=>lhs;arg 1;unfold mO
  have hx':=hx.1
  simp -implicitDefEqProofs (disch:=first|assumption|omega|(simp only[aE,aQ,aD,i64,sa,aC,lm,la,lc,ln];omega)) only[go_sem,simprocAttr]
 |x::B,A,h=>by
  unfold loopW
  conv=>lhs;arg 1;unfold mO
  have hl:xs.length=A.length+(B.length+1):=by rw[h];simp
  have h2:(xs.map ZE.r)[A.length]? = some x.r:=by rw[h];simp
  have hx':=hx.1
  have hto:=Tm x (hx.2 x (by rw[h];simp))
  have ih:=Dk xs hx B (A++[x]) (by simp[h])
  rw[show(((A++[x]).length:Nat):Int)=(A.length:Int)+1 by simp] at ih
  simp only[ZE.r] at h2
  simp only[ZE.x] at hto
  simp -implicitDefEqProofs (disch:=first|assumption|omega|(simp only[aE,aQ,aD,i64,sa,aC,lm,la,lc,ln];omega)) only[go_sem,simprocAttr,h2,hto,ih]
theorem Rc(xs:List ZE)(hx:xs.length≤1048576∧∀y∈xs,y.sm):call tab pY [.d (.r (xs.map ZE.r)),.d (.r (xs.map ZE.r))]=some (B true):=by
 rw[aJ Tj _ rfl,Fm]
 have hl:=Dk xs hx xs [] rfl
 have hx':=hx.1
 simp only[ln,Int.cast_ofNat_Int] at hl
 simp -implicitDefEqProofs (disch:=first|assumption|omega|(simp only[aE,aQ,aD,i64,sa,aC,lm,la,lc,ln];omega)) only[go_sem,simprocAttr,hl]
set_option maxRecDepth 8000
set_option maxHeartbeats 4000000
theorem xK:∀(B A:List ZE) (k:Int),(A.length:Int)+ZE.cts B≤1099511627776→0≤k∧k+ZE.cts B≤4611686018427387904 →
  loopW tab [0,1,5] j6 {env:=upd (upd (upd emp 5 (some (I (A.length:Int)))) 1 (some (I k))) 0 (some (.ref (0,0) [])),heap:=upd emp (0,0) (some (.s 4 (A.map ZE.o++B.map ZE.o))),fr:=1,next:=0}=some (.ext 0,{env:=upd emp 1 (some (I (k+ZE.cts B))),heap:=upd emp (0,0) (some (.s 4 (A.map ZE.o++(ZE.mks k B).map ZE.o))),fr:=1,next:=0})
 |[],A,k,h,hk=>by
  unfold loopW
  conv=>lhs;arg 1;unfold j6
  simp only[ZE.cts] at h hk
  simp -implicitDefEqProofs (disch:=first|assumption|omega|(simp only[aE,aQ,aD,i64,sa,aC,lm,la,lc,ln];omega)) only[go_sem,simprocAttr,ZE.cts,ZE.mks,mn,List.append_nil,Int.add_zero]
 |x::B,A,k,h,hk=>by
  unfold loopW
  conv=>lhs;arg 1;unfold j6
  simp only[ZE.cts] at h hk
  have h1:=x.ct_nn
  have h0:=ZE.cts_nn B
  have ih:=xK B (A++[x.mk_ k]) (k+x.ct) (by simp;omega) (by omega)
  rw[show(((A++[x.mk_ k]).length:Nat):Int)=(A.length:Int)+1 by simp,show k+x.ct+ZE.cts B=k+ZE.cts (x::B) by simp only[ZE.cts];omega] at ih
  simp only[List.map_append,mc,mn,List.append_assoc,List.cons_append,List.nil_append] at ih
  simp only[ZE.mks,mc]
  have hm:ZE.o (x.mk_ k)=[DS (Hy (k)),DI (k+1),DI (k+1+1),.s 7 ((ZD.mks (k+1+1+1) x.fCode).map ZD.o)]:=rfl
  have hkx:k+x.ct=k+1+1+1+ZD.cts x.fCode:=by unfold ZE.ct;omega
  rw[hm,hkx] at ih
  rw[hm,hkx]
  have n0:=ZD.cts_nn x.fCode
  unfold ZE.ct at hk h0
  have f0:=Nf x.fCode (k+1+1+1) (by omega) (by omega)
  simp -implicitDefEqProofs (disch:=first|assumption|omega|(simp only[aE,aQ,aD,i64,sa,aC,lm,la,lc,ln];omega)) only[go_sem,simprocAttr,ZE.o,lc,qW,qX,qY,f0,eW,ih]
theorem Lx(xs:List ZE)(k:Int)(h:ZE.cts xs≤1099511627776)(hk:0≤k∧k+ZE.cts xs≤4611686018427387904):evCW tab wC [.ref (0,0) [],I k] (upd emp (0,0) (some (.s 4 (xs.map ZE.o)))) 1=some (I (k+ZE.cts xs),upd emp (0,0) (some (.s 4 ((ZE.mks k xs).map ZE.o)))):=by
 rw[aP Nr _ _ _ rfl,Aa]
 have hl:=xK xs [] k (by simpa using h) hk
 simp only[mn,List.nil_append,ln,Int.cast_ofNat_Int] at hl
 simp -implicitDefEqProofs (disch:=first|assumption|omega|(simp only[aE,aQ,aD,i64,sa,aC,lm,la,lc,ln];omega)) only[go_sem,simprocAttr,hl]
theorem xF(full:List (List D)):∀(B A:List ZE) (k:Int),full=A.map ZE.r++(ZE.mks k B).map ZE.r→(A.length:Int)+ZE.cts B≤1099511627776→0≤k∧k+ZE.cts B≤4611686018427387904 →
  loopW tab [0,1,5] kL {env:=upd (upd (upd emp 5 (some (I (A.length:Int)))) 1 (some (I k))) 0 (some (.d (.r full))),heap:=emp,fr:=0,next:=0}=some (.ext 0,{env:=upd emp 1 (some (I (k+ZE.cts B))),heap:=emp,fr:=0,next:=0})
 |[],A,k,hf,h,hk=>by
  subst hf
  unfold loopW
  conv=>lhs;arg 1;unfold kL
  simp only[ZE.cts] at h hk
  simp -implicitDefEqProofs (disch:=first|assumption|omega|(simp only[aE,aQ,aD,i64,sa,aC,lm,la,lc,ln];omega)) only[go_sem,simprocAttr,ZE.cts,ZE.mks,mn,List.append_nil,Int.add_zero]
 |x::B,A,k,hf,h,hk=>by
  simp only[ZE.cts] at h hk
  have h1:=x.ct_nn
  have h0:=ZE.cts_nn B
  have ih:=xF full B (A++[x.mk_ k]) (k+x.ct) (by rw[hf];simp[ZE.mks]) (by simp;omega) (by omega)
  unfold loopW
  conv=>lhs;arg 1;unfold kL
  have hlen:=ZE.mks_len k (x::B)
  have h2:full[A.length]? = some (ZE.r (x.mk_ k)):=by rw[hf];simp[ZE.mks]
  have h3:full.length=A.length+(B.length+1):=by rw[hf,la,lm,lm,hlen,lc]
  clear hf
  rw[show(((A++[x.mk_ k]).length:Nat):Int)=(A.length:Int)+1 by simp,show k+x.ct+ZE.cts B=k+ZE.cts (x::B) by simp only[ZE.cts];omega] at ih
  have hm:ZE.r (x.mk_ k)=[DS (Hy (k)),DI (k+1),DI (k+1+1),.r ((ZD.mks (k+1+1+1) x.fCode).map ZD.r)]:=rfl
  have hkx:k+x.ct=k+1+1+1+ZD.cts x.fCode:=by unfold ZE.ct;omega
  rw[hkx] at ih
  rw[hm] at h2
  have n0:=ZD.cts_nn x.fCode
  unfold ZE.ct at hk h0
  have f0:=Nt x.fCode (k+1+1+1) (by omega) (by omega)
  simp -implicitDefEqProofs (disch:=first|assumption|omega|(simp only[aE,aQ,aD,i64,sa,aC,lm,la,lc,ln];omega)) only[go_sem,simprocAttr,h2,h3,f0,eW,ih]
theorem K1(xs:List ZE)(k:Int)(h:ZE.cts xs≤1099511627776)(hk:0≤k∧k+ZE.cts xs≤4611686018427387904):call tab pV [.d (.r ((ZE.mks k xs).map ZE.r)),I k]=some (I (k+ZE.cts xs)):=by
 rw[aJ M9 _ rfl,As]
 have hl:=xF _ xs [] k rfl (by simpa using h) hk
 simp only[mn,List.nil_append,ln,Int.cast_ofNat_Int] at hl
 simp -implicitDefEqProofs (disch:=first|assumption|omega|(simp only[aE,aQ,aD,i64,sa,aC,lm,la,lc,ln];omega)) only[go_sem,simprocAttr,hl]
end Go.Ev.G
