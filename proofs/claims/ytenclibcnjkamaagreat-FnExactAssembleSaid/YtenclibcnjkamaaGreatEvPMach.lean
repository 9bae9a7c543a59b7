import Derived.Test.YtenclibcnjkamaaGreatEvQText
set_option linter.all false
namespace Go.Ev.G
set_option maxRecDepth 8000
set_option maxHeartbeats 4000000
structure ZA where
 fOp:Int
 fR:Int
 fA:Int
 fB:Int
 fN:Int
 fM:Int
def ZA.r(x:ZA):List D:=[DI x.fOp,DI x.fR,DI x.fA,DI x.fB,DI x.fN,DI x.fM]
def ZA.o(x:ZA):List D:=[DI x.fOp,DI x.fR,DI x.fA,DI x.fB,DI x.fN,DI x.fM]
abbrev ZA.x(x:ZA):X:= .agg [I x.fOp,I x.fR,I x.fA,I x.fB,I x.fN,I x.fM]
abbrev ZA.xo(x:ZA):X:= .agg [I x.fOp,I x.fR,I x.fA,I x.fB,I x.fN,I x.fM]
theorem ZA.fzl(x:ZA):fzl x.o=x.r:=by simp only[ZA.o,ZA.r,Ev.fzl,D.fz,cM]
theorem ZA.fzlr(x:ZA):Ev.fzl x.r=x.r:=by simp only[ZA.r,Ev.fzl,D.fz,cM]
theorem ZA.fzs(xs:List ZA):fzs (xs.map ZA.o)=xs.map ZA.r:=mP _ _ ZA.fzl xs
theorem ZA.fzr(xs:List ZA):Ev.fzs (xs.map ZA.r)=xs.map ZA.r:=mP _ _ ZA.fzlr xs
theorem ZA.noR(xs:List ZA):D.noR.noRss (xs.map ZA.o)=true:=n7 _ (fun x=>by simp only[ZA.o,D.noR.noRs,D.noR,bat,bta,Hd]) xs
def ZA.sz(x:ZA):Int:=0
def ZA.szs(xs:List ZA):Int:=xs.length
theorem ZA.szs_nn(xs:List ZA):0≤ZA.szs xs∧(xs.length:Int)≤ZA.szs xs:=by unfold ZA.szs;omega
def ZA.sm(x:ZA):Prop:=True
structure ZA.ok (x:ZA):Prop where
 fOp:i64 x.fOp
 fR:i64 x.fR
 fA:i64 x.fA
 fB:i64 x.fB
 fN:i64 x.fN
 fM:i64 x.fM
theorem ZA.fit{c:List D}(h:jV [.i .i64,.i .i64,.i .i64,.i .i64,.i .i64,.i .i64] c):∃x:ZA,c=x.r∧x.ok:=by
 simp only[jV] at h
 obtain⟨_,_,rfl,h0,_,_,rfl,h1,_,_,rfl,h2,_,_,rfl,h3,_,_,rfl,h4,_,_,rfl,h5,rfl⟩:=h
 rw[Ev.fit] at h0;obtain⟨a0,rfl,g0⟩:=h0
 rw[Ev.fit] at h1;obtain⟨a1,rfl,g1⟩:=h1
 rw[Ev.fit] at h2;obtain⟨a2,rfl,g2⟩:=h2
 rw[Ev.fit] at h3;obtain⟨a3,rfl,g3⟩:=h3
 rw[Ev.fit] at h4;obtain⟨a4,rfl,g4⟩:=h4
 rw[Ev.fit] at h5;obtain⟨a5,rfl,g5⟩:=h5
 exact⟨⟨a0,a1,a2,a3,a4,a5⟩,rfl,⟨xJ g0,xJ g1,xJ g2,xJ g3,xJ g4,xJ g5⟩⟩
def ZA.mk_(k:Int)(x:ZA):ZA:=⟨k,k+1,k+1+1,k+1+1+1,k+1+1+1+1,k+1+1+1+1+1⟩
def ZA.ct(x:ZA):Int:=1+1+1+1+1+1
theorem ZA.ct_nn(x:ZA):1≤x.ct:=by
 unfold ZA.ct;omega
def ZA.mks:Int→List ZA→List ZA
 |_,[]=>[]
 |k,x::xs=>ZA.mk_ k x::ZA.mks (k+x.ct) xs
def ZA.cts:List ZA→Int
 |[]=>0
 |x::xs=>x.ct+ZA.cts xs
theorem ZA.cts_nn:∀xs:List ZA,(xs.length:Int)≤ZA.cts xs
 |[]=>by simp[ZA.cts]
 |x::xs=>by simp only[ZA.cts,lc];have:=x.ct_nn;have:=ZA.cts_nn xs;omega
theorem ZA.mks_len:∀(k:Int) (xs:List ZA),(ZA.mks k xs).length=xs.length
 |_,[]=>rfl
 |k,x::xs=>by simp[ZA.mks,ZA.mks_len (k+x.ct) xs]
theorem ZA.ct_le(x:ZA):x.ct≤64+64*x.sz:=by
 unfold ZA.ct ZA.sz;omega
theorem ZA.cts_le:∀xs:List ZA,ZA.cts xs≤64*ZA.szs xs
 |[]=>by simp[ZA.cts,ZA.szs]
 |x::xs=>by
  have h1:=x.ct_le;have h2:=ZA.cts_le xs
  have h3:x.sz=0:=rfl
  simp only[ZA.cts,ZA.szs,lc] at *;omega
theorem Tc(x:ZA)(hx:x.sm):call tab yU [x.x,x.x]=some (B true):=by
 rw[aT Vs _ rfl,Hh]
 simp -implicitDefEqProofs (disch:=first|assumption|omega|(simp only[aE,aL,aF,i64,sa,aB,lm,la,lc,ln];omega)) only[go_sem,simprocAttr,ZA.x]
theorem J9(v0:Int)(v1:Int)(v2:Int)(v3:Int)(v4:Int)(v5:Int):call tab yU [.agg [I v0,I v1,I v2,I v3,I v4,I v5],.agg [I v0,I v1,I v2,I v3,I v4,I v5]]=some (B true):=Tc ⟨v0,v1,v2,v3,v4,v5⟩ trivial
set_option maxRecDepth 8000
set_option maxHeartbeats 4000000
structure ZB where
 fName:ByteArray
 fX:ZA
 fTo:ByteArray
def ZB.r(x:ZB):List D:=[DS x.fName,DI x.fX.fOp,DI x.fX.fR,DI x.fX.fA,DI x.fX.fB,DI x.fX.fN,DI x.fX.fM,DS x.fTo]
def ZB.o(x:ZB):List D:=[DS x.fName,DI x.fX.fOp,DI x.fX.fR,DI x.fX.fA,DI x.fX.fB,DI x.fX.fN,DI x.fX.fM,DS x.fTo]
abbrev ZB.x(x:ZB):X:= .agg [Str x.fName,I x.fX.fOp,I x.fX.fR,I x.fX.fA,I x.fX.fB,I x.fX.fN,I x.fX.fM,Str x.fTo]
abbrev ZB.xo(x:ZB):X:= .agg [Str x.fName,I x.fX.fOp,I x.fX.fR,I x.fX.fA,I x.fX.fB,I x.fX.fN,I x.fX.fM,Str x.fTo]
theorem ZB.fzl(x:ZB):fzl x.o=x.r:=by simp only[ZB.o,ZB.r,Ev.fzl,D.fz,cM]
theorem ZB.fzlr(x:ZB):Ev.fzl x.r=x.r:=by simp only[ZB.r,Ev.fzl,D.fz,cM]
theorem ZB.fzs(xs:List ZB):fzs (xs.map ZB.o)=xs.map ZB.r:=mP _ _ ZB.fzl xs
theorem ZB.fzr(xs:List ZB):Ev.fzs (xs.map ZB.r)=xs.map ZB.r:=mP _ _ ZB.fzlr xs
theorem ZB.noR(xs:List ZB):D.noR.noRss (xs.map ZB.o)=true:=n7 _ (fun x=>by simp only[ZB.o,D.noR.noRs,D.noR,bat,bta,Hd]) xs
def ZB.sz(x:ZB):Int:=(x.fName.size:Int)+(x.fTo.size:Int)
theorem ZB.sz_nn(x:ZB):0≤x.sz:=by
 unfold ZB.sz;omega
def ZB.szl:List ZB→Int
 |[]=>0
 |x::xs=>x.sz+ZB.szl xs
def ZB.szs(xs:List ZB):Int:=xs.length+ZB.szl xs
theorem ZB.szl_nn:∀xs:List ZB,0≤ZB.szl xs
 |[]=>by simp[ZB.szl]
 |x::xs=>by simp only[ZB.szl];have:=x.sz_nn;have:=ZB.szl_nn xs;omega
theorem ZB.szs_nn(xs:List ZB):0≤ZB.szs xs∧(xs.length:Int)≤ZB.szs xs:=by have:=ZB.szl_nn xs;unfold ZB.szs;omega
theorem ZB.sz_le:∀{xs:List ZB} {x:ZB},x∈xs→x.sz≤ZB.szl xs
 |y::xs,x,h=>by
  simp only[ZB.szl]
  have h1:=y.sz_nn;have h2:=ZB.szl_nn xs
  rcases List.mem_cons.1 h with rfl|h
  ·omega
  ·have:=ZB.sz_le h;omega
def ZB.sm(x:ZB):Prop:=x.fName.size≤1048576∧x.fTo.size≤1048576
theorem ZB.sm_of{x:ZB}(h:x.sz≤1048576):x.sm:=by
 unfold ZB.sz at h
 unfold ZB.sm
 exact⟨by omega,by omega⟩
theorem ZB.sms_of{xs:List ZB}(h:ZB.szs xs≤1048576):xs.length≤1048576∧∀y∈xs,y.sm:=by
 have:=ZB.szl_nn xs
 unfold ZB.szs at h
 exact⟨by omega,fun y hy=>ZB.sm_of (by have:=ZB.sz_le hy;omega)⟩
structure ZB.ok (x:ZB):Prop where
 fName:x.fName.size≤140737488351232
 fX:x.fX.ok
 fTo:x.fTo.size≤140737488351232
theorem ZB.fit{c:List D}(h:jV [.s,.i .i64,.i .i64,.i .i64,.i .i64,.i .i64,.i .i64,.s] c):∃x:ZB,c=x.r∧x.ok:=by
 simp only[jV] at h
 obtain⟨_,_,rfl,h0,_,_,rfl,h1,_,_,rfl,h2,_,_,rfl,h3,_,_,rfl,h4,_,_,rfl,h5,_,_,rfl,h6,_,_,rfl,h7,rfl⟩:=h
 rw[Ev.fit] at h0;obtain⟨a0,rfl,g0⟩:=h0
 rw[Ev.fit] at h1;obtain⟨a1,rfl,g1⟩:=h1
 rw[Ev.fit] at h2;obtain⟨a2,rfl,g2⟩:=h2
 rw[Ev.fit] at h3;obtain⟨a3,rfl,g3⟩:=h3
 rw[Ev.fit] at h4;obtain⟨a4,rfl,g4⟩:=h4
 rw[Ev.fit] at h5;obtain⟨a5,rfl,g5⟩:=h5
 rw[Ev.fit] at h6;obtain⟨a6,rfl,g6⟩:=h6
 rw[Ev.fit] at h7;obtain⟨a7,rfl,g7⟩:=h7
 exact⟨⟨a0,⟨a1,a2,a3,a4,a5,a6⟩,a7⟩,rfl,⟨g0,⟨xJ g1,xJ g2,xJ g3,xJ g4,xJ g5,xJ g6⟩,g7⟩⟩
def ZB.mk_(k:Int)(x:ZB):ZB:=⟨Hl (k),⟨k+1,k+1+1,k+1+1+1,k+1+1+1+1,k+1+1+1+1+1,k+1+1+1+1+1+1⟩,Hl (k+1+1+1+1+1+1+1)⟩
def ZB.ct(x:ZB):Int:=1+1+1+1+1+1+1+1
theorem ZB.ct_nn(x:ZB):1≤x.ct:=by
 unfold ZB.ct;omega
def ZB.mks:Int→List ZB→List ZB
 |_,[]=>[]
 |k,x::xs=>ZB.mk_ k x::ZB.mks (k+x.ct) xs
def ZB.cts:List ZB→Int
 |[]=>0
 |x::xs=>x.ct+ZB.cts xs
theorem ZB.cts_nn:∀xs:List ZB,(xs.length:Int)≤ZB.cts xs
 |[]=>by simp[ZB.cts]
 |x::xs=>by simp only[ZB.cts,lc];have:=x.ct_nn;have:=ZB.cts_nn xs;omega
theorem ZB.mks_len:∀(k:Int) (xs:List ZB),(ZB.mks k xs).length=xs.length
 |_,[]=>rfl
 |k,x::xs=>by simp[ZB.mks,ZB.mks_len (k+x.ct) xs]
theorem ZB.ct_le(x:ZB):x.ct≤64+64*x.sz:=by
 unfold ZB.ct ZB.sz;omega
theorem ZB.cts_le:∀xs:List ZB,ZB.cts xs≤64*ZB.szs xs
 |[]=>by simp[ZB.cts,ZB.szs,ZB.szl]
 |x::xs=>by
  have h1:=x.ct_le;have h2:=ZB.cts_le xs
  simp only[ZB.cts,ZB.szs,ZB.szl,lc] at *;omega
theorem u7:∀(B A:List ZB) (k:Int),(A.length:Int)+ZB.cts B≤1099511627776→0≤k∧k+ZB.cts B≤4611686018427387904 →
  loopW tab [0,1,5] jQ {env:=upd (upd (upd emp 5 (some (I (A.length:Int)))) 1 (some (I k))) 0 (some (.ref (0,0) [])),heap:=upd emp (0,0) (some (.s 8 (A.map ZB.o++B.map ZB.o))),fr:=1,next:=0}=some (.ext 0,{env:=upd emp 1 (some (I (k+ZB.cts B))),heap:=upd emp (0,0) (some (.s 8 (A.map ZB.o++(ZB.mks k B).map ZB.o))),fr:=1,next:=0})
 |[],A,k,h,hk=>by
  unfold loopW
  conv=>lhs;arg 1;unfold jQ
  simp only[ZB.cts] at h hk
  simp -implicitDefEqProofs (disch:=first|assumption|omega|(simp only[aE,aL,aF,i64,sa,aB,lm,la,lc,ln];omega)) only[go_sem,simprocAttr,ZB.cts,ZB.mks,mn,zqe,Int.add_zero]
 |x::B,A,k,h,hk=>by
  unfold loopW
  conv=>lhs;arg 1;unfold jQ
  simp only[ZB.cts] at h hk
  have h1:=x.ct_nn
  have h0:=ZB.cts_nn B
  have ih:=u7 B (A++[x.mk_ k]) (k+x.ct) (by simp;omega) (by omega)
  rw[show(((A++[x.mk_ k]).length:Nat):Int)=(A.length:Int)+1 by simp,show k+x.ct+ZB.cts B=k+ZB.cts (x::B) by simp only[ZB.cts];omega] at ih
  simp only[List.map_append,mc,mn,zqc,List.cons_append,zqf] at ih
  simp only[ZB.mks,mc]
  have hm:ZB.o (x.mk_ k)=[DS (Hl (k)),DI (k+1),DI (k+1+1),DI (k+1+1+1),DI (k+1+1+1+1),DI (k+1+1+1+1+1),DI (k+1+1+1+1+1+1),DS (Hl (k+1+1+1+1+1+1+1))]:=rfl
  have hkx:k+x.ct=k+1+1+1+1+1+1+1+1:=by unfold ZB.ct;omega
  rw[hm,hkx] at ih
  rw[hm,hkx]
  unfold ZB.ct at hk h0
  simp -implicitDefEqProofs (disch:=first|assumption|omega|(simp only[aE,aL,aF,i64,sa,aB,lm,la,lc,ln];omega)) only[go_sem,simprocAttr,ZB.o,lc,yI,yL,zU,l5,ih]
theorem Hw(xs:List ZB)(k:Int)(h:ZB.cts xs≤1099511627776)(hk:0≤k∧k+ZB.cts xs≤4611686018427387904):evCW tab tT [.ref (0,0) [],I k] (upd emp (0,0) (some (.s 8 (xs.map ZB.o)))) 1=some (I (k+ZB.cts xs),upd emp (0,0) (some (.s 8 ((ZB.mks k xs).map ZB.o)))):=by
 rw[aR Ju _ _ _ rfl,xP]
 have hl:=u7 xs [] k (by simpa using h) hk
 simp only[mn,zqf,ln,Int.cast_ofNat_Int] at hl
 simp -implicitDefEqProofs (disch:=first|assumption|omega|(simp only[aE,aL,aF,i64,sa,aB,lm,la,lc,ln];omega)) only[go_sem,simprocAttr,hl]
set_option maxRecDepth 8000
set_option maxHeartbeats 4000000
abbrev noS:ByteArray:=⟨#[]⟩
set_option maxRecDepth 8000
set_option maxHeartbeats 4000000
def inB(x lo hi:Int):Bool:=decide (lo≤x)&&decide (x≤hi)
theorem d3(x lo hi:Int):call tab eU [I x,I lo,I hi]=some (B (inB x lo hi)):=by
 rw[Iy,inB]
theorem Ph(n:Int):call tab uS [I n]=some (B (inB n (-2147483648) 2147483647)):=by
 rw[aT Sn _ rfl,Ft]
 simp -implicitDefEqProofs (disch:=first|assumption|omega|(simp only[aE,aL,aF,i64,sa,aB,lm,la,lc,ln];omega)) only[go_sem,simprocAttr,Iy,inB]
def jC(h m:Int):Bool:= !decide (bits .and .i64 h m=0)
theorem dP(x lo hi:Int):call tab dT [I x,I lo,I hi]=some (B (inB x lo hi)):=by
 rw[Cp,inB]
theorem O2(n:Int):call tab uW [I n]=some (B (inB n (-2147483648) 2147483647)):=by
 rw[aT Sd _ rfl,Fs]
 simp -implicitDefEqProofs (disch:=first|assumption|omega|(simp only[aE,aL,aF,i64,sa,aB,lm,la,lc,ln];omega)) only[go_sem,simprocAttr,Cp,inB]
set_option maxRecDepth 8000
set_option maxHeartbeats 4000000
set_option maxRecDepth 8000
set_option maxHeartbeats 4000000
set_option maxRecDepth 8000
set_option maxHeartbeats 4000000
set_option maxRecDepth 8000
set_option maxHeartbeats 4000000
set_option maxRecDepth 8000
set_option maxHeartbeats 4000000
set_option maxRecDepth 8000
set_option maxHeartbeats 4000000
def zQi(n:Int):Bool:=inB n (-2147483648) 2147483647
theorem Sk(n:Int):call tab uS [I n]=some (B (zQi n)):=Ph n
theorem Rp(n:Int):call tab uW [I n]=some (B (zQi n)):=O2 n
theorem zvg(fr k:Nat)(h:Heap)(x:Option D):cC (fr+1) (upd h (0,k) x)=upd (cC (fr+1) h) (0,k) x:=by
 funext id
 simp only[cC,upd]
 by_cases e:id=(0,k)
 ·subst e;simp
 ·simp[e]
theorem zX0{α:Type}(p:α→Bool)(l:List α):(l.any fun x=> !p x)= !l.all p:=by
 induction l with
 |nil=>rfl
 |cons x l ih=>simp[List.any_cons,List.all_cons,ih,Bool.not_and]
end Go.Ev.G
