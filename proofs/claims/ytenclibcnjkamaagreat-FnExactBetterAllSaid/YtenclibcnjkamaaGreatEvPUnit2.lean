import Derived.Test.YtenclibcnjkamaaGreatEvQUnit2
import Derived.Test.YtenclibcnjkamaaGreatEvPMach
set_option linter.all false
namespace Go.Ev.G
set_option maxRecDepth 8000
set_option maxHeartbeats 4000000
def zX3:List Int:=[0,9,3,7,7,7,7,7,8,8,10,49,2,2,48,3,6,3,2,45,3,6,39,1,17,2,6,6,2]
def Ct(op:Int):Int:=if 1≤op∧op≤28 then(zX3[op.toNat]?).getD 0 else 0
theorem M6{op:Int}(h:1≤op)(h2:op≤28):op=1∨op=2∨op=3∨op=4∨op=5∨op=6∨op=7∨op=8∨op=9∨op=10∨op=11∨op=12∨op=13∨op=14∨op=15∨op=16∨op=17∨op=18∨op=19∨op=20∨op=21∨op=22∨op=23∨op=24∨op=25∨op=26∨op=27∨op=28:=by omega
theorem cF(op:Int):call tab l7 [I op]=some (I (Ct op)):=by
 rw[aQ Pi _ rfl,C1]
 have h3:=dC op 1 28
 by_cases h:1≤op∧op≤28
 ·obtain⟨h1,h2⟩:=h
  have h4:inB op 1 28=true:=by simp[inB,h1,h2]
  rw[h4] at h3
  rw[Ct,if_pos ⟨h1,h2⟩]
  rcases M6 h1 h2 with rfl|rfl|rfl|rfl|rfl|rfl|rfl|rfl|rfl|rfl|rfl|rfl|rfl|rfl|rfl|rfl|rfl|rfl|rfl|rfl|rfl|rfl|rfl|rfl|rfl|rfl|rfl|rfl<;>simp -implicitDefEqProofs (disch:=first|assumption|omega|(simp only[aE,aF,aD,i64,sa,aB,lm,la,lc,ln];omega)) only[go_sem,simprocAttr,h3,zX3]
 ·have h4:inB op 1 28=false:=by simp only[inB,←Bool.decide_and];exact decide_eq_false h
  rw[h4] at h3
  rw[Ct,if_neg h]
  simp -implicitDefEqProofs (disch:=first|assumption|omega|(simp only[aE,aF,aD,i64,sa,aB,lm,la,lc,ln];omega)) only[go_sem,simprocAttr,h3]
def hb(x:ZA)(m:Int):Bool:=zYj (Ct x.fOp) m
theorem Ap(x:ZA)(m:Int):decide (bits .and .i64 (Ct x.fOp) m=0)= !hb x m:=by simp[hb,zYj]
def aY(x:ZA):List Int:=(if hb x 1=true then [x.fD] else [])++(if x.fOp=19 then [x.fB] else [])
theorem wG(x:ZA):call tab mE [x.x]=some (.d (.s 1 (aP (aY x)))):=by
 rw[aQ Ib _ rfl,Aw,aY]
 have e:=Ap x 1
 (repeat'(first|simp -implicitDefEqProofs (disch:=first|assumption|omega|(simp only[aE,aF,aD,i64,sa,aB,lm,la,lc,ln];omega)) only[go_sem,simprocAttr,cF,e,mc,mn]|((first|rw[aM]|rw[aI]|rw[aH]|rw[aO]|rw[aL]|rw[aJ]|rw[aG]|rw[aN]|skip);split)))
def Gf(args:List Int)(i:Nat):Bool:=decide (i % 3=1)||(decide (i % 3=2)&&decide (args[i-2]? = some 2))
def jA(x:ZA):Nat→List Int→List Int
 |_,[]=>[]
 |q,y::ys=>(if (!decide (x.fOp=19)||Gf x.fArgs q)=true then [y] else [])++jA x (q+1) ys
theorem wE(x:ZA)(hl:x.fArgs.length≤1048576)(h32:hb x 32=true):∀(Bl:List Int) (j:Nat) (A:List Int),x.fArgs.drop j=Bl→A.length≤j+2 →
  loopW tab [1,3,4,5] iP {env:=upd (upd (upd (upd emp 5 (some (I (j:Int)))) 4 (some (I (Ct x.fOp)))) 3 (some (.ref (0,0) []))) 1 (some (.vp [I x.fOp,I x.fD,I x.fA,I x.fB,I x.fN,Str x.fS,.d (.r (aP x.fArgs))])),heap:=upd emp (0,0) (some (.s 1 (aP A))),fr:=0,next:=1}=some (.ext 0,{env:=upd emp 3 (some (.ref (0,0) [])),heap:=upd emp (0,0) (some (.s 1 (aP (A++jA x j Bl)))),fr:=0,next:=1})
 |[],j,A,hd,hA=>by
  have hd2:x.fArgs.drop ((j:Int)).toNat=[]:=by simpa using hd
  have hj:(0:Int)≤j:=by omega
  unfold loopW
  conv=>lhs;arg 1;unfold iP
  have h1:=dW hd2 hj
  (repeat'(first|simp -implicitDefEqProofs (disch:=first|assumption|omega|(simp only[aE,aF,aD,i64,sa,aB,lm,la,lc,ln];omega)) only[go_sem,simprocAttr,jA,zqe]|((first|rw[aM]|rw[aI]|rw[aH]|rw[aO]|rw[aL]|rw[aJ]|rw[aG]|rw[aN]|skip);split)))
 |y::Bl,j,A,hd,hA=>by
  have hd2:x.fArgs.drop ((j:Int)).toNat=y::Bl:=by simpa using hd
  have hj:(0:Int)≤j:=by omega
  unfold loopW
  conv=>lhs;arg 1;unfold iP
  have h1:=b7 hd2 hj
  have h5:=h1.2.1
  have h2:=kH (fun n=>[DI n]) h1.1
  simp only[Int.toNat_natCast] at h2
  have h3:x.fArgs.drop (j+1)=Bl:=by have:=h1.2.2.1;rwa [show((j:Int)+1).toNat=j+1 by omega] at this
  have e:=Ap x 32
  have m1:((j:Int)).tmod 3=((j % 3:Nat):Int):=by have:=Ci (n:=(j:Int)) (by omega) 3;simpa using this
  have ih1:=wE x hl h32 Bl (j+1) (A++[y]) h3 (by simp;omega)
  have ih2:=wE x hl h32 Bl (j+1) A h3 (by omega)
  rw[show((j+1:Nat):Int)=(j:Int)+1 by omega] at ih1 ih2
  rw[jA,←List.append_assoc]
  simp only[List.map_append,mc,mn] at ih1 ih2 ⊢
  by_cases c0:x.fOp=19
  ·have k0:decide (x.fOp=19)=true:=decide_eq_true c0
   simp only[k0,Bool.not_true,Bool.false_or,Gf]
   rcases (by omega:j % 3=0∨j % 3=1∨j % 3=2) with c1|c1|c1
   ·simp only[c1] at m1 ⊢
    (repeat'(first|simp -implicitDefEqProofs (disch:=first|assumption|omega|(simp only[aE,aF,aD,i64,sa,aB,lm,la,lc,ln];omega)) only[go_sem,simprocAttr,h2,e,h32,m1,ih2]|((first|rw[aM]|rw[aI]|rw[aH]|rw[aO]|rw[aL]|rw[aJ]|rw[aG]|rw[aN]|skip);split)))
   ·simp only[c1] at m1 ⊢
    (repeat'(first|simp -implicitDefEqProofs (disch:=first|assumption|omega|(simp only[aE,aF,aD,i64,sa,aB,lm,la,lc,ln];omega)) only[go_sem,simprocAttr,h2,e,h32,m1,ih1]|((first|rw[aM]|rw[aI]|rw[aH]|rw[aO]|rw[aL]|rw[aJ]|rw[aG]|rw[aN]|skip);split)))
   ·simp only[c1] at m1 ⊢
    have hj2:j-2<x.fArgs.length:=by omega
    obtain⟨v,hv,hv2⟩:=zYu x.fArgs (j:=(j:Int)-2) (by omega) (by omega)
    rw[show((j:Int)-2).toNat=j-2 by omega] at hv2
    by_cases c2:v=2
    ·subst c2
     simp only[hv2]
     (repeat'(first|simp -implicitDefEqProofs (disch:=first|assumption|omega|(simp only[aE,aF,aD,i64,sa,aB,lm,la,lc,ln];omega)) only[go_sem,simprocAttr,h2,e,h32,m1,hv,ih1]|((first|rw[aM]|rw[aI]|rw[aH]|rw[aO]|rw[aL]|rw[aJ]|rw[aG]|rw[aN]|skip);split)))
    ·have:¬(some v=some (2:Int)):=by simpa using c2
     simp only[hv2,this]
     (repeat'(first|simp -implicitDefEqProofs (disch:=first|assumption|omega|(simp only[aE,aF,aD,i64,sa,aB,lm,la,lc,ln];omega)) only[go_sem,simprocAttr,h2,e,h32,m1,hv,c2,ih2]|((first|rw[aM]|rw[aI]|rw[aH]|rw[aO]|rw[aL]|rw[aJ]|rw[aG]|rw[aN]|skip);split)))
  ·have k0:decide (x.fOp=19)=false:=decide_eq_false c0
   simp only[k0,Bool.not_false,Bool.true_or,if_true]
   (repeat'(first|simp -implicitDefEqProofs (disch:=first|assumption|omega|(simp only[aE,aF,aD,i64,sa,aB,lm,la,lc,ln];omega)) only[go_sem,simprocAttr,h2,e,h32,ih1]|((first|rw[aM]|rw[aI]|rw[aH]|rw[aO]|rw[aL]|rw[aJ]|rw[aG]|rw[aN]|skip);split)))
def dK(x:ZA):List Int:=(if hb x 2=true then [x.fA] else [])++((if (hb x 4&& !decide (x.fOp=19))=true then [x.fB] else [])++(if hb x 32=true then jA x 0 x.fArgs else []))
theorem Od(x:ZA)(hl:x.fArgs.length≤1048576)(h32:¬hb x 32=true)(w:List (List D)) :
  loopW tab [1,3,4,5] iP {env:=upd (upd (upd (upd emp 5 (some (I 0))) 4 (some (I (Ct x.fOp)))) 3 (some (.ref (0,0) []))) 1 (some (.vp [I x.fOp,I x.fD,I x.fA,I x.fB,I x.fN,Str x.fS,.d (.r (aP x.fArgs))])),heap:=upd emp (0,0) (some (.s 1 w)),fr:=0,next:=1}=some (.ext 0,{env:=upd emp 3 (some (.ref (0,0) [])),heap:=upd emp (0,0) (some (.s 1 w)),fr:=0,next:=1}):=by
 unfold loopW
 conv=>lhs;arg 1;unfold iP
 have e:=Ap x 32
 (repeat'(first|simp -implicitDefEqProofs (disch:=first|assumption|omega|(simp only[aE,aF,aD,i64,sa,aB,lm,la,lc,ln];omega)) only[go_sem,simprocAttr,e]|((first|rw[aM]|rw[aI]|rw[aH]|rw[aO]|rw[aL]|rw[aJ]|rw[aG]|rw[aN]|skip);split)))
theorem Fi(x:ZA)(hl:x.fArgs.length≤1048576):call tab Cd [x.x]=some (.d (.s 1 (aP (dK x)))):=by
 rw[aQ V8 _ rfl,Hv,dK]
 have e2:=Ap x 2
 have e4:=Ap x 4
 have e32:=Ap x 32
 by_cases c:hb x 32=true
 ·have ih:=fun A hA=>wE x hl c x.fArgs 0 A rfl hA
  simp only[Int.cast_ofNat_Int,aP,List.map_append] at ih
  have i0:=ih [] (by simp)
  have i1:=fun a=>ih [a] (by simp)
  have i2:=fun a b=>ih [a,b] (by simp)
  simp only[mc,mn,zqf,List.cons_append] at i0 i1 i2
  simp only[c,if_true]
  cases c2:hb x 2<;>cases c4:hb x 4<;>simp only[c2,c4,bfa,bta,Bool.false_eq_true,if_true,if_false] at e2 e4 ⊢
  ·(repeat'(first|simp -implicitDefEqProofs (disch:=first|assumption|omega|(simp only[aE,aF,aD,i64,sa,aB,lm,la,lc,ln];omega)) only[go_sem,simprocAttr,cF,e2,e4,c,i0,mc,mn,aP]|((first|rw[aM]|rw[aI]|rw[aH]|rw[aO]|rw[aL]|rw[aJ]|rw[aG]|rw[aN]|skip);split)))
  ·by_cases c5:x.fOp=19
   ·(repeat'(first|simp -implicitDefEqProofs (disch:=first|assumption|omega|(simp only[aE,aF,aD,i64,sa,aB,lm,la,lc,ln];omega)) only[go_sem,simprocAttr,cF,e2,e4,c,i0,mc,mn,aP]|((first|rw[aM]|rw[aI]|rw[aH]|rw[aO]|rw[aL]|rw[aJ]|rw[aG]|rw[aN]|skip);split)))
   ·(repeat'(first|simp -implicitDefEqProofs (disch:=first|assumption|omega|(simp only[aE,aF,aD,i64,sa,aB,lm,la,lc,ln];omega)) only[go_sem,simprocAttr,cF,e2,e4,c,i1,mc,mn,aP]|((first|rw[aM]|rw[aI]|rw[aH]|rw[aO]|rw[aL]|rw[aJ]|rw[aG]|rw[aN]|skip);split)))
  ·(repeat'(first|simp -implicitDefEqProofs (disch:=first|assumption|omega|(simp only[aE,aF,aD,i64,sa,aB,lm,la,lc,ln];omega)) only[go_sem,simprocAttr,cF,e2,e4,c,i1,mc,mn,aP]|((first|rw[aM]|rw[aI]|rw[aH]|rw[aO]|rw[aL]|rw[aJ]|rw[aG]|rw[aN]|skip);split)))
  ·by_cases c5:x.fOp=19
   ·(repeat'(first|simp -implicitDefEqProofs (disch:=first|assumption|omega|(simp only[aE,aF,aD,i64,sa,aB,lm,la,lc,ln];omega)) only[go_sem,simprocAttr,cF,e2,e4,c,i1,mc,mn,aP]|((first|rw[aM]|rw[aI]|rw[aH]|rw[aO]|rw[aL]|rw[aJ]|rw[aG]|rw[aN]|skip);split)))
   ·(repeat'(first|simp -implicitDefEqProofs (disch:=first|assumption|omega|(simp only[aE,aF,aD,i64,sa,aB,lm,la,lc,ln];omega)) only[go_sem,simprocAttr,cF,e2,e4,c,i2,mc,mn,aP]|((first|rw[aM]|rw[aI]|rw[aH]|rw[aO]|rw[aL]|rw[aJ]|rw[aG]|rw[aN]|skip);split)))
 ·have i0:=Od x hl c
  simp only[c,Bool.false_eq_true,if_false,zqe]
  cases c2:hb x 2<;>cases c4:hb x 4<;>simp only[c2,c4,bfa,bta,Bool.false_eq_true,if_true,if_false] at e2 e4 ⊢ <;> (repeat'(first|simp -implicitDefEqProofs (disch:=first|assumption|omega|(simp only[aE,aF,aD,i64,sa,aB,lm,la,lc,ln];omega)) only[go_sem,simprocAttr,cF,e2,e4,i0,mc,mn,aP]|((first|rw[aM]|rw[aI]|rw[aH]|rw[aO]|rw[aL]|rw[aJ]|rw[aG]|rw[aN]|skip);split)))
def Bj(x:ZA)(m:Int):Bool:=(aY x++dK x).all fun r=>inB r 0 (m-1)
theorem yB(m:Int)(hm:i64 (m-1))(v5:List Int)(hl:v5.length≤2097152):∀(Bl:List Int) (j:Int),v5.drop j.toNat=Bl→0≤j →
  loopW tab [1,5,6] kK {env:=upd (upd (upd emp 6 (some (I j))) 5 (some (.ref (0,0) []))) 1 (some (I m)),heap:=upd emp (0,0) (some (.s 1 (aP v5))),fr:=0,next:=1}=if (Bl.all fun r=>inB r 0 (m-1))=true then some (.ext 0,{env:=emp,heap:=emp,fr:=0,next:=0}) else some (.ret,{env:=upd emp 4 (some (B false)),heap:=emp,fr:=0,next:=0})
 |[],j,hd,hj=>by
  unfold loopW
  conv=>lhs;arg 1;unfold kK
  have h1:=dW hd hj
  (repeat'(first|simp -implicitDefEqProofs (disch:=first|assumption|omega|(simp only[aE,aF,aD,i64,sa,aB,lm,la,lc,ln];omega)) only[go_sem,simprocAttr]|((first|rw[aM]|rw[aI]|rw[aH]|rw[aO]|rw[aL]|rw[aJ]|rw[aG]|rw[aN]|skip);split)))
 |y::Bl,j,hd,hj=>by
  unfold loopW
  conv=>lhs;arg 1;unfold kK
  have h1:=b7 hd hj
  have h5:=h1.2.1
  have h2:=kH (fun n=>[DI n]) h1.1
  have ih:=yB m hm v5 hl Bl (j+1) h1.2.2.1 (by omega)
  have hi:=dC y 0 (m-1)
  rw[List.all_cons]
  cases c:inB y 0 (m-1)<;>rw[c] at hi<;>(repeat'(first|simp -implicitDefEqProofs (disch:=first|assumption|omega|(simp only[aE,aF,aD,i64,sa,aB,lm,la,lc,ln];omega)) only[go_sem,simprocAttr,h2,hi,ih]|((first|rw[aM]|rw[aI]|rw[aH]|rw[aO]|rw[aL]|rw[aJ]|rw[aG]|rw[aN]|skip);split)))
theorem vT(x:ZA):(aY x).length≤2:=by
 unfold aY
 split<;>split<;>simp
theorem Qr(x:ZA):∀(q:Nat) (l:List Int),(jA x q l).length≤l.length
 |_,[]=>by simp[jA]
 |q,y::ys=>by
  have:=Qr x (q+1) ys
  rw[jA]
  split<;>simp<;>omega
theorem uJ(x:ZA):(dK x).length≤x.fArgs.length+2:=by
 unfold dK
 have:=Qr x 0 x.fArgs
 split<;>split<;>split<;>simp<;>omega
theorem Sn(l:List Int):((l.map fun n=>[DI n]).all fun el=>el.length==1)=true:=by simp
theorem Jb(x:ZA)(m:Int)(hl:x.fArgs.length≤1048576)(hm:i64 (m-1)):call tab wA [x.x,I m]=some (B (Bj x m)):=by
 rw[aQ K9 _ rfl,Bd,Bj]
 have h1:=vT x
 have h2:=uJ x
 have h0:=yB m hm (aY x++dK x) (by simp;omega) (aY x++dK x) 0 rfl (by omega)
 simp only[aP,List.map_append] at h0
 cases c:(aY x++dK x).all fun r=>inB r 0 (m-1)<;>simp only[c,Bool.false_eq_true,if_true,if_false] at h0<;>(repeat'(first|simp -implicitDefEqProofs (disch:=first|assumption|omega|(simp only[aE,aF,aD,i64,sa,aB,lm,la,lc,ln];omega)) only[go_sem,simprocAttr,wG x,Fi x hl,h0,aP,Sn]|((first|rw[aM]|rw[aI]|rw[aH]|rw[aO]|rw[aL]|rw[aJ]|rw[aG]|rw[aN]|skip);split)))
def El:List Int→Bool
 |[]=>true
 |[a]=>inB a 1 2
 |[a,_]=>inB a 1 2
 |a::_::d::r=>inB a 1 2&& !(decide (a=1)&& !decide (d=0))&&El r
theorem yN(x:ZA)(hl:x.fArgs.length≤1048576):∀(k:Nat) (Bl:List Int) (j:Int),Bl.length≤k→x.fArgs.drop j.toNat=Bl→0≤j→j≤1048580 →
  loopW tab [1,3,4] j4 {env:=upd (upd (upd emp 4 (some (I j))) 3 (some (I (x.fArgs.length:Int)))) 1 (some (.vp [I x.fOp,I x.fD,I x.fA,I x.fB,I x.fN,Str x.fS,.d (.r (aP x.fArgs))])),heap:=emp,fr:=0,next:=0}=if El Bl=true then some (.ext 1,{env:=upd emp 3 (some (I (x.fArgs.length:Int))),heap:=emp,fr:=0,next:=0}) else some (.ret,{env:=upd emp 2 (some (B false)),heap:=emp,fr:=0,next:=0})
 |_,[],j,hk,hd,hj,hj2=>by
  unfold loopW
  conv=>lhs;arg 1;unfold j4
  have h1:=dW hd hj
  (repeat'(first|simp -implicitDefEqProofs (disch:=first|assumption|omega|(simp only[aE,aF,aD,i64,sa,aB,lm,la,lc,ln];omega)) only[go_sem,simprocAttr,El]|((first|rw[aM]|rw[aI]|rw[aH]|rw[aO]|rw[aL]|rw[aJ]|rw[aG]|rw[aN]|skip);split)))
 |0,_::_,j,hk,hd,hj,hj2=>by simp at hk
 |k+1,a::Bl,j,hk,hd,hj,hj2=>by
  unfold loopW
  conv=>lhs;arg 1;unfold j4
  have h1:=b7 hd hj
  have h5:=h1.2.1
  have h2:=kH (fun n=>[DI n]) h1.1
  have hi:=dC a 1 2
  have hlen:=h1.2.2.2.2
  have hd3:x.fArgs.drop (j+3).toNat=Bl.drop 2:=by
   have:=congrArg (List.drop 2) h1.2.2.1
   rw[List.drop_drop] at this
   rw[←this]
   congr 1;omega
  have ih:=yN x hl k (Bl.drop 2) (j+3) (by simp only[lc] at hk;simp;omega) hd3 (by omega) (by omega)
  cases c:inB a 1 2<;>rw[c] at hi
  ·have e:El (a::Bl)=false:=by
    cases Bl with
    |nil=>simp[El,c]
    |cons b Bl=>cases Bl<;>simp[El,c]
   rw[e]
   (repeat'(first|simp -implicitDefEqProofs (disch:=first|assumption|omega|(simp only[aE,aF,aD,i64,sa,aB,lm,la,lc,ln];omega)) only[go_sem,simprocAttr,h2,hi]|((first|rw[aM]|rw[aI]|rw[aH]|rw[aO]|rw[aL]|rw[aJ]|rw[aG]|rw[aN]|skip);split)))
  ·match Bl,h1,hlen,hd3,ih with
   |[],h1,hlen,hd3,ih =>
    simp only[ln] at hlen
    simp only[List.drop_nil,El,if_true] at ih
    simp only[El,c,if_true]
    (repeat'(first|simp -implicitDefEqProofs (disch:=first|assumption|omega|(simp only[aE,aF,aD,i64,sa,aB,lm,la,lc,ln];omega)) only[go_sem,simprocAttr,h2,hi,ih]|((first|rw[aM]|rw[aI]|rw[aH]|rw[aO]|rw[aL]|rw[aJ]|rw[aG]|rw[aN]|skip);split)))
   |[b],h1,hlen,hd3,ih =>
    simp only[lc,ln] at hlen
    simp only[List.drop_succ_cons,List.drop_nil,El,if_true] at ih
    simp only[El,c,if_true]
    (repeat'(first|simp -implicitDefEqProofs (disch:=first|assumption|omega|(simp only[aE,aF,aD,i64,sa,aB,lm,la,lc,ln];omega)) only[go_sem,simprocAttr,h2,hi,ih]|((first|rw[aM]|rw[aI]|rw[aH]|rw[aO]|rw[aL]|rw[aJ]|rw[aG]|rw[aN]|skip);split)))
   |b::d::Bl,h1,hlen,hd3,ih =>
    simp only[lc] at hlen
    simp only[List.drop_succ_cons,List.drop_zero] at ih
    simp only[El,c,bta]
    obtain⟨v,hv,hv2⟩:=zYu x.fArgs (j:=j+2) (by omega) (by omega)
    have hvd:v=d:=by
     have h3:=congrArg (fun l=>l[1]?) h1.2.2.1
     simp only[List.getElem?_drop,List.getElem?_cons_succ,List.getElem?_cons_zero] at h3
     rw[show(j+1).toNat+1=(j+2).toNat by omega,hv2] at h3
     simpa using h3
    subst hvd
    (repeat'(first|simp -implicitDefEqProofs (disch:=first|assumption|omega|(simp only[aE,aF,aD,i64,sa,aB,lm,la,lc,ln];omega)) only[go_sem,simprocAttr,h2,hi,hv,ih]|((first|rw[aM]|rw[aI]|rw[aH]|rw[aO]|rw[aL]|rw[aJ]|rw[aG]|rw[aN]|skip);split)))
def sD(x:ZA):Bool:=if x.fOp=19 then El x.fArgs&&(decide ((x.fArgs.length:Int)=3)||decide ((x.fArgs.length:Int)=6)||decide ((x.fArgs.length:Int)=9)) else if x.fOp=22 then decide ((x.fArgs.length:Int)=1) else if x.fOp=11∨x.fOp=14 then decide ((x.fArgs.length:Int)≤4) else decide ((x.fArgs.length:Int)=0)
theorem Jw(x:ZA)(hl:x.fArgs.length≤1048576):call tab xM [x.x]=some (B (sD x)):=by
 rw[aQ Me _ rfl,zL,sD]
 have h0:=yN x hl x.fArgs.length x.fArgs 0 (Nat.le_refl _) rfl (by omega) (by omega)
 (repeat'(first|simp -implicitDefEqProofs (disch:=first|assumption|omega|(simp only[aE,aF,aD,i64,sa,aB,lm,la,lc,ln];omega)) only[go_sem,simprocAttr,h0]|((first|rw[aM]|rw[aI]|rw[aH]|rw[aO]|rw[aL]|rw[aJ]|rw[aG]|rw[aN]|skip);split)))
 all_goals clear h0
 all_goals simp_all
def Um(x:ZA)(m:Int):Bool:=inB x.fOp 1 28&&sD x&&Bj x m&&(!decide (x.fOp=19)||inB x.fN 0 1)&&zYT x.fN&&(hb x 1||decide (x.fD=0))&&(hb x 2||decide (x.fA=0))&&(hb x 4||decide (x.fB=0))&&(hb x 8||decide (x.fN=0))&&(hb x 16||decide (x.fS=⟨#[]⟩))
theorem G5(x:ZA)(m:Int)(hl:x.fArgs.length≤1048576)(hm:i64 (m-1)):call tab tQ [x.x,I m]=some (B (Um x m)):=by
 rw[aQ Jp _ rfl,yT,Um]
 have a0:=cF x.fOp
 have a1:=dC x.fOp 1 28
 have a2:=Jw x hl
 have a3:=Jb x m hl hm
 have a4:=dC x.fN 0 1
 have a5:=Ol x.fN
 have e1:=Ap x 1
 have e2:=Ap x 2
 have e4:=Ap x 4
 have e8:=Ap x 8
 have e16:=Ap x 16
 cases c1:inB x.fOp 1 28<;>rw[c1] at a1
 ·(repeat'(first|simp -implicitDefEqProofs (disch:=first|assumption|omega|(simp only[aE,aF,aD,i64,sa,aB,lm,la,lc,ln];omega)) only[go_sem,simprocAttr,a0,a1]|((first|rw[aM]|rw[aI]|rw[aH]|rw[aO]|rw[aL]|rw[aJ]|rw[aG]|rw[aN]|skip);split)))
 cases c2:sD x<;>rw[c2] at a2
 ·(repeat'(first|simp -implicitDefEqProofs (disch:=first|assumption|omega|(simp only[aE,aF,aD,i64,sa,aB,lm,la,lc,ln];omega)) only[go_sem,simprocAttr,a0,a1,a2]|((first|rw[aM]|rw[aI]|rw[aH]|rw[aO]|rw[aL]|rw[aJ]|rw[aG]|rw[aN]|skip);split)))
 cases c3:Bj x m<;>rw[c3] at a3
 ·(repeat'(first|simp -implicitDefEqProofs (disch:=first|assumption|omega|(simp only[aE,aF,aD,i64,sa,aB,lm,la,lc,ln];omega)) only[go_sem,simprocAttr,a0,a1,a2,a3]|((first|rw[aM]|rw[aI]|rw[aH]|rw[aO]|rw[aL]|rw[aJ]|rw[aG]|rw[aN]|skip);split)))
 have hn:(!decide (x.fOp=19)||inB x.fN 0 1)= !(decide (x.fOp=19)&& !inB x.fN 0 1):=by cases inB x.fN 0 1<;>simp
 rw[hn]
 by_cases c0:x.fOp=19
 ·cases c4:inB x.fN 0 1<;>rw[c4] at a4<;>have k0:decide (x.fOp=19)=true:=decide_eq_true c0
  ·simp only[k0]
   (repeat'(first|simp -implicitDefEqProofs (disch:=first|assumption|omega|(simp only[aE,aF,aD,i64,sa,aB,lm,la,lc,ln];omega)) only[go_sem,simprocAttr,a0,a1,a2,a3,a4]|((first|rw[aM]|rw[aI]|rw[aH]|rw[aO]|rw[aL]|rw[aJ]|rw[aG]|rw[aN]|skip);split)))
  ·simp only[k0]
   (repeat'(first|simp -implicitDefEqProofs (disch:=first|assumption|omega|(simp only[aE,aF,aD,i64,sa,aB,lm,la,lc,ln];omega)) only[go_sem,simprocAttr,a0,a1,a2,a3,a4,a5,e1,e2,e4,e8,e16]|((first|rw[aM]|rw[aI]|rw[aH]|rw[aO]|rw[aL]|rw[aJ]|rw[aG]|rw[aN]|skip);split)))
   all_goals simp_all
 ·have k0:decide (x.fOp=19)=false:=decide_eq_false c0
  simp only[k0]
  (repeat'(first|simp -implicitDefEqProofs (disch:=first|assumption|omega|(simp only[aE,aF,aD,i64,sa,aB,lm,la,lc,ln];omega)) only[go_sem,simprocAttr,a0,a1,a2,a3,a4,a5,e1,e2,e4,e8,e16]|((first|rw[aM]|rw[aI]|rw[aH]|rw[aO]|rw[aL]|rw[aJ]|rw[aG]|rw[aN]|skip);split)))
  all_goals simp_all
def rT(m:Int)(t:ZA):Bool:=decide (t.fOp=8)&&decide (t.fN=m)
theorem uS(v0:List ZA)(m:Int)(hl:v0.length≤1048576):∀(Bl:List ZA) (j:Int),v0.drop j.toNat=Bl→0≤j →
  loopW tab [0,1,5] i6 {env:=upd (upd (upd emp 5 (some (I j))) 1 (some (I m))) 0 (some (.d (.r (v0.map ZA.r)))),heap:=emp,fr:=0,next:=0}=if aT (rT m) j Bl= -1 then some (.ext 0,{env:=emp,heap:=emp,fr:=0,next:=0}) else some (.ret,{env:=upd emp 4 (some (I (aT (rT m) j Bl))),heap:=emp,fr:=0,next:=0})
 |[],j,hd,hj=>by
  unfold loopW
  conv=>lhs;arg 1;unfold i6
  have h1:=dW hd hj
  simp only[aT,if_true]
  (repeat'(first|simp -implicitDefEqProofs (disch:=first|assumption|omega|(simp only[aE,aF,aD,i64,sa,aB,lm,la,lc,ln];omega)) only[go_sem,simprocAttr]|((first|rw[aM]|rw[aI]|rw[aH]|rw[aO]|rw[aL]|rw[aJ]|rw[aG]|rw[aN]|skip);split)))
 |t::Bl,j,hd,hj=>by
  unfold loopW
  conv=>lhs;arg 1;unfold i6
  have h1:=b7 hd hj
  have h5:=h1.2.1
  have h2:=kH ZA.r h1.1
  simp only[ZA.r] at h2
  have ih:=uS v0 m hl Bl (j+1) h1.2.2.1 (by omega)
  rw[aT]
  by_cases c1:t.fOp=8
  ·by_cases c2:t.fN=m
   ·have hp:rT m t=true:=by simp[rT,c1,c2]
    rw[if_pos hp,if_neg (by omega)]
    (repeat'(first|simp -implicitDefEqProofs (disch:=first|assumption|omega|(simp only[aE,aF,aD,i64,sa,aB,lm,la,lc,ln];omega)) only[go_sem,simprocAttr,h2]|((first|rw[aM]|rw[aI]|rw[aH]|rw[aO]|rw[aL]|rw[aJ]|rw[aG]|rw[aN]|skip);split)))
   ·have hp:¬rT m t=true:=by simp[rT,c2]
    rw[if_neg hp,←ih]
    (repeat'(first|simp -implicitDefEqProofs (disch:=first|assumption|omega|(simp only[aE,aF,aD,i64,sa,aB,lm,la,lc,ln];omega)) only[go_sem,simprocAttr,h2]|((first|rw[aM]|rw[aI]|rw[aH]|rw[aO]|rw[aL]|rw[aJ]|rw[aG]|rw[aN]|skip);split)))
  ·have hp:¬rT m t=true:=by simp[rT,c1]
   rw[if_neg hp,←ih]
   (repeat'(first|simp -implicitDefEqProofs (disch:=first|assumption|omega|(simp only[aE,aF,aD,i64,sa,aB,lm,la,lc,ln];omega)) only[go_sem,simprocAttr,h2]|((first|rw[aM]|rw[aI]|rw[aH]|rw[aO]|rw[aL]|rw[aJ]|rw[aG]|rw[aN]|skip);split)))
theorem vI(v0:List ZA)(m:Int)(hl:v0.length≤1048576):call tab iI [.d (.r (v0.map ZA.r)),I m]=some (I (aT (rT m) 0 v0)):=by
 rw[aQ I3 _ rfl,yS]
 have h0:=uS v0 m hl v0 0 rfl (by omega)
 by_cases hp:aT (rT m) 0 v0= -1
 ·rw[if_pos hp] at h0
  (repeat'(first|simp -implicitDefEqProofs (disch:=first|assumption|omega|(simp only[aE,aF,aD,i64,sa,aB,lm,la,lc,ln];omega)) only[go_sem,simprocAttr,h0,hp]|((first|rw[aM]|rw[aI]|rw[aH]|rw[aO]|rw[aL]|rw[aJ]|rw[aG]|rw[aN]|skip);split)))
 ·rw[if_neg hp] at h0
  (repeat'(first|simp -implicitDefEqProofs (disch:=first|assumption|omega|(simp only[aE,aF,aD,i64,sa,aB,lm,la,lc,ln];omega)) only[go_sem,simprocAttr,h0]|((first|rw[aM]|rw[aI]|rw[aH]|rw[aO]|rw[aL]|rw[aJ]|rw[aG]|rw[aN]|skip);split)))
set_option maxRecDepth 8000
set_option maxHeartbeats 4000000
def fU(code:List ZA)(m:Int):Int:=aT (rT m) 0 code
def y7(u:ZB)(j:Int)(t:ZA):Bool:=Um t u.fRegs&& !((decide (t.fOp=8)&&(!decide (fU u.fCode t.fN=j) || !inB t.fN 0 900))||((decide (t.fOp=9)||decide (t.fOp=10))&&decide (fU u.fCode t.fN<0)))
def kL(u:ZB):Int→List ZA→Bool
 |_,[]=>true
 |j,t::r=>y7 u j t&&kL u (j+1) r
abbrev vpU(u:ZB):X:= .vp [Str u.fName,I u.fParams,I u.fRegs,.d (.r (u.fCode.map ZA.r))]
theorem Pp(a b:Int):call tab Dy [I a,I b]=some (I (if a<b then a else b)):=by
 rw[aQ Sh _ rfl,Fm]
 (repeat'(first|simp -implicitDefEqProofs (disch:=first|assumption|omega|(simp only[aE,aF,aD,i64,sa,aB,lm,la,lc,ln];omega)) only[go_sem,simprocAttr]|((first|rw[aM]|rw[aI]|rw[aH]|rw[aO]|rw[aL]|rw[aJ]|rw[aG]|rw[aN]|skip);split)))
theorem Aa(u:ZB)(hs:u.sm)(hr:i64 (u.fRegs-1))(hr2:u.fCode.length≤1048576):∀(Bl:List ZA) (j:Int),u.fCode.drop j.toNat=Bl→0≤j →
  loopW tab [1,3,4] lO {env:=upd (upd (upd emp 4 (some (I j))) 3 (some (I (u.fCode.length:Int)))) 1 (some (vpU u)),heap:=emp,fr:=0,next:=0}=if kL u j Bl=true then some (.ext 0,{env:=upd (upd emp 3 (some (I (u.fCode.length:Int)))) 1 (some (vpU u)),heap:=emp,fr:=0,next:=0}) else some (.ret,{env:=upd emp 2 (some (B false)),heap:=emp,fr:=0,next:=0})
 |[],j,hd,hj=>by
  unfold loopW
  conv=>lhs;arg 1;unfold lO
  have h1:=dW hd hj
  (repeat'(first|simp -implicitDefEqProofs (disch:=first|assumption|omega|(simp only[aE,aF,aD,i64,sa,aB,lm,la,lc,ln];omega)) only[go_sem,simprocAttr,kL]|((first|rw[aM]|rw[aI]|rw[aH]|rw[aO]|rw[aL]|rw[aJ]|rw[aG]|rw[aN]|skip);split)))
 |t::Bl,j,hd,hj=>by
  unfold loopW
  conv=>lhs;arg 1;unfold lO
  have h1:=b7 hd hj
  have h5:=h1.2.1
  have h2:=kH ZA.r h1.1
  simp only[ZA.r] at h2
  have hsx:=(hs.2.2 t h1.2.2.2.1).2
  have ih:=Aa u hs hr hr2 Bl (j+1) h1.2.2.1 (by omega)
  have a1:=G5 t u.fRegs hsx hr
  have a2:call tab iI [.d (.r (u.fCode.map ZA.r)),I t.fN]=some (I (fU u.fCode t.fN)):=vI u.fCode t.fN hr2
  have a3:=dC t.fN 0 900
  rw[kL,y7]
  cases c1:Um t u.fRegs<;>rw[c1] at a1
  ·(repeat'(first|simp -implicitDefEqProofs (disch:=first|assumption|omega|(simp only[aE,aF,aD,i64,sa,aB,lm,la,lc,ln];omega)) only[go_sem,simprocAttr,h2,a1]|((first|rw[aM]|rw[aI]|rw[aH]|rw[aO]|rw[aL]|rw[aJ]|rw[aG]|rw[aN]|skip);split)))
  ·cases c2:inB t.fN 0 900<;>rw[c2] at a3
   ·(repeat'(first|simp -implicitDefEqProofs (disch:=first|assumption|omega|(simp only[aE,aF,aD,i64,sa,aB,lm,la,lc,ln];omega)) only[go_sem,simprocAttr,h2,a1,a2,a3,ih]|((first|rw[aM]|rw[aI]|rw[aH]|rw[aO]|rw[aL]|rw[aJ]|rw[aG]|rw[aN]|skip);split)))
    all_goals simp_all
   ·(repeat'(first|simp -implicitDefEqProofs (disch:=first|assumption|omega|(simp only[aE,aF,aD,i64,sa,aB,lm,la,lc,ln];omega)) only[go_sem,simprocAttr,h2,a1,a2,a3,ih]|((first|rw[aM]|rw[aI]|rw[aH]|rw[aO]|rw[aL]|rw[aJ]|rw[aG]|rw[aN]|skip);split)))
    all_goals simp_all
def zqm(l:List ZA):Bool:=match l.getLast? with
 |some t=>decide (t.fOp=12)||decide (t.fOp=9)||decide (t.fOp=28)
 |none=>false
def jR(u:ZB):Bool:=inB u.fRegs 0 250&&inB u.fParams 0 (if 4<u.fRegs then 4 else u.fRegs)&&inB u.fCode.length 1 900&&kL u 0 u.fCode&&zqm u.fCode
theorem Y1{l:List ZA}(h:1≤l.length):∃t,l.getLast? = some t∧(l.map ZA.r)[((l.length:Int)-1).toNat]? = some t.r∧t∈l:=by
 have h1:l≠[]:=by intro e;rw[e] at h;simp at h
 refine⟨l.getLast h1,List.getLast?_eq_some_getLast h1,?_,List.getLast_mem h1⟩
 rw[List.getElem?_map,show((l.length:Int)-1).toNat=l.length-1 by omega,←List.getLast?_eq_getElem?,List.getLast?_eq_some_getLast h1]
 rfl
theorem jS(u:ZB)(hs:u.sm):call tab jP [u.x]=some (B (jR u)):=by
 rw[aQ O8 _ rfl,C7,jR]
 have b1:=dC u.fRegs 0 250
 have b2:=Pp 4 u.fRegs
 have b3:=dC u.fParams 0 (if 4<u.fRegs then 4 else u.fRegs)
 have b4:=dC u.fCode.length 1 900
 have hl:=hs.2.1
 cases c1:inB u.fRegs 0 250<;>rw[c1] at b1
 ·(repeat'(first|simp -implicitDefEqProofs (disch:=first|assumption|omega|(simp only[aE,aF,aD,i64,sa,aB,lm,la,lc,ln];omega)) only[go_sem,simprocAttr,b1]|((first|rw[aM]|rw[aI]|rw[aH]|rw[aO]|rw[aL]|rw[aJ]|rw[aG]|rw[aN]|skip);split)))
 cases c2:inB u.fParams 0 (if 4<u.fRegs then 4 else u.fRegs)<;>rw[c2] at b3
 ·generalize (if 4<u.fRegs then(4:Int) else u.fRegs)=mn at *
  (repeat'(first|simp -implicitDefEqProofs (disch:=first|assumption|omega|(simp only[aE,aF,aD,i64,sa,aB,lm,la,lc,ln];omega)) only[go_sem,simprocAttr,b1,b2,b3]|((first|rw[aM]|rw[aI]|rw[aH]|rw[aO]|rw[aL]|rw[aJ]|rw[aG]|rw[aN]|skip);split)))
 cases c3:inB u.fCode.length 1 900<;>rw[c3] at b4
 ·generalize (if 4<u.fRegs then(4:Int) else u.fRegs)=mn at *
  (repeat'(first|simp -implicitDefEqProofs (disch:=first|assumption|omega|(simp only[aE,aF,aD,i64,sa,aB,lm,la,lc,ln];omega)) only[go_sem,simprocAttr,b1,b2,b3,b4]|((first|rw[aM]|rw[aI]|rw[aH]|rw[aO]|rw[aL]|rw[aJ]|rw[aG]|rw[aN]|skip);split)))
 have g1:0≤u.fRegs∧u.fRegs≤250:=by simpa[inB] using c1
 have g3:1≤(u.fCode.length:Int)∧(u.fCode.length:Int)≤900:=by simpa[inB] using c3
 have h0:=Aa u hs ⟨by omega,by omega⟩ hl u.fCode 0 rfl (by omega)
 obtain⟨t,ht,ht2,_⟩:=Y1 (l:=u.fCode) (by omega)
 simp only[ZA.r] at ht2
 simp only[zqm,ht]
 generalize (if 4<u.fRegs then(4:Int) else u.fRegs)=mn at *
 cases c4:kL u 0 u.fCode<;>simp only[c4,Bool.false_eq_true,if_true,if_false] at h0
 ·(repeat'(first|simp -implicitDefEqProofs (disch:=first|assumption|omega|(simp only[aE,aF,aD,i64,sa,aB,lm,la,lc,ln];omega)) only[go_sem,simprocAttr,b1,b2,b3,b4,h0]|((first|rw[aM]|rw[aI]|rw[aH]|rw[aO]|rw[aL]|rw[aJ]|rw[aG]|rw[aN]|skip);split)))
 ·(repeat'(first|simp -implicitDefEqProofs (disch:=first|assumption|omega|(simp only[aE,aF,aD,i64,sa,aB,lm,la,lc,ln];omega)) only[go_sem,simprocAttr,b1,b2,b3,b4,h0,ht2]|((first|rw[aM]|rw[aI]|rw[aH]|rw[aO]|rw[aL]|rw[aJ]|rw[aG]|rw[aN]|skip);split)))
  all_goals simp_all
set_option maxRecDepth 8000
set_option maxHeartbeats 4000000
theorem u4(f:Nat)(p:ZA→Bool)(h:Heap)(fr:Nat)(hh:a8 fr h=h)(xs:List ZA)(hx:xs.length≤140737488351232)(kc:Nat)(h1:1≤fr)(hf:∀x∈xs,evCW tab f [x.x,.ptr (0,kc) [] 0 0] h (fr+1)=some (B (p x),h)):∀(Bl:List ZA) (j:Int),xs.drop j.toNat=Bl→0≤j →
  loopW tab [0,1,7,8] aS {env:=upd (upd (upd (upd emp 8 (some (I j))) 7 (some (I (xs.length:Int)))) 1 (some (.clo f [.ptr (0,kc) [] 0 0]))) 0 (some (.d (.r (xs.map (ZA.r))))),heap:=h,fr:=fr,next:=0}=if aT p j Bl= -1 then some (.ext 0,{env:=emp,heap:=h,fr:=fr,next:=0}) else some (.ret,{env:=upd emp 4 (some (I (aT p j Bl))),heap:=h,fr:=fr,next:=0})
 |[],j,hd,hj=>by
  unfold loopW
  conv=>lhs;arg 1;unfold aS
  have:=dW hd hj
  simp only[aT,if_true]
  (repeat'(first|simp -implicitDefEqProofs (disch:=first|assumption|omega|(simp only[aE,aF,aD,i64,sa,aB,lm,la,lc,ln];omega)) only[go_sem,simprocAttr,hh,show ¬0=fr from by omega]|((first|rw[aM]|rw[aI]|rw[aH]|rw[aO]|rw[aL]|rw[aJ]|rw[aG]|rw[aN]|skip);split)))
 |x::Bl,j,hd,hj=>by
  unfold loopW
  conv=>lhs;arg 1;unfold aS
  have h4:=(b7 hd hj).2.1
  have ih:=u4 f p h fr hh xs hx kc h1 hf Bl (j+1) (b7 hd hj).2.2.1 (by omega)
  have h2:=kH (ZA.r) (b7 hd hj).1
  simp only[ZA.r] at h2
  have h3:=hf x (b7 hd hj).2.2.2.1
  rw[aT]
  by_cases hp:p x=true
  ·rw[if_pos hp,if_neg (by omega)]
   (repeat'(first|simp -implicitDefEqProofs (disch:=first|assumption|omega|(simp only[aE,aF,aD,i64,sa,aB,lm,la,lc,ln];omega)) only[go_sem,simprocAttr,h2,show ¬0=fr from by omega,h3,hh]|((first|rw[aM]|rw[aI]|rw[aH]|rw[aO]|rw[aL]|rw[aJ]|rw[aG]|rw[aN]|skip);split)))
  ·rw[if_neg hp,←ih]
   (repeat'(first|simp -implicitDefEqProofs (disch:=first|assumption|omega|(simp only[aE,aF,aD,i64,sa,aB,lm,la,lc,ln];omega)) only[go_sem,simprocAttr,h2,show ¬0=fr from by omega,h3,hh]|((first|rw[aM]|rw[aI]|rw[aH]|rw[aO]|rw[aL]|rw[aJ]|rw[aG]|rw[aN]|skip);split)))
theorem uI(f:Nat)(p:ZA→Bool)(h:Heap)(fr:Nat)(hh:a8 fr h=h)(xs:List ZA)(hx:xs.length≤140737488351232)(kc:Nat)(h1:1≤fr)(hf:∀x∈xs,evCW tab f [x.x,.ptr (0,kc) [] 0 0] h (fr+1)=some (B (p x),h)):evCW tab aZ [.d (.r (xs.map (ZA.r))),.clo f [.ptr (0,kc) [] 0 0]] h fr=some (I (aT p 0 xs),h):=by
 rw[bU cN _ _ _ rfl,bJ]
 have h0:=u4 f p h fr hh xs hx kc h1 hf xs 0 rfl (by omega)
 by_cases hp:aT p 0 xs= -1
 ·rw[if_pos hp] at h0
  (repeat'(first|simp -implicitDefEqProofs (disch:=first|assumption|omega|(simp only[aE,aF,aD,i64,sa,aB,lm,la,lc,ln];omega)) only[go_sem,simprocAttr,hh,h0,hp,show ¬0=fr from by omega]|((first|rw[aM]|rw[aI]|rw[aH]|rw[aO]|rw[aL]|rw[aJ]|rw[aG]|rw[aN]|skip);split)))
 ·rw[if_neg hp] at h0
  (repeat'(first|simp -implicitDefEqProofs (disch:=first|assumption|omega|(simp only[aE,aF,aD,i64,sa,aB,lm,la,lc,ln];omega)) only[go_sem,simprocAttr,hh,h0,hp,show ¬0=fr from by omega]|((first|rw[aM]|rw[aI]|rw[aH]|rw[aO]|rw[aL]|rw[aJ]|rw[aG]|rw[aN]|skip);split)))
theorem vE(f:Nat)(p:Int→Bool)(h:Heap)(fr:Nat)(hh:a8 fr h=h)(xs:List Int)(hx:xs.length≤140737488351232)(kc:Nat)(k:Nat)(h1:1≤fr)(hk:h (0,k)=some (.s 1 (xs.map (fun n=>[DI n]))))(hf:∀x∈xs,evCW tab f [I x,.ptr (0,kc) [] 0 0] h (fr+1)=some (B (p x),h)):∀(Bl:List Int) (j:Int),xs.drop j.toNat=Bl→0≤j →
  loopW tab [0,1,7,8] cU {env:=upd (upd (upd (upd emp 8 (some (I j))) 7 (some (I (xs.length:Int)))) 1 (some (.clo f [.ptr (0,kc) [] 0 0]))) 0 (some (.ref (0,k) [])),heap:=h,fr:=fr,next:=0}=if aT p j Bl= -1 then some (.ext 0,{env:=emp,heap:=h,fr:=fr,next:=0}) else some (.ret,{env:=upd emp 4 (some (I (aT p j Bl))),heap:=h,fr:=fr,next:=0})
 |[],j,hd,hj=>by
  unfold loopW
  conv=>lhs;arg 1;unfold cU
  have:=dW hd hj
  simp only[aT,if_true]
  (repeat'(first|simp -implicitDefEqProofs (disch:=first|assumption|omega|(simp only[aE,aF,aD,i64,sa,aB,lm,la,lc,ln];omega)) only[go_sem,simprocAttr,hh,show ¬0=fr from by omega]|((first|rw[aM]|rw[aI]|rw[aH]|rw[aO]|rw[aL]|rw[aJ]|rw[aG]|rw[aN]|skip);split)))
 |x::Bl,j,hd,hj=>by
  unfold loopW
  conv=>lhs;arg 1;unfold cU
  have h4:=(b7 hd hj).2.1
  have ih:=vE f p h fr hh xs hx kc k h1 hk hf Bl (j+1) (b7 hd hj).2.2.1 (by omega)
  have h2:=kH (fun n=>[DI n]) (b7 hd hj).1
  have h3:=hf x (b7 hd hj).2.2.2.1
  rw[aT]
  by_cases hp:p x=true
  ·rw[if_pos hp,if_neg (by omega)]
   (repeat'(first|simp -implicitDefEqProofs (disch:=first|assumption|omega|(simp only[aE,aF,aD,i64,sa,aB,lm,la,lc,ln];omega)) only[go_sem,simprocAttr,h2,hk,show ¬0=fr from by omega,h3,hh]|((first|rw[aM]|rw[aI]|rw[aH]|rw[aO]|rw[aL]|rw[aJ]|rw[aG]|rw[aN]|skip);split)))
  ·rw[if_neg hp,←ih]
   (repeat'(first|simp -implicitDefEqProofs (disch:=first|assumption|omega|(simp only[aE,aF,aD,i64,sa,aB,lm,la,lc,ln];omega)) only[go_sem,simprocAttr,h2,hk,show ¬0=fr from by omega,h3,hh]|((first|rw[aM]|rw[aI]|rw[aH]|rw[aO]|rw[aL]|rw[aJ]|rw[aG]|rw[aN]|skip);split)))
theorem vH(f:Nat)(p:Int→Bool)(h:Heap)(fr:Nat)(hh:a8 fr h=h)(xs:List Int)(hx:xs.length≤140737488351232)(kc:Nat)(k:Nat)(h1:1≤fr)(hk:h (0,k)=some (.s 1 (xs.map (fun n=>[DI n]))))(hf:∀x∈xs,evCW tab f [I x,.ptr (0,kc) [] 0 0] h (fr+1)=some (B (p x),h)):evCW tab fP [.ref (0,k) [],.clo f [.ptr (0,kc) [] 0 0]] h fr=some (I (aT p 0 xs),h):=by
 rw[bU q9 _ _ _ rfl,jO]
 have h0:=vE f p h fr hh xs hx kc k h1 hk hf xs 0 rfl (by omega)
 by_cases hp:aT p 0 xs= -1
 ·rw[if_pos hp] at h0
  (repeat'(first|simp -implicitDefEqProofs (disch:=first|assumption|omega|(simp only[aE,aF,aD,i64,sa,aB,lm,la,lc,ln];omega)) only[go_sem,simprocAttr,hh,h0,hp,hk,show ¬0=fr from by omega]|((first|rw[aM]|rw[aI]|rw[aH]|rw[aO]|rw[aL]|rw[aJ]|rw[aG]|rw[aN]|skip);split)))
 ·rw[if_neg hp] at h0
  (repeat'(first|simp -implicitDefEqProofs (disch:=first|assumption|omega|(simp only[aE,aF,aD,i64,sa,aB,lm,la,lc,ln];omega)) only[go_sem,simprocAttr,hh,h0,hp,hk,show ¬0=fr from by omega]|((first|rw[aM]|rw[aI]|rw[aH]|rw[aO]|rw[aL]|rw[aJ]|rw[aG]|rw[aN]|skip);split)))
theorem rL(f:Nat)(p:Int→Bool)(h:Heap)(fr:Nat)(hh:a8 fr h=h)(hh':a8 (fr+1) h=h)(xs:List Int)(hx:xs.length≤140737488351232)(kc:Nat)(k:Nat)(h1:1≤fr)(hk:h (0,k)=some (.s 1 (xs.map (fun n=>[DI n]))))(hf:∀x∈xs,evCW tab f [I x,.ptr (0,kc) [] 0 0] h (fr+2)=some (B (p x),h)):evCW tab eA [.ref (0,k) [],.clo f [.ptr (0,kc) [] 0 0]] h fr=some (B (xs.any p),h):=by
 rw[bU oH _ _ _ rfl,gL]
 have h0:=vH f p h (fr+1) hh' xs hx kc k (by omega) hk hf
 rw[sP p 0 (by omega)]
 (repeat'(first|simp -implicitDefEqProofs (disch:=first|assumption|omega|(simp only[aE,aF,aD,i64,sa,aB,lm,la,lc,ln];omega)) only[go_sem,simprocAttr,hh,h0,hk,show ¬0=fr from by omega]|((first|rw[aM]|rw[aI]|rw[aH]|rw[aO]|rw[aL]|rw[aJ]|rw[aG]|rw[aN]|skip);split)))
set_option maxRecDepth 8000
set_option maxHeartbeats 4000000
def zX1:List ByteArray:=[noS,⟨#[68,78]⟩,⟨#[68,65]⟩,⟨#[68,65,66]⟩,⟨#[68,65,66]⟩,⟨#[68,65,66]⟩,⟨#[68,65,66]⟩,⟨#[68,65,66]⟩,⟨#[78]⟩,⟨#[78]⟩,⟨#[65,78]⟩,⟨#[68,83,88]⟩,⟨#[65]⟩,⟨#[65]⟩,⟨#[83,88]⟩,⟨#[68,65]⟩,⟨#[65,66]⟩,⟨#[68,65]⟩,⟨#[65]⟩,⟨#[68,66,78,88]⟩,⟨#[68,65]⟩,⟨#[65,66]⟩,⟨#[68,65,66,88]⟩,⟨#[68]⟩,⟨#[68,83]⟩,⟨#[65]⟩,⟨#[65,66]⟩,⟨#[65,66]⟩,⟨#[65]⟩]
def m6(op:Int):ByteArray:=if 1≤op∧op≤28 then(zX1[op.toNat]?).getD noS else noS
theorem Fv(op:Int):call tab Ce [I op]=some (Str (m6 op)):=by
 rw[aQ Y2 _ rfl,Hz]
 by_cases h:1≤op∧op≤28
 ·obtain⟨h1,h2⟩:=h
  rw[m6,if_pos ⟨h1,h2⟩]
  rcases M6 h1 h2 with rfl|rfl|rfl|rfl|rfl|rfl|rfl|rfl|rfl|rfl|rfl|rfl|rfl|rfl|rfl|rfl|rfl|rfl|rfl|rfl|rfl|rfl|rfl|rfl|rfl|rfl|rfl|rfl<;>simp -implicitDefEqProofs (disch:=first|assumption|omega|(simp only[aE,aF,aD,i64,sa,aB,lm,la,lc,ln];omega)) only[go_sem,simprocAttr,zX1]
 ·rw[m6,if_neg h]
  simp -implicitDefEqProofs (disch:=first|assumption|omega|(simp only[aE,aF,aD,i64,sa,aB,lm,la,lc,ln];omega)) only[go_sem,simprocAttr]
abbrev U8(c:Int):X:= .d (.v (.int .u8 c))
theorem C6(bs:List UInt8)(hl:bs.length≤1048576)(c:Int):∀(Bl:List UInt8) (j:Int),bs.drop j.toNat=Bl→0≤j →
  loopW tab [0,1,7,8] dG {env:=upd (upd (upd (upd emp 8 (some (I j))) 7 (some (I (bs.length:Int)))) 1 (some (U8 c))) 0 (some (.d (.r (bs.map fun x=>[D.v (.int .u8 x.toNat)])))),heap:=emp,fr:=0,next:=0}=if aT (fun x:UInt8=>decide (c=x.toNat)) j Bl= -1 then some (.ext 0,{env:=emp,heap:=emp,fr:=0,next:=0}) else some (.ret,{env:=upd emp 4 (some (I (aT (fun x:UInt8=>decide (c=x.toNat)) j Bl))),heap:=emp,fr:=0,next:=0})
 |[],j,hd,hj=>by
  unfold loopW
  conv=>lhs;arg 1;unfold dG
  have h1:=dW hd hj
  simp only[aT,if_true]
  (repeat'(first|simp -implicitDefEqProofs (disch:=first|assumption|omega|(simp only[aE,aF,aD,i64,sa,aB,lm,la,lc,ln];omega)) only[go_sem,simprocAttr]|((first|rw[aM]|rw[aI]|rw[aH]|rw[aO]|rw[aL]|rw[aJ]|rw[aG]|rw[aN]|skip);split)))
 |x::Bl,j,hd,hj=>by
  unfold loopW
  conv=>lhs;arg 1;unfold dG
  have h1:=b7 hd hj
  have h5:=h1.2.1
  have h2:=kH (fun x:UInt8=>[D.v (.int .u8 x.toNat)]) h1.1
  have ih:=C6 bs hl c Bl (j+1) h1.2.2.1 (by omega)
  rw[aT]
  by_cases hp:c=x.toNat
  ·have k:decide (c=(x.toNat:Int))=true:=decide_eq_true hp
   simp only[k,if_true]
   rw[if_neg (by omega)]
   (repeat'(first|simp -implicitDefEqProofs (disch:=first|assumption|omega|(simp only[aE,aF,aD,i64,sa,aB,lm,la,lc,ln];omega)) only[go_sem,simprocAttr,h2]|((first|rw[aM]|rw[aI]|rw[aH]|rw[aO]|rw[aL]|rw[aJ]|rw[aG]|rw[aN]|skip);split)))
  ·have k:decide (c=(x.toNat:Int))=false:=decide_eq_false hp
   simp only[k,Bool.false_eq_true,if_false]
   rw[←ih]
   (repeat'(first|simp -implicitDefEqProofs (disch:=first|assumption|omega|(simp only[aE,aF,aD,i64,sa,aB,lm,la,lc,ln];omega)) only[go_sem,simprocAttr,h2]|((first|rw[aM]|rw[aI]|rw[aH]|rw[aO]|rw[aL]|rw[aJ]|rw[aG]|rw[aN]|skip);split)))
theorem Qd(op c:Int):call tab cR [I op,U8 c]=some (B (decide (0≤aT (fun x:UInt8=>decide (c=x.toNat)) 0 (m6 op).data.toList))):=by
 have hs:(m6 op).size≤4:=by
  unfold m6
  split
  ·rename_i h
   rcases M6 h.1 h.2 with rfl|rfl|rfl|rfl|rfl|rfl|rfl|rfl|rfl|rfl|rfl|rfl|rfl|rfl|rfl|rfl|rfl|rfl|rfl|rfl|rfl|rfl|rfl|rfl|rfl|rfl|rfl|rfl<;>decide
  ·decide
 have hl:(m6 op).data.toList.length≤4:=by rw[Array.length_toList];exact hs
 have h0:=C6 (m6 op).data.toList (by omega) c (m6 op).data.toList 0 rfl (by omega)
 have h1:call tab gU [.d (.r ((m6 op).data.toList.map fun x=>[D.v (.int .u8 x.toNat)])),U8 c]=some (I (aT (fun x:UInt8=>decide (c=x.toNat)) 0 (m6 op).data.toList)):=by
  rw[aQ uF _ rfl,kW]
  by_cases hp:aT (fun x:UInt8=>decide (c=x.toNat)) 0 (m6 op).data.toList= -1
  ·rw[if_pos hp] at h0
   (repeat'(first|simp -implicitDefEqProofs (disch:=first|assumption|omega|(simp only[aE,aF,aD,i64,sa,aB,lm,la,lc,ln];omega)) only[go_sem,simprocAttr,h0,hp]|((first|rw[aM]|rw[aI]|rw[aH]|rw[aO]|rw[aL]|rw[aJ]|rw[aG]|rw[aN]|skip);split)))
  ·rw[if_neg hp] at h0
   (repeat'(first|simp -implicitDefEqProofs (disch:=first|assumption|omega|(simp only[aE,aF,aD,i64,sa,aB,lm,la,lc,ln];omega)) only[go_sem,simprocAttr,h0]|((first|rw[aM]|rw[aI]|rw[aH]|rw[aO]|rw[aL]|rw[aJ]|rw[aG]|rw[aN]|skip);split)))
 have h2:call tab eV [.d (.r ((m6 op).data.toList.map fun x=>[D.v (.int .u8 x.toNat)])),U8 c]=some (B (decide (0≤aT (fun x:UInt8=>decide (c=x.toNat)) 0 (m6 op).data.toList))):=by
  rw[aQ pQ _ rfl,jB]
  (repeat'(first|simp -implicitDefEqProofs (disch:=first|assumption|omega|(simp only[aE,aF,aD,i64,sa,aB,lm,la,lc,ln];omega)) only[go_sem,simprocAttr,h1]|((first|rw[aM]|rw[aI]|rw[aH]|rw[aO]|rw[aL]|rw[aJ]|rw[aG]|rw[aN]|skip);split)))
 rw[aQ Sy _ rfl,Fl]
 (repeat'(first|simp -implicitDefEqProofs (disch:=first|assumption|omega|(simp only[aE,aF,aD,i64,sa,aB,lm,la,lc,ln];omega)) only[go_sem,simprocAttr,Fv,Ec,h2]|((first|rw[aM]|rw[aI]|rw[aH]|rw[aO]|rw[aL]|rw[aJ]|rw[aG]|rw[aN]|skip);split)))
theorem zjf{op:Int}:∀p∈[((68:Int),(1:Int)),(65,2),(66,4),(78,8),(83,16),(88,32)],decide (0≤aT (fun x:UInt8=>decide (p.1=x.toNat)) 0 (m6 op).data.toList)=zYj (Ct op) p.2:=by
 by_cases h:1≤op∧op≤28
 ·rcases M6 h.1 h.2 with rfl|rfl|rfl|rfl|rfl|rfl|rfl|rfl|rfl|rfl|rfl|rfl|rfl|rfl|rfl|rfl|rfl|rfl|rfl|rfl|rfl|rfl|rfl|rfl|rfl|rfl|rfl|rfl<;>decide
 ·rw[m6,if_neg h,Ct,if_neg h]
  decide
theorem bT(x:ZA)(p:Int×Int)(hp:p∈[((68:Int),(1:Int)),(65,2),(66,4),(78,8),(83,16),(88,32)]):call tab cR [I x.fOp,U8 p.1]=some (B (hb x p.2)):=by
 rw[Qd,zjf p hp]
 rfl
theorem zZr{x:ZA}(h:x.fOp=19):hb x 1=true∧hb x 2=false∧hb x 4=true∧hb x 32=true:=by
 unfold hb
 rw[h]
 decide
theorem wP(x:ZA):call tab l5 [x.x]=some (.d (.s 1 (aP (aY x)))):=by
 rw[aQ If _ rfl,zU,aY]
 have a1:=bT x (68,1) (by simp)
 by_cases c0:x.fOp=19
 ·rw[(zZr c0).1,if_pos rfl,if_pos c0]
  (repeat'(first|simp -implicitDefEqProofs (disch:=first|assumption|omega|(simp only[aE,aF,aD,i64,sa,aB,lm,la,lc,ln];omega)) only[go_sem,simprocAttr,aP,mc,mn]|((first|rw[aM]|rw[aI]|rw[aH]|rw[aO]|rw[aL]|rw[aJ]|rw[aG]|rw[aN]|skip);split)))
 ·rw[if_neg c0]
  cases c1:hb x 1<;>rw[c1] at a1<;>(repeat'(first|simp -implicitDefEqProofs (disch:=first|assumption|omega|(simp only[aE,aF,aD,i64,sa,aB,lm,la,lc,ln];omega)) only[go_sem,simprocAttr,aP,mc,mn,a1]|((first|rw[aM]|rw[aI]|rw[aH]|rw[aO]|rw[aL]|rw[aJ]|rw[aG]|rw[aN]|skip);split)))
theorem w9(x:ZA)(hl:x.fArgs.length≤1048576)(h19:x.fOp=19):∀(Bl:List Int) (j:Nat) (A:List Int),x.fArgs.drop j=Bl→A.length≤j →
  loopW tab [1,3,11,12,13] nU {env:=upd (upd (upd (upd (upd emp 13 (some (I (j:Int)))) 12 (some (I (x.fArgs.length:Int)))) 11 (some (.d (.r (aP x.fArgs))))) 3 (some (.ref (0,0) []))) 1 (some (.vp [I x.fOp,I x.fD,I x.fA,I x.fB,I x.fN,Str x.fS,.d (.r (aP x.fArgs))])),heap:=upd emp (0,0) (some (.s 1 (aP A))),fr:=0,next:=1}=some (.ext 0,{env:=upd emp 3 (some (.ref (0,0) [])),heap:=upd emp (0,0) (some (.s 1 (aP (A++jA x j Bl)))),fr:=0,next:=1})
 |[],j,A,hd,hA=>by
  have hd2:x.fArgs.drop ((j:Int)).toNat=[]:=by simpa using hd
  have hj:(0:Int)≤j:=by omega
  unfold loopW
  conv=>lhs;arg 1;unfold nU
  have h1:=dW hd2 hj
  (repeat'(first|simp -implicitDefEqProofs (disch:=first|assumption|omega|(simp only[aE,aF,aD,i64,sa,aB,lm,la,lc,ln];omega)) only[go_sem,simprocAttr,jA,zqe]|((first|rw[aM]|rw[aI]|rw[aH]|rw[aO]|rw[aL]|rw[aJ]|rw[aG]|rw[aN]|skip);split)))
 |y::Bl,j,A,hd,hA=>by
  have hd2:x.fArgs.drop ((j:Int)).toNat=y::Bl:=by simpa using hd
  have hj:(0:Int)≤j:=by omega
  unfold loopW
  conv=>lhs;arg 1;unfold nU
  have h1:=b7 hd2 hj
  have h5:=h1.2.1
  have h2:=kH (fun n=>[DI n]) h1.1
  simp only[Int.toNat_natCast] at h2
  have h3:x.fArgs.drop (j+1)=Bl:=by have:=h1.2.2.1;rwa [show((j:Int)+1).toNat=j+1 by omega] at this
  have m1:((j:Int)).tmod 3=((j % 3:Nat):Int):=by have:=Ci (n:=(j:Int)) (by omega) 3;simpa using this
  have ih1:=w9 x hl h19 Bl (j+1) (A++[y]) h3 (by simp;omega)
  have ih2:=w9 x hl h19 Bl (j+1) A h3 (by omega)
  rw[show((j+1:Nat):Int)=(j:Int)+1 by omega] at ih1 ih2
  rw[jA,←List.append_assoc]
  simp only[List.map_append,mc,mn] at ih1 ih2 ⊢
  have k0:decide (x.fOp=19)=true:=decide_eq_true h19
  simp only[k0,Bool.not_true,Bool.false_or,Gf]
  rcases (by omega:j % 3=0∨j % 3=1∨j % 3=2) with c1|c1|c1
  ·simp only[c1] at m1 ⊢
   (repeat'(first|simp -implicitDefEqProofs (disch:=first|assumption|omega|(simp only[aE,aF,aD,i64,sa,aB,lm,la,lc,ln];omega)) only[go_sem,simprocAttr,h2,m1,ih2]|((first|rw[aM]|rw[aI]|rw[aH]|rw[aO]|rw[aL]|rw[aJ]|rw[aG]|rw[aN]|skip);split)))
  ·simp only[c1] at m1 ⊢
   (repeat'(first|simp -implicitDefEqProofs (disch:=first|assumption|omega|(simp only[aE,aF,aD,i64,sa,aB,lm,la,lc,ln];omega)) only[go_sem,simprocAttr,h2,m1,ih1]|((first|rw[aM]|rw[aI]|rw[aH]|rw[aO]|rw[aL]|rw[aJ]|rw[aG]|rw[aN]|skip);split)))
  ·simp only[c1] at m1 ⊢
   have hj2:j-2<x.fArgs.length:=by omega
   obtain⟨v,hv,hv2⟩:=zYu x.fArgs (j:=(j:Int)-2) (by omega) (by omega)
   rw[show((j:Int)-2).toNat=j-2 by omega] at hv2
   by_cases c2:v=2
   ·subst c2
    simp only[hv2]
    (repeat'(first|simp -implicitDefEqProofs (disch:=first|assumption|omega|(simp only[aE,aF,aD,i64,sa,aB,lm,la,lc,ln];omega)) only[go_sem,simprocAttr,h2,m1,hv,ih1]|((first|rw[aM]|rw[aI]|rw[aH]|rw[aO]|rw[aL]|rw[aJ]|rw[aG]|rw[aN]|skip);split)))
   ·have:¬(some v=some (2:Int)):=by simpa using c2
    simp only[hv2,this]
    (repeat'(first|simp -implicitDefEqProofs (disch:=first|assumption|omega|(simp only[aE,aF,aD,i64,sa,aB,lm,la,lc,ln];omega)) only[go_sem,simprocAttr,h2,m1,hv,c2,ih2]|((first|rw[aM]|rw[aI]|rw[aH]|rw[aO]|rw[aL]|rw[aJ]|rw[aG]|rw[aN]|skip);split)))
theorem Rn(x:ZA)(h:¬x.fOp=19):∀(q:Nat) (l:List Int),jA x q l=l
 |_,[]=>rfl
 |q,y::ys=>by
  rw[jA,Rn x h (q+1) ys]
  simp[h]
theorem L9(l:List Int):(aP l).map (fun el=>el.map D.toR)=aP l:=by
 simp[D.toR]
theorem E4(x:ZA)(hl:x.fArgs.length≤1048576):call tab B8 [x.x]=some (.d (.s 1 (aP (dK x)))):=by
 rw[aQ W6 _ rfl,Hw,dK]
 have a1:=bT x (65,2) (by simp)
 have a2:=bT x (66,4) (by simp)
 have a3:=bT x (88,32) (by simp)
 by_cases c0:x.fOp=19
 ·obtain⟨k1,k2,k3,k4⟩:=zZr c0
  have k0:decide (x.fOp=19)=true:=decide_eq_true c0
  have h0:=w9 x hl c0 x.fArgs 0 [] rfl (by simp)
  simp only[Int.cast_ofNat_Int,mn,zqf] at h0
  simp only[k0,k2,k3,k4,Bool.not_true,uH,Bool.false_eq_true,if_false,if_true,zqf]
  (repeat'(first|simp -implicitDefEqProofs (disch:=first|assumption|omega|(simp only[aE,aF,aD,i64,sa,aB,lm,la,lc,ln];omega)) only[go_sem,simprocAttr,h0]|((first|rw[aM]|rw[aI]|rw[aH]|rw[aO]|rw[aL]|rw[aJ]|rw[aG]|rw[aN]|skip);split)))
 ·have k0:decide (x.fOp=19)=false:=decide_eq_false c0
  rw[Rn x c0]
  simp only[k0,Bool.not_false,bat]
  have hh:=L9 x.fArgs
  have hal:=Sn x.fArgs
  cases c2:hb x 2<;>cases c4:hb x 4<;>cases c32:hb x 32<;>rw[c2] at a1<;>rw[c4] at a2<;>rw[c32] at a3<;>simp only[Bool.false_eq_true,if_false,if_true,zqf,zqe,List.cons_append]<;>(repeat'(first|simp -implicitDefEqProofs (disch:=first|assumption|omega|(simp only[aE,aF,aD,i64,sa,aB,lm,la,lc,ln];omega)) only[go_sem,simprocAttr,a1,a2,a3,aP,mc,mn,hh,hal]|((first|rw[aM]|rw[aI]|rw[aH]|rw[aO]|rw[aL]|rw[aJ]|rw[aG]|rw[aN]|skip);split)))
set_option maxRecDepth 8000
set_option maxHeartbeats 4000000
def Sf:List Int→Bool
 |a::_::d::r=>inB a 1 2&& !(decide (a=1)&& !decide (d=0))&&Sf r
 |_=>true
theorem zJ6:∀(l:List Int),l.length % 3=0→Sf l=El l
 |[],_=>rfl
 |[_],h=>by simp at h
 |[_,_],h=>by simp at h
 |a::b::d::r,h=>by
  rw[Sf,El,zJ6 r (by simp only[lc] at h;omega)]
abbrev vpT(x:ZA):X:= .vp [I x.fOp,I x.fD,I x.fA,I x.fB,I x.fN,Str x.fS,.d (.r (aP x.fArgs))]
theorem zR(x:ZA)(hl:x.fArgs.length≤1048576):∀(k:Nat) (Bl:List Int) (j:Int),Bl.length≤k→x.fArgs.drop j.toNat=Bl→0≤j→j≤1048580 →
  loopW tab [2,5] lH {env:=upd (upd emp 5 (some (I j))) 2 (some (vpT x)),heap:=emp,fr:=0,next:=0}=if Sf Bl=true then some (.ext 1,{env:=upd emp 2 (some (vpT x)),heap:=emp,fr:=0,next:=0}) else some (.ret,{env:=upd emp 4 (some (B false)),heap:=emp,fr:=0,next:=0})
 |_,[],j,hk,hd,hj,hj2=>by
  unfold loopW
  conv=>lhs;arg 1;unfold lH
  have h1:=dW hd hj
  simp only[Sf,if_true]
  (repeat'(first|simp -implicitDefEqProofs (disch:=first|assumption|omega|(simp only[aE,aF,aD,i64,sa,aB,lm,la,lc,ln];omega)) only[go_sem,simprocAttr]|((first|rw[aM]|rw[aI]|rw[aH]|rw[aO]|rw[aL]|rw[aJ]|rw[aG]|rw[aN]|skip);split)))
 |0,_::_,j,hk,hd,hj,hj2=>by simp at hk
 |k+1,a::Bl,j,hk,hd,hj,hj2=>by
  unfold loopW
  conv=>lhs;arg 1;unfold lH
  have h1:=b7 hd hj
  have h5:=h1.2.1
  have h2:=kH (fun n=>[DI n]) h1.1
  have hi:=cT a 1 2
  have hlen:=h1.2.2.2.2
  match Bl,h1,hlen with
  |[],h1,hlen =>
   simp only[ln] at hlen
   simp only[Sf,if_true]
   (repeat'(first|simp -implicitDefEqProofs (disch:=first|assumption|omega|(simp only[aE,aF,aD,i64,sa,aB,lm,la,lc,ln];omega)) only[go_sem,simprocAttr,h2]|((first|rw[aM]|rw[aI]|rw[aH]|rw[aO]|rw[aL]|rw[aJ]|rw[aG]|rw[aN]|skip);split)))
  |[b],h1,hlen =>
   simp only[lc,ln] at hlen
   simp only[Sf,if_true]
   (repeat'(first|simp -implicitDefEqProofs (disch:=first|assumption|omega|(simp only[aE,aF,aD,i64,sa,aB,lm,la,lc,ln];omega)) only[go_sem,simprocAttr,h2]|((first|rw[aM]|rw[aI]|rw[aH]|rw[aO]|rw[aL]|rw[aJ]|rw[aG]|rw[aN]|skip);split)))
  |b::d::Bl,h1,hlen =>
   simp only[lc] at hlen
   have hd3:x.fArgs.drop (j+3).toNat=Bl:=by
    have:=congrArg (List.drop 2) h1.2.2.1
    rw[List.drop_drop] at this
    simp only[List.drop_succ_cons,List.drop_zero] at this
    rw[←this]
    congr 1;omega
   have ih:=zR x hl k Bl (j+3) (by simp only[lc] at hk;omega) hd3 (by omega) (by omega)
   obtain⟨v,hv,hv2⟩:=zYu x.fArgs (j:=j+2) (by omega) (by omega)
   have hvd:v=d:=by
    have h3:=congrArg (fun l=>l[1]?) h1.2.2.1
    simp only[List.getElem?_drop,List.getElem?_cons_succ,List.getElem?_cons_zero] at h3
    rw[show(j+1).toNat+1=(j+2).toNat by omega,hv2] at h3
    simpa using h3
   subst hvd
   rw[Sf]
   cases c:inB a 1 2<;>rw[c] at hi<;>simp only[bta,bfa]<;>(repeat'(first|simp -implicitDefEqProofs (disch:=first|assumption|omega|(simp only[aE,aF,aD,i64,sa,aB,lm,la,lc,ln];omega)) only[go_sem,simprocAttr,h2,hi,hv,ih]|((first|rw[aM]|rw[aI]|rw[aH]|rw[aO]|rw[aL]|rw[aJ]|rw[aG]|rw[aN]|skip);split)))
theorem z6u{x:ZA}(h:¬x.fOp=19)(h2:¬x.fOp=22):hb x 32=decide (x.fOp=11∨x.fOp=14):=by
 unfold hb
 generalize x.fOp=op at *
 by_cases h3:1≤op∧op≤28
 ·rcases M6 h3.1 h3.2 with rfl|rfl|rfl|rfl|rfl|rfl|rfl|rfl|rfl|rfl|rfl|rfl|rfl|rfl|rfl|rfl|rfl|rfl|rfl|rfl|rfl|rfl|rfl|rfl|rfl|rfl|rfl|rfl<;>first|decide|exact absurd rfl h|exact absurd rfl h2
 ·have e:decide (op=11∨op=14)=false:=decide_eq_false (by omega)
  rw[e,Ct,if_neg h3]
  decide
theorem Lw(x:ZA)(m:Int)(hl:x.fArgs.length≤1048576):call tab Ax [x.x,I m]=some (B (sD x&&(!decide (x.fOp=19)||inB x.fN 0 1))):=by
 rw[aQ Oj _ rfl,C0,sD]
 have h0:=zR x hl x.fArgs.length x.fArgs 0 (Nat.le_refl _) rfl (by omega) (by omega)
 have a1:=bT x (88,32) (by simp)
 have a2:=cT x.fArgs.length 3 9
 have a3:=cT x.fN 0 1
 have m1:((x.fArgs.length:Int)).tmod 3=((x.fArgs.length % 3:Nat):Int):=by have:=Ci (n:=(x.fArgs.length:Int)) (by omega) 3;simpa using this
 by_cases c0:x.fOp=19
 ·have k0:decide (x.fOp=19)=true:=decide_eq_true c0
  rw[if_pos c0]
  simp only[k0,Bool.not_true,Bool.false_or]
  by_cases c3:x.fArgs.length % 3=0
  ·rw[zJ6 _ c3] at h0
   rw[c3] at m1
   have e:(decide ((x.fArgs.length:Int)=3)||decide ((x.fArgs.length:Int)=6)||decide ((x.fArgs.length:Int)=9))=inB x.fArgs.length 3 9:=by
    rw[Bool.eq_iff_iff];simp[inB];omega
   rw[e]
   cases ct:El x.fArgs<;>simp only[ct,Bool.false_eq_true,if_true,if_false] at h0
   ·(repeat'(first|simp -implicitDefEqProofs (disch:=first|assumption|omega|(simp only[aE,aF,aD,i64,sa,aB,lm,la,lc,ln];omega)) only[go_sem,simprocAttr,h0]|((first|rw[aM]|rw[aI]|rw[aH]|rw[aO]|rw[aL]|rw[aJ]|rw[aG]|rw[aN]|skip);split)))
   ·cases c4:inB x.fArgs.length 3 9<;>rw[c4] at a2
    ·(repeat'(first|simp -implicitDefEqProofs (disch:=first|assumption|omega|(simp only[aE,aF,aD,i64,sa,aB,lm,la,lc,ln];omega)) only[go_sem,simprocAttr,h0,m1,a2]|((first|rw[aM]|rw[aI]|rw[aH]|rw[aO]|rw[aL]|rw[aJ]|rw[aG]|rw[aN]|skip);split)))
    ·cases c5:inB x.fN 0 1<;>rw[c5] at a3<;>(repeat'(first|simp -implicitDefEqProofs (disch:=first|assumption|omega|(simp only[aE,aF,aD,i64,sa,aB,lm,la,lc,ln];omega)) only[go_sem,simprocAttr,h0,m1,a2,a3]|((first|rw[aM]|rw[aI]|rw[aH]|rw[aO]|rw[aL]|rw[aJ]|rw[aG]|rw[aN]|skip);split)))
  ·have e:(decide ((x.fArgs.length:Int)=3)||decide ((x.fArgs.length:Int)=6)||decide ((x.fArgs.length:Int)=9))=false:=by
    rw[Bool.eq_false_iff];simp;omega
   rw[e]
   have c6:¬((x.fArgs.length % 3:Nat):Int)=0:=by omega
   generalize ((x.fArgs.length % 3:Nat):Int)=q at m1 c6
   cases ct:Sf x.fArgs<;>simp only[ct,Bool.false_eq_true,if_true,if_false] at h0<;>(repeat'(first|simp -implicitDefEqProofs (disch:=first|assumption|omega|(simp only[aE,aF,aD,i64,sa,aB,lm,la,lc,ln];omega)) only[go_sem,simprocAttr,h0,m1]|((first|rw[aM]|rw[aI]|rw[aH]|rw[aO]|rw[aL]|rw[aJ]|rw[aG]|rw[aN]|skip);split)))
   all_goals simp
 ·have k0:decide (x.fOp=19)=false:=decide_eq_false c0
  rw[if_neg c0]
  simp only[k0,Bool.not_false,Bool.true_or,bat]
  by_cases c1:x.fOp=22
  ·rw[if_pos c1]
   (repeat'(first|simp -implicitDefEqProofs (disch:=first|assumption|omega|(simp only[aE,aF,aD,i64,sa,aB,lm,la,lc,ln];omega)) only[go_sem,simprocAttr]|((first|rw[aM]|rw[aI]|rw[aH]|rw[aO]|rw[aL]|rw[aJ]|rw[aG]|rw[aN]|skip);split)))
  ·rw[if_neg c1]
   rw[z6u c0 c1] at a1
   by_cases c2:x.fOp=11∨x.fOp=14
   ·rw[if_pos c2]
    rw[decide_eq_true c2] at a1
    (repeat'(first|simp -implicitDefEqProofs (disch:=first|assumption|omega|(simp only[aE,aF,aD,i64,sa,aB,lm,la,lc,ln];omega)) only[go_sem,simprocAttr,a1]|((first|rw[aM]|rw[aI]|rw[aH]|rw[aO]|rw[aL]|rw[aJ]|rw[aG]|rw[aN]|skip);split)))
   ·rw[if_neg c2]
    rw[decide_eq_false c2] at a1
    (repeat'(first|simp -implicitDefEqProofs (disch:=first|assumption|omega|(simp only[aE,aF,aD,i64,sa,aB,lm,la,lc,ln];omega)) only[go_sem,simprocAttr,a1]|((first|rw[aM]|rw[aI]|rw[aH]|rw[aO]|rw[aL]|rw[aJ]|rw[aG]|rw[aN]|skip);split)))
theorem zy5(op:Int):decide (m6 op=⟨#[]⟩)= !inB op 1 28:=by
 by_cases h:1≤op∧op≤28
 ·have e:inB op 1 28=true:=by simp[inB,h.1,h.2]
  rw[e]
  rcases M6 h.1 h.2 with rfl|rfl|rfl|rfl|rfl|rfl|rfl|rfl|rfl|rfl|rfl|rfl|rfl|rfl|rfl|rfl|rfl|rfl|rfl|rfl|rfl|rfl|rfl|rfl|rfl|rfl|rfl|rfl<;>decide
 ·have e:inB op 1 28=false:=by simp only[inB,←Bool.decide_and];exact decide_eq_false h
  rw[e,m6,if_neg h]
  decide
theorem Je(r m:Int)(hm:i64 (m-1))(k:Nat)(h:Heap)(fr:Nat)(h1:1≤fr)(hk:h (0,k)=some (.s 1 [[DI m]]))(hh:a8 fr h=h):evCW tab gW [I r,.ptr (0,k) [] 0 0] h fr=some (B (!inB r 0 (m-1)),h):=by
 rw[bU Ky _ _ _ rfl,Ar]
 (repeat'(first|simp -implicitDefEqProofs (disch:=first|assumption|omega|(simp only[aE,aF,aD,i64,sa,aB,lm,la,lc,ln];omega)) only[go_sem,simprocAttr,cT,hk,hh]|((first|rw[aM]|rw[aI]|rw[aH]|rw[aO]|rw[aL]|rw[aJ]|rw[aG]|rw[aN]|skip);split)))
theorem S4(k:Nat)(h:Heap)(x:Option D):a8 2 (upd h (0,k) x)=upd (a8 2 h) (0,k) x:=zku 1 k h x
theorem zWY(k:Nat)(h:Heap)(x:Option D):a8 3 (upd h (0,k) x)=upd (a8 3 h) (0,k) x:=zku 2 k h x
theorem P7(x:ZA)(m:Int)(hl:x.fArgs.length≤1048576)(hm:i64 (m-1)):call tab Em [x.x,I m]=some (B (Um x m)):=by
 rw[aQ Sk _ rfl,Fu,Um]
 have a0:=Fv x.fOp
 have e0:=zy5 x.fOp
 have a1:=Pm x.fN
 have a2:=Lw x m hl
 have b1:=bT x (68,1) (by simp)
 have b2:=bT x (65,2) (by simp)
 have b4:=bT x (66,4) (by simp)
 have b8:=bT x (78,8) (by simp)
 have b16:=bT x (83,16) (by simp)
 have s1:=vT x
 have s2:=uJ x
 have hal:=Sn (dK x)
 cases c1:inB x.fOp 1 28<;>rw[c1] at e0
 ·(repeat'(first|simp -implicitDefEqProofs (disch:=first|assumption|omega|(simp only[aE,aF,aD,i64,sa,aB,lm,la,lc,ln];omega)) only[go_sem,simprocAttr,a0,e0]|((first|rw[aM]|rw[aI]|rw[aH]|rw[aO]|rw[aL]|rw[aJ]|rw[aG]|rw[aN]|skip);split)))
 cases c5:zYT x.fN<;>rw[c5] at a1
 ·(repeat'(first|simp -implicitDefEqProofs (disch:=first|assumption|omega|(simp only[aE,aF,aD,i64,sa,aB,lm,la,lc,ln];omega)) only[go_sem,simprocAttr,a0,e0,a1]|((first|rw[aM]|rw[aI]|rw[aH]|rw[aO]|rw[aL]|rw[aJ]|rw[aG]|rw[aN]|skip);split)))
  all_goals simp
 cases c2:(sD x&&(!decide (x.fOp=19)||inB x.fN 0 1))<;>rw[c2] at a2
 ·have e:(true&&sD x&&Bj x m&&(!decide (x.fOp=19)||inB x.fN 0 1))=false:=by
   revert c2;cases sD x<;>cases Bj x m<;>cases (!decide (x.fOp=19)||inB x.fN 0 1)<;>simp
  rw[e]
  (repeat'(first|simp -implicitDefEqProofs (disch:=first|assumption|omega|(simp only[aE,aF,aD,i64,sa,aB,lm,la,lc,ln];omega)) only[go_sem,simprocAttr,a0,e0,a1,a2]|((first|rw[aM]|rw[aI]|rw[aH]|rw[aO]|rw[aL]|rw[aJ]|rw[aG]|rw[aN]|skip);split)))
 ·have e:(true&&sD x&&Bj x m&&(!decide (x.fOp=19)||inB x.fN 0 1))=Bj x m:=by
   rw[bE] at c2
   rw[c2.1,c2.2];simp
  rw[e]
  have h0:=fun (j k:Nat) (h:Heap) (hk:h (0,k)=some (.s 1 [[DI m]])) (hj:h (0,j)=some (.s 1 (aP (aY x++dK x)))) (h1:a8 1 h=h) (h2:a8 2 h=h) (h3:a8 3 h=h)=>rL gW (fun r=> !inB r 0 (m-1)) h 1 h1 h2 (aY x++dK x) (by simp;omega) k j (by omega) hj (fun r _=>Je r m hm k h 3 (by omega) hk h3)
  rw[zYy,←Bj] at h0
  simp only[aP,List.map_append] at h0
  have h1:=h0 2432 32 (upd (upd (upd (upd (upd (upd emp (0,32) (some (.s 1 [[DI m]]))) (0,2336) (some (.s 1 (aP (aY x))))) (0,2400) (some (.s 1 (aP (dK x))))) (0,2336) none) (0,2400) none) (0,2432) (some (.s 1 (aP (aY x)++aP (dK x))))) (by simp[upd]) (by simp[upd]) (by simp only[J8,iW]) (by simp only[S4,iW]) (by simp only[zWY,iW])
  simp only[aP] at h1
  clear h0
  (repeat'(first|simp -implicitDefEqProofs (disch:=first|assumption|omega|(simp only[aE,aF,aD,i64,sa,aB,lm,la,lc,ln];omega)) only[go_sem,simprocAttr,a0,e0,a1,a2,b1,b2,b4,b8,b16,wP x,E4 x hl,hal,aP,h1]|((first|rw[aM]|rw[aI]|rw[aH]|rw[aO]|rw[aL]|rw[aJ]|rw[aG]|rw[aN]|skip);split)))
  all_goals(clear h1;simp_all)
set_option maxRecDepth 8000
set_option maxHeartbeats 4000000
theorem Fk(t:ZA)(m:Int)(k:Nat)(h:Heap)(fr:Nat)(h1:1≤fr)(hk:h (0,k)=some (.s 1 [[DI m]]))(hh:a8 fr h=h):evCW tab mV [t.x,.ptr (0,k) [] 0 0] h fr=some (B (rT m t),h):=by
 rw[bU He _ _ _ rfl,vS,rT]
 (repeat'(first|simp -implicitDefEqProofs (disch:=first|assumption|omega|(simp only[aE,aF,aD,i64,sa,aB,lm,la,lc,ln];omega)) only[go_sem,simprocAttr,hk,hh]|((first|rw[aM]|rw[aI]|rw[aH]|rw[aO]|rw[aL]|rw[aJ]|rw[aG]|rw[aN]|skip);split)))
theorem x9(v0:List ZA)(m:Int)(hl:v0.length≤1048576):call tab jZ [.d (.r (v0.map ZA.r)),I m]=some (I (fU v0 m)):=by
 rw[aQ Lh _ rfl,A1,fU]
 have h0:=uI mV (rT m) (upd emp (0,0) (some (.s 1 [[DI m]]))) 1 (by simp only[J8,iW]) v0 (by omega) 0 (by omega) (fun t _=>Fk t m 0 _ 2 (by omega) (by simp[upd]) (by simp only[S4,iW]))
 (repeat'(first|simp -implicitDefEqProofs (disch:=first|assumption|omega|(simp only[aE,aF,aD,i64,sa,aB,lm,la,lc,ln];omega)) only[go_sem,simprocAttr,h0]|((first|rw[aM]|rw[aI]|rw[aH]|rw[aO]|rw[aL]|rw[aJ]|rw[aG]|rw[aN]|skip);split)))
theorem Eo(op:Int):call tab pX [I op]=some (B (decide (op=12)||decide (op=9)||decide (op=28))):=by
 rw[aQ V4 _ rfl,H5]
 (repeat'(first|simp -implicitDefEqProofs (disch:=first|assumption|omega|(simp only[aE,aF,aD,i64,sa,aB,lm,la,lc,ln];omega)) only[go_sem,simprocAttr]|((first|rw[aM]|rw[aI]|rw[aH]|rw[aO]|rw[aL]|rw[aJ]|rw[aG]|rw[aN]|skip);split)))
theorem Af(u:ZB)(hs:u.sm)(hr:i64 (u.fRegs-1))(hr2:u.fCode.length≤1048576):∀(Bl:List ZA) (j:Int),u.fCode.drop j.toNat=Bl→0≤j →
  loopW tab [1,26,27,28] lN {env:=upd (upd (upd (upd emp 28 (some (I j))) 27 (some (I (u.fCode.length:Int)))) 26 (some (.d (.r (u.fCode.map ZA.r))))) 1 (some (vpU u)),heap:=emp,fr:=0,next:=0}=if kL u j Bl=true then some (.ext 0,{env:=upd emp 1 (some (vpU u)),heap:=emp,fr:=0,next:=0}) else some (.ret,{env:=upd emp 2 (some (B false)),heap:=emp,fr:=0,next:=0})
 |[],j,hd,hj=>by
  unfold loopW
  conv=>lhs;arg 1;unfold lN
  have h1:=dW hd hj
  (repeat'(first|simp -implicitDefEqProofs (disch:=first|assumption|omega|(simp only[aE,aF,aD,i64,sa,aB,lm,la,lc,ln];omega)) only[go_sem,simprocAttr,kL]|((first|rw[aM]|rw[aI]|rw[aH]|rw[aO]|rw[aL]|rw[aJ]|rw[aG]|rw[aN]|skip);split)))
 |t::Bl,j,hd,hj=>by
  unfold loopW
  conv=>lhs;arg 1;unfold lN
  have h1:=b7 hd hj
  have h5:=h1.2.1
  have h2:=kH ZA.r h1.1
  simp only[ZA.r] at h2
  have hsx:=(hs.2.2 t h1.2.2.2.1).2
  have ih:=Af u hs hr hr2 Bl (j+1) h1.2.2.1 (by omega)
  have a1:=P7 t u.fRegs hsx hr
  have a2:=x9 u.fCode t.fN hr2
  have a3:=cT t.fN 0 900
  rw[kL,y7]
  cases c1:Um t u.fRegs<;>rw[c1] at a1
  ·(repeat'(first|simp -implicitDefEqProofs (disch:=first|assumption|omega|(simp only[aE,aF,aD,i64,sa,aB,lm,la,lc,ln];omega)) only[go_sem,simprocAttr,h2,a1]|((first|rw[aM]|rw[aI]|rw[aH]|rw[aO]|rw[aL]|rw[aJ]|rw[aG]|rw[aN]|skip);split)))
  ·cases c2:inB t.fN 0 900<;>rw[c2] at a3
   ·(repeat'(first|simp -implicitDefEqProofs (disch:=first|assumption|omega|(simp only[aE,aF,aD,i64,sa,aB,lm,la,lc,ln];omega)) only[go_sem,simprocAttr,h2,a1,a2,a3,ih]|((first|rw[aM]|rw[aI]|rw[aH]|rw[aO]|rw[aL]|rw[aJ]|rw[aG]|rw[aN]|skip);split)))
    all_goals(clear ih;simp_all)
    all_goals omega
   ·(repeat'(first|simp -implicitDefEqProofs (disch:=first|assumption|omega|(simp only[aE,aF,aD,i64,sa,aB,lm,la,lc,ln];omega)) only[go_sem,simprocAttr,h2,a1,a2,a3,ih]|((first|rw[aM]|rw[aI]|rw[aH]|rw[aO]|rw[aL]|rw[aJ]|rw[aG]|rw[aN]|skip);split)))
    all_goals(clear ih;simp_all)
    all_goals omega
theorem jN(u:ZB)(hs:u.sm):call tab jF [u.x]=some (B (jR u)):=by
 rw[aQ Pe _ rfl,Ds,jR]
 have b1:=cT u.fRegs 0 250
 have b3:=cT u.fParams 0 (if 4<u.fRegs then 4 else u.fRegs)
 have b5:(if u.fRegs<4 then u.fRegs else 4)=(if 4<u.fRegs then(4:Int) else u.fRegs):=by split<;>split<;>omega
 have b4:=cT u.fCode.length 1 900
 have hl:=hs.2.1
 cases c1:inB u.fRegs 0 250<;>rw[c1] at b1
 ·(repeat'(first|simp -implicitDefEqProofs (disch:=first|assumption|omega|(simp only[aE,aF,aD,i64,sa,aB,lm,la,lc,ln];omega)) only[go_sem,simprocAttr,b1]|((first|rw[aM]|rw[aI]|rw[aH]|rw[aO]|rw[aL]|rw[aJ]|rw[aG]|rw[aN]|skip);split)))
 cases c2:inB u.fParams 0 (if 4<u.fRegs then 4 else u.fRegs)<;>rw[c2] at b3
 ·generalize (if 4<u.fRegs then(4:Int) else u.fRegs)=mn at *
  (repeat'(first|simp -implicitDefEqProofs (disch:=first|assumption|omega|(simp only[aE,aF,aD,i64,sa,aB,lm,la,lc,ln];omega)) only[go_sem,simprocAttr,b1,b5,b3]|((first|rw[aM]|rw[aI]|rw[aH]|rw[aO]|rw[aL]|rw[aJ]|rw[aG]|rw[aN]|skip);split)))
 cases c3:inB u.fCode.length 1 900<;>rw[c3] at b4
 ·generalize (if 4<u.fRegs then(4:Int) else u.fRegs)=mn at *
  (repeat'(first|simp -implicitDefEqProofs (disch:=first|assumption|omega|(simp only[aE,aF,aD,i64,sa,aB,lm,la,lc,ln];omega)) only[go_sem,simprocAttr,b1,b5,b3,b4]|((first|rw[aM]|rw[aI]|rw[aH]|rw[aO]|rw[aL]|rw[aJ]|rw[aG]|rw[aN]|skip);split)))
 have g1:0≤u.fRegs∧u.fRegs≤250:=by simpa[inB] using c1
 have g3:1≤(u.fCode.length:Int)∧(u.fCode.length:Int)≤900:=by simpa[inB] using c3
 have h0:=Af u hs ⟨by omega,by omega⟩ hl u.fCode 0 rfl (by omega)
 obtain⟨t,ht,ht2,_⟩:=Y1 (l:=u.fCode) (by omega)
 have ht3:=Eo t.fOp
 simp only[ZA.r] at ht2
 simp only[zqm,ht]
 generalize (if 4<u.fRegs then(4:Int) else u.fRegs)=mn at *
 cases c4:kL u 0 u.fCode<;>simp only[c4,Bool.false_eq_true,if_true,if_false] at h0
 ·(repeat'(first|simp -implicitDefEqProofs (disch:=first|assumption|omega|(simp only[aE,aF,aD,i64,sa,aB,lm,la,lc,ln];omega)) only[go_sem,simprocAttr,b1,b5,b3,b4,h0]|((first|rw[aM]|rw[aI]|rw[aH]|rw[aO]|rw[aL]|rw[aJ]|rw[aG]|rw[aN]|skip);split)))
 ·(repeat'(first|simp -implicitDefEqProofs (disch:=first|assumption|omega|(simp only[aE,aF,aD,i64,sa,aB,lm,la,lc,ln];omega)) only[go_sem,simprocAttr,b1,b5,b3,b4,h0,ht2,ht3]|((first|rw[aM]|rw[aI]|rw[aH]|rw[aO]|rw[aL]|rw[aJ]|rw[aG]|rw[aN]|skip);split)))
end Go.Ev.G
