import Derived.Test.YtenclibcnjkamaaGreatEvQUnit2
import Derived.Test.YtenclibcnjkamaaGreatEvPMach
set_option linter.all false
namespace Go.Ev.G
set_option maxRecDepth 8000
set_option maxHeartbeats 4000000
def z8f:List Int:=[0,9,3,7,7,7,7,7,8,8,10,49,2,2,48,3,6,3,2,45,3,6,39,1,17,2,6,6,2]
def fZ(op:Int):Int:=if 1≤op∧op≤28 then(z8f[op.toNat]?).getD 0 else 0
theorem On{op:Int}(h:1≤op)(h2:op≤28):op=1∨op=2∨op=3∨op=4∨op=5∨op=6∨op=7∨op=8∨op=9∨op=10∨op=11∨op=12∨op=13∨op=14∨op=15∨op=16∨op=17∨op=18∨op=19∨op=20∨op=21∨op=22∨op=23∨op=24∨op=25∨op=26∨op=27∨op=28:=by omega
theorem d7(op:Int):call tab qH [I op]=some (I (fZ op)):=by
 rw[aT Sw _ rfl,Fg]
 have h3:=d3 op 1 28
 by_cases h:1≤op∧op≤28
 ·obtain⟨h1,h2⟩:=h
  have h4:inB op 1 28=true:=by simp[inB,h1,h2]
  rw[h4] at h3
  rw[fZ,if_pos ⟨h1,h2⟩]
  rcases On h1 h2 with rfl|rfl|rfl|rfl|rfl|rfl|rfl|rfl|rfl|rfl|rfl|rfl|rfl|rfl|rfl|rfl|rfl|rfl|rfl|rfl|rfl|rfl|rfl|rfl|rfl|rfl|rfl|rfl<;>simp -implicitDefEqProofs (disch:=first|assumption|omega|(simp only[aE,aL,aF,i64,sa,aB,lm,la,lc,ln];omega)) only[go_sem,simprocAttr,h3,z8f]
 ·have h4:inB op 1 28=false:=by simp only[inB,←Bool.decide_and];exact decide_eq_false h
  rw[h4] at h3
  rw[fZ,if_neg h]
  simp -implicitDefEqProofs (disch:=first|assumption|omega|(simp only[aE,aL,aF,i64,sa,aB,lm,la,lc,ln];omega)) only[go_sem,simprocAttr,h3]
def hb(x:ZC)(m:Int):Bool:=jC (fZ x.fOp) m
theorem Q0(x:ZC)(m:Int):decide (bits .and .i64 (fZ x.fOp) m=0)= !hb x m:=by simp[hb,jC]
def bA(x:ZC):List Int:=(if hb x 1=true then [x.fD] else [])++(if x.fOp=19 then [x.fB] else [])
theorem rY(x:ZC):call tab sB [x.x]=some (.d (.s 1 (aG (bA x)))):=by
 rw[aT zzX _ rfl,K4,bA]
 have e:=Q0 x 1
 (repeat'(first|simp -implicitDefEqProofs (disch:=first|assumption|omega|(simp only[aE,aL,aF,i64,sa,aB,lm,la,lc,ln];omega)) only[go_sem,simprocAttr,d7,e,mc,mn]|((first|rw[aP]|rw[aJ]|rw[aI]|rw[aQ]|rw[aO]|rw[aK]|rw[aH]|rw[aN]|skip);split)))
def z7u(args:List Int)(i:Nat):Bool:=decide (i % 3=1)||(decide (i % 3=2)&&decide (args[i-2]? = some 2))
def wX(x:ZC):Nat→List Int→List Int
 |_,[]=>[]
 |q,y::ys=>(if (!decide (x.fOp=19)||z7u x.fArgs q)=true then [y] else [])++wX x (q+1) ys
theorem zV(x:ZC)(hl:x.fArgs.length≤1048576)(h32:hb x 32=true):∀(Bl:List Int) (j:Nat) (A:List Int),x.fArgs.drop j=Bl→A.length≤j+2 →
  loopW tab [1,3,4,5] kG {env:=upd (upd (upd (upd emp 5 (some (I (j:Int)))) 4 (some (I (fZ x.fOp)))) 3 (some (.ref (0,0) []))) 1 (some (.vp [I x.fOp,I x.fD,I x.fA,I x.fB,I x.fN,Str x.fS,.d (.r (aG x.fArgs))])),heap:=upd emp (0,0) (some (.s 1 (aG A))),fr:=0,next:=1}=some (.ext 0,{env:=upd emp 3 (some (.ref (0,0) [])),heap:=upd emp (0,0) (some (.s 1 (aG (A++wX x j Bl)))),fr:=0,next:=1})
 |[],j,A,hd,hA=>by
  have hd2:x.fArgs.drop ((j:Int)).toNat=[]:=by simpa using hd
  have hj:(0:Int)≤j:=by omega
  unfold loopW
  conv=>lhs;arg 1;unfold kG
  have h1:=cJ hd2 hj
  (repeat'(first|simp -implicitDefEqProofs (disch:=first|assumption|omega|(simp only[aE,aL,aF,i64,sa,aB,lm,la,lc,ln];omega)) only[go_sem,simprocAttr,wX,zqe]|((first|rw[aP]|rw[aJ]|rw[aI]|rw[aQ]|rw[aO]|rw[aK]|rw[aH]|rw[aN]|skip);split)))
 |y::Bl,j,A,hd,hA=>by
  have hd2:x.fArgs.drop ((j:Int)).toNat=y::Bl:=by simpa using hd
  have hj:(0:Int)≤j:=by omega
  unfold loopW
  conv=>lhs;arg 1;unfold kG
  have h1:=bT hd2 hj
  have h5:=h1.2.1
  have h2:=d6 (fun n=>[DI n]) h1.1
  simp only[Int.toNat_natCast] at h2
  have h3:x.fArgs.drop (j+1)=Bl:=by have:=h1.2.2.1;rwa [show((j:Int)+1).toNat=j+1 by omega] at this
  have e:=Q0 x 32
  have m1:((j:Int)).tmod 3=((j % 3:Nat):Int):=by have:=uQ (n:=(j:Int)) (by omega) 3;simpa using this
  have ih1:=zV x hl h32 Bl (j+1) (A++[y]) h3 (by simp;omega)
  have ih2:=zV x hl h32 Bl (j+1) A h3 (by omega)
  rw[show((j+1:Nat):Int)=(j:Int)+1 by omega] at ih1 ih2
  rw[wX,←List.append_assoc]
  simp only[List.map_append,mc,mn] at ih1 ih2 ⊢
  by_cases c0:x.fOp=19
  ·have k0:decide (x.fOp=19)=true:=decide_eq_true c0
   simp only[k0,Bool.not_true,Bool.false_or,z7u]
   rcases (by omega:j % 3=0∨j % 3=1∨j % 3=2) with c1|c1|c1
   ·simp only[c1] at m1 ⊢
    (repeat'(first|simp -implicitDefEqProofs (disch:=first|assumption|omega|(simp only[aE,aL,aF,i64,sa,aB,lm,la,lc,ln];omega)) only[go_sem,simprocAttr,h2,e,h32,m1,ih2]|((first|rw[aP]|rw[aJ]|rw[aI]|rw[aQ]|rw[aO]|rw[aK]|rw[aH]|rw[aN]|skip);split)))
   ·simp only[c1] at m1 ⊢
    (repeat'(first|simp -implicitDefEqProofs (disch:=first|assumption|omega|(simp only[aE,aL,aF,i64,sa,aB,lm,la,lc,ln];omega)) only[go_sem,simprocAttr,h2,e,h32,m1,ih1]|((first|rw[aP]|rw[aJ]|rw[aI]|rw[aQ]|rw[aO]|rw[aK]|rw[aH]|rw[aN]|skip);split)))
   ·simp only[c1] at m1 ⊢
    have hj2:j-2<x.fArgs.length:=by omega
    obtain⟨v,hv,hv2⟩:=zYA x.fArgs (j:=(j:Int)-2) (by omega) (by omega)
    rw[show((j:Int)-2).toNat=j-2 by omega] at hv2
    by_cases c2:v=2
    ·subst c2
     simp only[hv2]
     (repeat'(first|simp -implicitDefEqProofs (disch:=first|assumption|omega|(simp only[aE,aL,aF,i64,sa,aB,lm,la,lc,ln];omega)) only[go_sem,simprocAttr,h2,e,h32,m1,hv,ih1]|((first|rw[aP]|rw[aJ]|rw[aI]|rw[aQ]|rw[aO]|rw[aK]|rw[aH]|rw[aN]|skip);split)))
    ·have:¬(some v=some (2:Int)):=by simpa using c2
     simp only[hv2,this]
     (repeat'(first|simp -implicitDefEqProofs (disch:=first|assumption|omega|(simp only[aE,aL,aF,i64,sa,aB,lm,la,lc,ln];omega)) only[go_sem,simprocAttr,h2,e,h32,m1,hv,c2,ih2]|((first|rw[aP]|rw[aJ]|rw[aI]|rw[aQ]|rw[aO]|rw[aK]|rw[aH]|rw[aN]|skip);split)))
  ·have k0:decide (x.fOp=19)=false:=decide_eq_false c0
   simp only[k0,Bool.not_false,Bool.true_or,if_true]
   (repeat'(first|simp -implicitDefEqProofs (disch:=first|assumption|omega|(simp only[aE,aL,aF,i64,sa,aB,lm,la,lc,ln];omega)) only[go_sem,simprocAttr,h2,e,h32,ih1]|((first|rw[aP]|rw[aJ]|rw[aI]|rw[aQ]|rw[aO]|rw[aK]|rw[aH]|rw[aN]|skip);split)))
def bB(x:ZC):List Int:=(if hb x 2=true then [x.fA] else [])++((if (hb x 4&& !decide (x.fOp=19))=true then [x.fB] else [])++(if hb x 32=true then wX x 0 x.fArgs else []))
theorem Tu(x:ZC)(hl:x.fArgs.length≤1048576)(h32:¬hb x 32=true)(w:List (List D)) :
  loopW tab [1,3,4,5] kG {env:=upd (upd (upd (upd emp 5 (some (I 0))) 4 (some (I (fZ x.fOp)))) 3 (some (.ref (0,0) []))) 1 (some (.vp [I x.fOp,I x.fD,I x.fA,I x.fB,I x.fN,Str x.fS,.d (.r (aG x.fArgs))])),heap:=upd emp (0,0) (some (.s 1 w)),fr:=0,next:=1}=some (.ext 0,{env:=upd emp 3 (some (.ref (0,0) [])),heap:=upd emp (0,0) (some (.s 1 w)),fr:=0,next:=1}):=by
 unfold loopW
 conv=>lhs;arg 1;unfold kG
 have e:=Q0 x 32
 (repeat'(first|simp -implicitDefEqProofs (disch:=first|assumption|omega|(simp only[aE,aL,aF,i64,sa,aB,lm,la,lc,ln];omega)) only[go_sem,simprocAttr,e]|((first|rw[aP]|rw[aJ]|rw[aI]|rw[aQ]|rw[aO]|rw[aK]|rw[aH]|rw[aN]|skip);split)))
theorem zL(x:ZC)(hl:x.fArgs.length≤1048576):call tab xL [x.x]=some (.d (.s 1 (aG (bB x)))):=by
 rw[aT Z8 _ rfl,K3,bB]
 have e2:=Q0 x 2
 have e4:=Q0 x 4
 have e32:=Q0 x 32
 by_cases c:hb x 32=true
 ·have ih:=fun A hA=>zV x hl c x.fArgs 0 A rfl hA
  simp only[Int.cast_ofNat_Int,aG,List.map_append] at ih
  have i0:=ih [] (by simp)
  have i1:=fun a=>ih [a] (by simp)
  have i2:=fun a b=>ih [a,b] (by simp)
  simp only[mc,mn,zqf,List.cons_append] at i0 i1 i2
  simp only[c,if_true]
  cases c2:hb x 2<;>cases c4:hb x 4<;>simp only[c2,c4,bfa,bta,Bool.false_eq_true,if_true,if_false] at e2 e4 ⊢
  ·(repeat'(first|simp -implicitDefEqProofs (disch:=first|assumption|omega|(simp only[aE,aL,aF,i64,sa,aB,lm,la,lc,ln];omega)) only[go_sem,simprocAttr,d7,e2,e4,c,i0,mc,mn,aG]|((first|rw[aP]|rw[aJ]|rw[aI]|rw[aQ]|rw[aO]|rw[aK]|rw[aH]|rw[aN]|skip);split)))
  ·by_cases c5:x.fOp=19
   ·(repeat'(first|simp -implicitDefEqProofs (disch:=first|assumption|omega|(simp only[aE,aL,aF,i64,sa,aB,lm,la,lc,ln];omega)) only[go_sem,simprocAttr,d7,e2,e4,c,i0,mc,mn,aG]|((first|rw[aP]|rw[aJ]|rw[aI]|rw[aQ]|rw[aO]|rw[aK]|rw[aH]|rw[aN]|skip);split)))
   ·(repeat'(first|simp -implicitDefEqProofs (disch:=first|assumption|omega|(simp only[aE,aL,aF,i64,sa,aB,lm,la,lc,ln];omega)) only[go_sem,simprocAttr,d7,e2,e4,c,i1,mc,mn,aG]|((first|rw[aP]|rw[aJ]|rw[aI]|rw[aQ]|rw[aO]|rw[aK]|rw[aH]|rw[aN]|skip);split)))
  ·(repeat'(first|simp -implicitDefEqProofs (disch:=first|assumption|omega|(simp only[aE,aL,aF,i64,sa,aB,lm,la,lc,ln];omega)) only[go_sem,simprocAttr,d7,e2,e4,c,i1,mc,mn,aG]|((first|rw[aP]|rw[aJ]|rw[aI]|rw[aQ]|rw[aO]|rw[aK]|rw[aH]|rw[aN]|skip);split)))
  ·by_cases c5:x.fOp=19
   ·(repeat'(first|simp -implicitDefEqProofs (disch:=first|assumption|omega|(simp only[aE,aL,aF,i64,sa,aB,lm,la,lc,ln];omega)) only[go_sem,simprocAttr,d7,e2,e4,c,i1,mc,mn,aG]|((first|rw[aP]|rw[aJ]|rw[aI]|rw[aQ]|rw[aO]|rw[aK]|rw[aH]|rw[aN]|skip);split)))
   ·(repeat'(first|simp -implicitDefEqProofs (disch:=first|assumption|omega|(simp only[aE,aL,aF,i64,sa,aB,lm,la,lc,ln];omega)) only[go_sem,simprocAttr,d7,e2,e4,c,i2,mc,mn,aG]|((first|rw[aP]|rw[aJ]|rw[aI]|rw[aQ]|rw[aO]|rw[aK]|rw[aH]|rw[aN]|skip);split)))
 ·have i0:=Tu x hl c
  simp only[c,Bool.false_eq_true,if_false,zqe]
  cases c2:hb x 2<;>cases c4:hb x 4<;>simp only[c2,c4,bfa,bta,Bool.false_eq_true,if_true,if_false] at e2 e4 ⊢ <;> (repeat'(first|simp -implicitDefEqProofs (disch:=first|assumption|omega|(simp only[aE,aL,aF,i64,sa,aB,lm,la,lc,ln];omega)) only[go_sem,simprocAttr,d7,e2,e4,i0,mc,mn,aG]|((first|rw[aP]|rw[aJ]|rw[aI]|rw[aQ]|rw[aO]|rw[aK]|rw[aH]|rw[aN]|skip);split)))
def Cx(x:ZC)(m:Int):Bool:=(bA x++bB x).all fun r=>inB r 0 (m-1)
theorem As(m:Int)(hm:i64 (m-1))(v5:List Int)(hl:v5.length≤2097152):∀(Bl:List Int) (j:Int),v5.drop j.toNat=Bl→0≤j →
  loopW tab [1,5,6] mJ {env:=upd (upd (upd emp 6 (some (I j))) 5 (some (.ref (0,0) []))) 1 (some (I m)),heap:=upd emp (0,0) (some (.s 1 (aG v5))),fr:=0,next:=1}=if (Bl.all fun r=>inB r 0 (m-1))=true then some (.ext 0,{env:=emp,heap:=emp,fr:=0,next:=0}) else some (.ret,{env:=upd emp 4 (some (B false)),heap:=emp,fr:=0,next:=0})
 |[],j,hd,hj=>by
  unfold loopW
  conv=>lhs;arg 1;unfold mJ
  have h1:=cJ hd hj
  (repeat'(first|simp -implicitDefEqProofs (disch:=first|assumption|omega|(simp only[aE,aL,aF,i64,sa,aB,lm,la,lc,ln];omega)) only[go_sem,simprocAttr]|((first|rw[aP]|rw[aJ]|rw[aI]|rw[aQ]|rw[aO]|rw[aK]|rw[aH]|rw[aN]|skip);split)))
 |y::Bl,j,hd,hj=>by
  unfold loopW
  conv=>lhs;arg 1;unfold mJ
  have h1:=bT hd hj
  have h5:=h1.2.1
  have h2:=d6 (fun n=>[DI n]) h1.1
  have ih:=As m hm v5 hl Bl (j+1) h1.2.2.1 (by omega)
  have hi:=d3 y 0 (m-1)
  rw[List.all_cons]
  cases c:inB y 0 (m-1)<;>rw[c] at hi<;>(repeat'(first|simp -implicitDefEqProofs (disch:=first|assumption|omega|(simp only[aE,aL,aF,i64,sa,aB,lm,la,lc,ln];omega)) only[go_sem,simprocAttr,h2,hi,ih]|((first|rw[aP]|rw[aJ]|rw[aI]|rw[aQ]|rw[aO]|rw[aK]|rw[aH]|rw[aN]|skip);split)))
theorem n6(x:ZC):(bA x).length≤2:=by
 unfold bA
 split<;>split<;>simp
theorem T3(x:ZC):∀(q:Nat) (l:List Int),(wX x q l).length≤l.length
 |_,[]=>by simp[wX]
 |q,y::ys=>by
  have:=T3 x (q+1) ys
  rw[wX]
  split<;>simp<;>omega
theorem pK(x:ZC):(bB x).length≤x.fArgs.length+2:=by
 unfold bB
 have:=T3 x 0 x.fArgs
 split<;>split<;>split<;>simp<;>omega
theorem V8(l:List Int):((l.map fun n=>[DI n]).all fun el=>el.length==1)=true:=by simp
theorem Lc(x:ZC)(m:Int)(hl:x.fArgs.length≤1048576)(hm:i64 (m-1)):call tab yV [x.x,I m]=some (B (Cx x m)):=by
 rw[aT O6 _ rfl,Dr,Cx]
 have h1:=n6 x
 have h2:=pK x
 have h0:=As m hm (bA x++bB x) (by simp;omega) (bA x++bB x) 0 rfl (by omega)
 simp only[aG,List.map_append] at h0
 cases c:(bA x++bB x).all fun r=>inB r 0 (m-1)<;>simp only[c,Bool.false_eq_true,if_true,if_false] at h0<;>(repeat'(first|simp -implicitDefEqProofs (disch:=first|assumption|omega|(simp only[aE,aL,aF,i64,sa,aB,lm,la,lc,ln];omega)) only[go_sem,simprocAttr,rY x,zL x hl,h0,aG,V8]|((first|rw[aP]|rw[aJ]|rw[aI]|rw[aQ]|rw[aO]|rw[aK]|rw[aH]|rw[aN]|skip);split)))
def F2:List Int→Bool
 |[]=>true
 |[a]=>inB a 1 2
 |[a,_]=>inB a 1 2
 |a::_::d::r=>inB a 1 2&& !(decide (a=1)&& !decide (d=0))&&F2 r
theorem Ag(x:ZC)(hl:x.fArgs.length≤1048576):∀(k:Nat) (Bl:List Int) (j:Int),Bl.length≤k→x.fArgs.drop j.toNat=Bl→0≤j→j≤1048580 →
  loopW tab [1,3,4] l4 {env:=upd (upd (upd emp 4 (some (I j))) 3 (some (I (x.fArgs.length:Int)))) 1 (some (.vp [I x.fOp,I x.fD,I x.fA,I x.fB,I x.fN,Str x.fS,.d (.r (aG x.fArgs))])),heap:=emp,fr:=0,next:=0}=if F2 Bl=true then some (.ext 1,{env:=upd emp 3 (some (I (x.fArgs.length:Int))),heap:=emp,fr:=0,next:=0}) else some (.ret,{env:=upd emp 2 (some (B false)),heap:=emp,fr:=0,next:=0})
 |_,[],j,hk,hd,hj,hj2=>by
  unfold loopW
  conv=>lhs;arg 1;unfold l4
  have h1:=cJ hd hj
  (repeat'(first|simp -implicitDefEqProofs (disch:=first|assumption|omega|(simp only[aE,aL,aF,i64,sa,aB,lm,la,lc,ln];omega)) only[go_sem,simprocAttr,F2]|((first|rw[aP]|rw[aJ]|rw[aI]|rw[aQ]|rw[aO]|rw[aK]|rw[aH]|rw[aN]|skip);split)))
 |0,_::_,j,hk,hd,hj,hj2=>by simp at hk
 |k+1,a::Bl,j,hk,hd,hj,hj2=>by
  unfold loopW
  conv=>lhs;arg 1;unfold l4
  have h1:=bT hd hj
  have h5:=h1.2.1
  have h2:=d6 (fun n=>[DI n]) h1.1
  have hi:=d3 a 1 2
  have hlen:=h1.2.2.2.2
  have hd3:x.fArgs.drop (j+3).toNat=Bl.drop 2:=by
   have:=congrArg (List.drop 2) h1.2.2.1
   rw[List.drop_drop] at this
   rw[←this]
   congr 1;omega
  have ih:=Ag x hl k (Bl.drop 2) (j+3) (by simp only[lc] at hk;simp;omega) hd3 (by omega) (by omega)
  cases c:inB a 1 2<;>rw[c] at hi
  ·have e:F2 (a::Bl)=false:=by
    cases Bl with
    |nil=>simp[F2,c]
    |cons b Bl=>cases Bl<;>simp[F2,c]
   rw[e]
   (repeat'(first|simp -implicitDefEqProofs (disch:=first|assumption|omega|(simp only[aE,aL,aF,i64,sa,aB,lm,la,lc,ln];omega)) only[go_sem,simprocAttr,h2,hi]|((first|rw[aP]|rw[aJ]|rw[aI]|rw[aQ]|rw[aO]|rw[aK]|rw[aH]|rw[aN]|skip);split)))
  ·match Bl,h1,hlen,hd3,ih with
   |[],h1,hlen,hd3,ih =>
    simp only[ln] at hlen
    simp only[List.drop_nil,F2,if_true] at ih
    simp only[F2,c,if_true]
    (repeat'(first|simp -implicitDefEqProofs (disch:=first|assumption|omega|(simp only[aE,aL,aF,i64,sa,aB,lm,la,lc,ln];omega)) only[go_sem,simprocAttr,h2,hi,ih]|((first|rw[aP]|rw[aJ]|rw[aI]|rw[aQ]|rw[aO]|rw[aK]|rw[aH]|rw[aN]|skip);split)))
   |[b],h1,hlen,hd3,ih =>
    simp only[lc,ln] at hlen
    simp only[List.drop_succ_cons,List.drop_nil,F2,if_true] at ih
    simp only[F2,c,if_true]
    (repeat'(first|simp -implicitDefEqProofs (disch:=first|assumption|omega|(simp only[aE,aL,aF,i64,sa,aB,lm,la,lc,ln];omega)) only[go_sem,simprocAttr,h2,hi,ih]|((first|rw[aP]|rw[aJ]|rw[aI]|rw[aQ]|rw[aO]|rw[aK]|rw[aH]|rw[aN]|skip);split)))
   |b::d::Bl,h1,hlen,hd3,ih =>
    simp only[lc] at hlen
    simp only[List.drop_succ_cons,List.drop_zero] at ih
    simp only[F2,c,bta]
    obtain⟨v,hv,hv2⟩:=zYA x.fArgs (j:=j+2) (by omega) (by omega)
    have hvd:v=d:=by
     have h3:=congrArg (fun l=>l[1]?) h1.2.2.1
     simp only[List.getElem?_drop,List.getElem?_cons_succ,List.getElem?_cons_zero] at h3
     rw[show(j+1).toNat+1=(j+2).toNat by omega,hv2] at h3
     simpa using h3
    subst hvd
    (repeat'(first|simp -implicitDefEqProofs (disch:=first|assumption|omega|(simp only[aE,aL,aF,i64,sa,aB,lm,la,lc,ln];omega)) only[go_sem,simprocAttr,h2,hi,hv,ih]|((first|rw[aP]|rw[aJ]|rw[aI]|rw[aQ]|rw[aO]|rw[aK]|rw[aH]|rw[aN]|skip);split)))
def eO(x:ZC):Bool:=if x.fOp=19 then F2 x.fArgs&&(decide ((x.fArgs.length:Int)=3)||decide ((x.fArgs.length:Int)=6)||decide ((x.fArgs.length:Int)=9)) else if x.fOp=22 then decide ((x.fArgs.length:Int)=1) else if x.fOp=11∨x.fOp=14 then decide ((x.fArgs.length:Int)≤4) else decide ((x.fArgs.length:Int)=0)
theorem Mb(x:ZC)(hl:x.fArgs.length≤1048576):call tab y9 [x.x]=some (B (eO x)):=by
 rw[aT Od _ rfl,D0,eO]
 have h0:=Ag x hl x.fArgs.length x.fArgs 0 (Nat.le_refl _) rfl (by omega) (by omega)
 (repeat'(first|simp -implicitDefEqProofs (disch:=first|assumption|omega|(simp only[aE,aL,aF,i64,sa,aB,lm,la,lc,ln];omega)) only[go_sem,simprocAttr,h0]|((first|rw[aP]|rw[aJ]|rw[aI]|rw[aQ]|rw[aO]|rw[aK]|rw[aH]|rw[aN]|skip);split)))
 all_goals clear h0
 all_goals simp_all
def Sg(x:ZC)(m:Int):Bool:=inB x.fOp 1 28&&eO x&&Cx x m&&(!decide (x.fOp=19)||inB x.fN 0 1)&&zQi x.fN&&(hb x 1||decide (x.fD=0))&&(hb x 2||decide (x.fA=0))&&(hb x 4||decide (x.fB=0))&&(hb x 8||decide (x.fN=0))&&(hb x 16||decide (x.fS=⟨#[]⟩))
theorem Ka(x:ZC)(m:Int)(hl:x.fArgs.length≤1048576)(hm:i64 (m-1)):call tab wB [x.x,I m]=some (B (Sg x m)):=by
 rw[aT Lb _ rfl,Ao,Sg]
 have a0:=d7 x.fOp
 have a1:=d3 x.fOp 1 28
 have a2:=Mb x hl
 have a3:=Lc x m hl hm
 have a4:=d3 x.fN 0 1
 have a5:=Sk x.fN
 have e1:=Q0 x 1
 have e2:=Q0 x 2
 have e4:=Q0 x 4
 have e8:=Q0 x 8
 have e16:=Q0 x 16
 cases c1:inB x.fOp 1 28<;>rw[c1] at a1
 ·(repeat'(first|simp -implicitDefEqProofs (disch:=first|assumption|omega|(simp only[aE,aL,aF,i64,sa,aB,lm,la,lc,ln];omega)) only[go_sem,simprocAttr,a0,a1]|((first|rw[aP]|rw[aJ]|rw[aI]|rw[aQ]|rw[aO]|rw[aK]|rw[aH]|rw[aN]|skip);split)))
 cases c2:eO x<;>rw[c2] at a2
 ·(repeat'(first|simp -implicitDefEqProofs (disch:=first|assumption|omega|(simp only[aE,aL,aF,i64,sa,aB,lm,la,lc,ln];omega)) only[go_sem,simprocAttr,a0,a1,a2]|((first|rw[aP]|rw[aJ]|rw[aI]|rw[aQ]|rw[aO]|rw[aK]|rw[aH]|rw[aN]|skip);split)))
 cases c3:Cx x m<;>rw[c3] at a3
 ·(repeat'(first|simp -implicitDefEqProofs (disch:=first|assumption|omega|(simp only[aE,aL,aF,i64,sa,aB,lm,la,lc,ln];omega)) only[go_sem,simprocAttr,a0,a1,a2,a3]|((first|rw[aP]|rw[aJ]|rw[aI]|rw[aQ]|rw[aO]|rw[aK]|rw[aH]|rw[aN]|skip);split)))
 have hn:(!decide (x.fOp=19)||inB x.fN 0 1)= !(decide (x.fOp=19)&& !inB x.fN 0 1):=by cases inB x.fN 0 1<;>simp
 rw[hn]
 by_cases c0:x.fOp=19
 ·cases c4:inB x.fN 0 1<;>rw[c4] at a4<;>have k0:decide (x.fOp=19)=true:=decide_eq_true c0
  ·simp only[k0]
   (repeat'(first|simp -implicitDefEqProofs (disch:=first|assumption|omega|(simp only[aE,aL,aF,i64,sa,aB,lm,la,lc,ln];omega)) only[go_sem,simprocAttr,a0,a1,a2,a3,a4]|((first|rw[aP]|rw[aJ]|rw[aI]|rw[aQ]|rw[aO]|rw[aK]|rw[aH]|rw[aN]|skip);split)))
  ·simp only[k0]
   (repeat'(first|simp -implicitDefEqProofs (disch:=first|assumption|omega|(simp only[aE,aL,aF,i64,sa,aB,lm,la,lc,ln];omega)) only[go_sem,simprocAttr,a0,a1,a2,a3,a4,a5,e1,e2,e4,e8,e16]|((first|rw[aP]|rw[aJ]|rw[aI]|rw[aQ]|rw[aO]|rw[aK]|rw[aH]|rw[aN]|skip);split)))
   all_goals simp_all
 ·have k0:decide (x.fOp=19)=false:=decide_eq_false c0
  simp only[k0]
  (repeat'(first|simp -implicitDefEqProofs (disch:=first|assumption|omega|(simp only[aE,aL,aF,i64,sa,aB,lm,la,lc,ln];omega)) only[go_sem,simprocAttr,a0,a1,a2,a3,a4,a5,e1,e2,e4,e8,e16]|((first|rw[aP]|rw[aJ]|rw[aI]|rw[aQ]|rw[aO]|rw[aK]|rw[aH]|rw[aN]|skip);split)))
  all_goals simp_all
def Em(m:Int)(t:ZC):Bool:=decide (t.fOp=8)&&decide (t.fN=m)
theorem xF(v0:List ZC)(m:Int)(hl:v0.length≤1048576):∀(Bl:List ZC) (j:Int),v0.drop j.toNat=Bl→0≤j →
  loopW tab [0,1,5] kW {env:=upd (upd (upd emp 5 (some (I j))) 1 (some (I m))) 0 (some (.d (.r (v0.map ZC.r)))),heap:=emp,fr:=0,next:=0}=if aZ (Em m) j Bl= -1 then some (.ext 0,{env:=emp,heap:=emp,fr:=0,next:=0}) else some (.ret,{env:=upd emp 4 (some (I (aZ (Em m) j Bl))),heap:=emp,fr:=0,next:=0})
 |[],j,hd,hj=>by
  unfold loopW
  conv=>lhs;arg 1;unfold kW
  have h1:=cJ hd hj
  simp only[aZ,if_true]
  (repeat'(first|simp -implicitDefEqProofs (disch:=first|assumption|omega|(simp only[aE,aL,aF,i64,sa,aB,lm,la,lc,ln];omega)) only[go_sem,simprocAttr]|((first|rw[aP]|rw[aJ]|rw[aI]|rw[aQ]|rw[aO]|rw[aK]|rw[aH]|rw[aN]|skip);split)))
 |t::Bl,j,hd,hj=>by
  unfold loopW
  conv=>lhs;arg 1;unfold kW
  have h1:=bT hd hj
  have h5:=h1.2.1
  have h2:=d6 ZC.r h1.1
  simp only[ZC.r] at h2
  have ih:=xF v0 m hl Bl (j+1) h1.2.2.1 (by omega)
  rw[aZ]
  by_cases c1:t.fOp=8
  ·by_cases c2:t.fN=m
   ·have hp:Em m t=true:=by simp[Em,c1,c2]
    rw[if_pos hp,if_neg (by omega)]
    (repeat'(first|simp -implicitDefEqProofs (disch:=first|assumption|omega|(simp only[aE,aL,aF,i64,sa,aB,lm,la,lc,ln];omega)) only[go_sem,simprocAttr,h2]|((first|rw[aP]|rw[aJ]|rw[aI]|rw[aQ]|rw[aO]|rw[aK]|rw[aH]|rw[aN]|skip);split)))
   ·have hp:¬Em m t=true:=by simp[Em,c2]
    rw[if_neg hp,←ih]
    (repeat'(first|simp -implicitDefEqProofs (disch:=first|assumption|omega|(simp only[aE,aL,aF,i64,sa,aB,lm,la,lc,ln];omega)) only[go_sem,simprocAttr,h2]|((first|rw[aP]|rw[aJ]|rw[aI]|rw[aQ]|rw[aO]|rw[aK]|rw[aH]|rw[aN]|skip);split)))
  ·have hp:¬Em m t=true:=by simp[Em,c1]
   rw[if_neg hp,←ih]
   (repeat'(first|simp -implicitDefEqProofs (disch:=first|assumption|omega|(simp only[aE,aL,aF,i64,sa,aB,lm,la,lc,ln];omega)) only[go_sem,simprocAttr,h2]|((first|rw[aP]|rw[aJ]|rw[aI]|rw[aQ]|rw[aO]|rw[aK]|rw[aH]|rw[aN]|skip);split)))
theorem w6(v0:List ZC)(m:Int)(hl:v0.length≤1048576):call tab kH [.d (.r (v0.map ZC.r)),I m]=some (I (aZ (Em m) 0 v0)):=by
 rw[aT Li _ rfl,z7]
 have h0:=xF v0 m hl v0 0 rfl (by omega)
 by_cases hp:aZ (Em m) 0 v0= -1
 ·rw[if_pos hp] at h0
  (repeat'(first|simp -implicitDefEqProofs (disch:=first|assumption|omega|(simp only[aE,aL,aF,i64,sa,aB,lm,la,lc,ln];omega)) only[go_sem,simprocAttr,h0,hp]|((first|rw[aP]|rw[aJ]|rw[aI]|rw[aQ]|rw[aO]|rw[aK]|rw[aH]|rw[aN]|skip);split)))
 ·rw[if_neg hp] at h0
  (repeat'(first|simp -implicitDefEqProofs (disch:=first|assumption|omega|(simp only[aE,aL,aF,i64,sa,aB,lm,la,lc,ln];omega)) only[go_sem,simprocAttr,h0]|((first|rw[aP]|rw[aJ]|rw[aI]|rw[aQ]|rw[aO]|rw[aK]|rw[aH]|rw[aN]|skip);split)))
set_option maxRecDepth 8000
set_option maxHeartbeats 4000000
def lO(code:List ZC)(m:Int):Int:=aZ (Em m) 0 code
def Ck(u:ZD)(j:Int)(t:ZC):Bool:=Sg t u.fRegs&& !((decide (t.fOp=8)&&(!decide (lO u.fCode t.fN=j) || !inB t.fN 0 900))||((decide (t.fOp=9)||decide (t.fOp=10))&&decide (lO u.fCode t.fN<0)))
def mA(u:ZD):Int→List ZC→Bool
 |_,[]=>true
 |j,t::r=>Ck u j t&&mA u (j+1) r
abbrev vpU(u:ZD):X:= .vp [Str u.fName,I u.fParams,I u.fRegs,.d (.r (u.fCode.map ZC.r))]
theorem Sp(a b:Int):call tab Gu [I a,I b]=some (I (if a<b then a else b)):=by
 rw[aT Wd _ rfl,H9]
 (repeat'(first|simp -implicitDefEqProofs (disch:=first|assumption|omega|(simp only[aE,aL,aF,i64,sa,aB,lm,la,lc,ln];omega)) only[go_sem,simprocAttr]|((first|rw[aP]|rw[aJ]|rw[aI]|rw[aQ]|rw[aO]|rw[aK]|rw[aH]|rw[aN]|skip);split)))
theorem Dt(u:ZD)(hs:u.sm)(hr:i64 (u.fRegs-1))(hr2:u.fCode.length≤1048576):∀(Bl:List ZC) (j:Int),u.fCode.drop j.toNat=Bl→0≤j →
  loopW tab [1,3,4] nH {env:=upd (upd (upd emp 4 (some (I j))) 3 (some (I (u.fCode.length:Int)))) 1 (some (vpU u)),heap:=emp,fr:=0,next:=0}=if mA u j Bl=true then some (.ext 0,{env:=upd (upd emp 3 (some (I (u.fCode.length:Int)))) 1 (some (vpU u)),heap:=emp,fr:=0,next:=0}) else some (.ret,{env:=upd emp 2 (some (B false)),heap:=emp,fr:=0,next:=0})
 |[],j,hd,hj=>by
  unfold loopW
  conv=>lhs;arg 1;unfold nH
  have h1:=cJ hd hj
  (repeat'(first|simp -implicitDefEqProofs (disch:=first|assumption|omega|(simp only[aE,aL,aF,i64,sa,aB,lm,la,lc,ln];omega)) only[go_sem,simprocAttr,mA]|((first|rw[aP]|rw[aJ]|rw[aI]|rw[aQ]|rw[aO]|rw[aK]|rw[aH]|rw[aN]|skip);split)))
 |t::Bl,j,hd,hj=>by
  unfold loopW
  conv=>lhs;arg 1;unfold nH
  have h1:=bT hd hj
  have h5:=h1.2.1
  have h2:=d6 ZC.r h1.1
  simp only[ZC.r] at h2
  have hsx:=(hs.2.2 t h1.2.2.2.1).2
  have ih:=Dt u hs hr hr2 Bl (j+1) h1.2.2.1 (by omega)
  have a1:=Ka t u.fRegs hsx hr
  have a2:call tab kH [.d (.r (u.fCode.map ZC.r)),I t.fN]=some (I (lO u.fCode t.fN)):=w6 u.fCode t.fN hr2
  have a3:=d3 t.fN 0 900
  rw[mA,Ck]
  cases c1:Sg t u.fRegs<;>rw[c1] at a1
  ·(repeat'(first|simp -implicitDefEqProofs (disch:=first|assumption|omega|(simp only[aE,aL,aF,i64,sa,aB,lm,la,lc,ln];omega)) only[go_sem,simprocAttr,h2,a1]|((first|rw[aP]|rw[aJ]|rw[aI]|rw[aQ]|rw[aO]|rw[aK]|rw[aH]|rw[aN]|skip);split)))
  ·cases c2:inB t.fN 0 900<;>rw[c2] at a3
   ·(repeat'(first|simp -implicitDefEqProofs (disch:=first|assumption|omega|(simp only[aE,aL,aF,i64,sa,aB,lm,la,lc,ln];omega)) only[go_sem,simprocAttr,h2,a1,a2,a3,ih]|((first|rw[aP]|rw[aJ]|rw[aI]|rw[aQ]|rw[aO]|rw[aK]|rw[aH]|rw[aN]|skip);split)))
    all_goals simp_all
   ·(repeat'(first|simp -implicitDefEqProofs (disch:=first|assumption|omega|(simp only[aE,aL,aF,i64,sa,aB,lm,la,lc,ln];omega)) only[go_sem,simprocAttr,h2,a1,a2,a3,ih]|((first|rw[aP]|rw[aJ]|rw[aI]|rw[aQ]|rw[aO]|rw[aK]|rw[aH]|rw[aN]|skip);split)))
    all_goals simp_all
def zk7(l:List ZC):Bool:=match l.getLast? with
 |some t=>decide (t.fOp=12)||decide (t.fOp=9)||decide (t.fOp=28)
 |none=>false
def qI(u:ZD):Bool:=inB u.fRegs 0 250&&inB u.fParams 0 (if 4<u.fRegs then 4 else u.fRegs)&&inB u.fCode.length 1 900&&mA u 0 u.fCode&&zk7 u.fCode
theorem Yw{l:List ZC}(h:1≤l.length):∃t,l.getLast? = some t∧(l.map ZC.r)[((l.length:Int)-1).toNat]? = some t.r∧t∈l:=by
 have h1:l≠[]:=by intro e;rw[e] at h;simp at h
 refine⟨l.getLast h1,List.getLast?_eq_some_getLast h1,?_,List.getLast_mem h1⟩
 rw[List.getElem?_map,show((l.length:Int)-1).toNat=l.length-1 by omega,←List.getLast?_eq_getElem?,List.getLast?_eq_some_getLast h1]
 rfl
theorem C1(u:ZD)(hs:u.sm):call tab uU [u.x]=some (B (qI u)):=by
 rw[aT Ri _ rfl,E8,qI]
 have b1:=d3 u.fRegs 0 250
 have b2:=Sp 4 u.fRegs
 have b3:=d3 u.fParams 0 (if 4<u.fRegs then 4 else u.fRegs)
 have b4:=d3 u.fCode.length 1 900
 have hl:=hs.2.1
 cases c1:inB u.fRegs 0 250<;>rw[c1] at b1
 ·(repeat'(first|simp -implicitDefEqProofs (disch:=first|assumption|omega|(simp only[aE,aL,aF,i64,sa,aB,lm,la,lc,ln];omega)) only[go_sem,simprocAttr,b1]|((first|rw[aP]|rw[aJ]|rw[aI]|rw[aQ]|rw[aO]|rw[aK]|rw[aH]|rw[aN]|skip);split)))
 cases c2:inB u.fParams 0 (if 4<u.fRegs then 4 else u.fRegs)<;>rw[c2] at b3
 ·generalize (if 4<u.fRegs then(4:Int) else u.fRegs)=mn at *
  (repeat'(first|simp -implicitDefEqProofs (disch:=first|assumption|omega|(simp only[aE,aL,aF,i64,sa,aB,lm,la,lc,ln];omega)) only[go_sem,simprocAttr,b1,b2,b3]|((first|rw[aP]|rw[aJ]|rw[aI]|rw[aQ]|rw[aO]|rw[aK]|rw[aH]|rw[aN]|skip);split)))
 cases c3:inB u.fCode.length 1 900<;>rw[c3] at b4
 ·generalize (if 4<u.fRegs then(4:Int) else u.fRegs)=mn at *
  (repeat'(first|simp -implicitDefEqProofs (disch:=first|assumption|omega|(simp only[aE,aL,aF,i64,sa,aB,lm,la,lc,ln];omega)) only[go_sem,simprocAttr,b1,b2,b3,b4]|((first|rw[aP]|rw[aJ]|rw[aI]|rw[aQ]|rw[aO]|rw[aK]|rw[aH]|rw[aN]|skip);split)))
 have g1:0≤u.fRegs∧u.fRegs≤250:=by simpa[inB] using c1
 have g3:1≤(u.fCode.length:Int)∧(u.fCode.length:Int)≤900:=by simpa[inB] using c3
 have h0:=Dt u hs ⟨by omega,by omega⟩ hl u.fCode 0 rfl (by omega)
 obtain⟨t,ht,ht2,_⟩:=Yw (l:=u.fCode) (by omega)
 simp only[ZC.r] at ht2
 simp only[zk7,ht]
 generalize (if 4<u.fRegs then(4:Int) else u.fRegs)=mn at *
 cases c4:mA u 0 u.fCode<;>simp only[c4,Bool.false_eq_true,if_true,if_false] at h0
 ·(repeat'(first|simp -implicitDefEqProofs (disch:=first|assumption|omega|(simp only[aE,aL,aF,i64,sa,aB,lm,la,lc,ln];omega)) only[go_sem,simprocAttr,b1,b2,b3,b4,h0]|((first|rw[aP]|rw[aJ]|rw[aI]|rw[aQ]|rw[aO]|rw[aK]|rw[aH]|rw[aN]|skip);split)))
 ·(repeat'(first|simp -implicitDefEqProofs (disch:=first|assumption|omega|(simp only[aE,aL,aF,i64,sa,aB,lm,la,lc,ln];omega)) only[go_sem,simprocAttr,b1,b2,b3,b4,h0,ht2]|((first|rw[aP]|rw[aJ]|rw[aI]|rw[aQ]|rw[aO]|rw[aK]|rw[aH]|rw[aN]|skip);split)))
  all_goals simp_all
set_option maxRecDepth 8000
set_option maxHeartbeats 4000000
theorem xE(f:Nat)(p:ZC→Bool)(h:Heap)(fr:Nat)(hh:cC fr h=h)(xs:List ZC)(hx:xs.length≤140737488351232)(kc:Nat)(h1:1≤fr)(hf:∀x∈xs,evCW tab f [x.x,.ptr (0,kc) [] 0 0] h (fr+1)=some (B (p x),h)):∀(Bl:List ZC) (j:Int),xs.drop j.toNat=Bl→0≤j →
  loopW tab [0,1,7,8] bI {env:=upd (upd (upd (upd emp 8 (some (I j))) 7 (some (I (xs.length:Int)))) 1 (some (.clo f [.ptr (0,kc) [] 0 0]))) 0 (some (.d (.r (xs.map (ZC.r))))),heap:=h,fr:=fr,next:=0}=if aZ p j Bl= -1 then some (.ext 0,{env:=emp,heap:=h,fr:=fr,next:=0}) else some (.ret,{env:=upd emp 4 (some (I (aZ p j Bl))),heap:=h,fr:=fr,next:=0})
 |[],j,hd,hj=>by
  unfold loopW
  conv=>lhs;arg 1;unfold bI
  have:=cJ hd hj
  simp only[aZ,if_true]
  (repeat'(first|simp -implicitDefEqProofs (disch:=first|assumption|omega|(simp only[aE,aL,aF,i64,sa,aB,lm,la,lc,ln];omega)) only[go_sem,simprocAttr,hh,show ¬0=fr from by omega]|((first|rw[aP]|rw[aJ]|rw[aI]|rw[aQ]|rw[aO]|rw[aK]|rw[aH]|rw[aN]|skip);split)))
 |x::Bl,j,hd,hj=>by
  unfold loopW
  conv=>lhs;arg 1;unfold bI
  have h4:=(bT hd hj).2.1
  have ih:=xE f p h fr hh xs hx kc h1 hf Bl (j+1) (bT hd hj).2.2.1 (by omega)
  have h2:=d6 (ZC.r) (bT hd hj).1
  simp only[ZC.r] at h2
  have h3:=hf x (bT hd hj).2.2.2.1
  rw[aZ]
  by_cases hp:p x=true
  ·rw[if_pos hp,if_neg (by omega)]
   (repeat'(first|simp -implicitDefEqProofs (disch:=first|assumption|omega|(simp only[aE,aL,aF,i64,sa,aB,lm,la,lc,ln];omega)) only[go_sem,simprocAttr,h2,show ¬0=fr from by omega,h3,hh]|((first|rw[aP]|rw[aJ]|rw[aI]|rw[aQ]|rw[aO]|rw[aK]|rw[aH]|rw[aN]|skip);split)))
  ·rw[if_neg hp,←ih]
   (repeat'(first|simp -implicitDefEqProofs (disch:=first|assumption|omega|(simp only[aE,aL,aF,i64,sa,aB,lm,la,lc,ln];omega)) only[go_sem,simprocAttr,h2,show ¬0=fr from by omega,h3,hh]|((first|rw[aP]|rw[aJ]|rw[aI]|rw[aQ]|rw[aO]|rw[aK]|rw[aH]|rw[aN]|skip);split)))
theorem xW(f:Nat)(p:ZC→Bool)(h:Heap)(fr:Nat)(hh:cC fr h=h)(xs:List ZC)(hx:xs.length≤140737488351232)(kc:Nat)(h1:1≤fr)(hf:∀x∈xs,evCW tab f [x.x,.ptr (0,kc) [] 0 0] h (fr+1)=some (B (p x),h)):evCW tab cB [.d (.r (xs.map (ZC.r))),.clo f [.ptr (0,kc) [] 0 0]] h fr=some (I (aZ p 0 xs),h):=by
 rw[aR fC _ _ _ rfl,dF]
 have h0:=xE f p h fr hh xs hx kc h1 hf xs 0 rfl (by omega)
 by_cases hp:aZ p 0 xs= -1
 ·rw[if_pos hp] at h0
  (repeat'(first|simp -implicitDefEqProofs (disch:=first|assumption|omega|(simp only[aE,aL,aF,i64,sa,aB,lm,la,lc,ln];omega)) only[go_sem,simprocAttr,hh,h0,hp,show ¬0=fr from by omega]|((first|rw[aP]|rw[aJ]|rw[aI]|rw[aQ]|rw[aO]|rw[aK]|rw[aH]|rw[aN]|skip);split)))
 ·rw[if_neg hp] at h0
  (repeat'(first|simp -implicitDefEqProofs (disch:=first|assumption|omega|(simp only[aE,aL,aF,i64,sa,aB,lm,la,lc,ln];omega)) only[go_sem,simprocAttr,hh,h0,hp,show ¬0=fr from by omega]|((first|rw[aP]|rw[aJ]|rw[aI]|rw[aQ]|rw[aO]|rw[aK]|rw[aH]|rw[aN]|skip);split)))
theorem w5(f:Nat)(p:Int→Bool)(h:Heap)(fr:Nat)(hh:cC fr h=h)(xs:List Int)(hx:xs.length≤140737488351232)(kc:Nat)(k:Nat)(h1:1≤fr)(hk:h (0,k)=some (.s 1 (xs.map (fun n=>[DI n]))))(hf:∀x∈xs,evCW tab f [I x,.ptr (0,kc) [] 0 0] h (fr+1)=some (B (p x),h)):∀(Bl:List Int) (j:Int),xs.drop j.toNat=Bl→0≤j →
  loopW tab [0,1,7,8] dR {env:=upd (upd (upd (upd emp 8 (some (I j))) 7 (some (I (xs.length:Int)))) 1 (some (.clo f [.ptr (0,kc) [] 0 0]))) 0 (some (.ref (0,k) [])),heap:=h,fr:=fr,next:=0}=if aZ p j Bl= -1 then some (.ext 0,{env:=emp,heap:=h,fr:=fr,next:=0}) else some (.ret,{env:=upd emp 4 (some (I (aZ p j Bl))),heap:=h,fr:=fr,next:=0})
 |[],j,hd,hj=>by
  unfold loopW
  conv=>lhs;arg 1;unfold dR
  have:=cJ hd hj
  simp only[aZ,if_true]
  (repeat'(first|simp -implicitDefEqProofs (disch:=first|assumption|omega|(simp only[aE,aL,aF,i64,sa,aB,lm,la,lc,ln];omega)) only[go_sem,simprocAttr,hh,show ¬0=fr from by omega]|((first|rw[aP]|rw[aJ]|rw[aI]|rw[aQ]|rw[aO]|rw[aK]|rw[aH]|rw[aN]|skip);split)))
 |x::Bl,j,hd,hj=>by
  unfold loopW
  conv=>lhs;arg 1;unfold dR
  have h4:=(bT hd hj).2.1
  have ih:=w5 f p h fr hh xs hx kc k h1 hk hf Bl (j+1) (bT hd hj).2.2.1 (by omega)
  have h2:=d6 (fun n=>[DI n]) (bT hd hj).1
  have h3:=hf x (bT hd hj).2.2.2.1
  rw[aZ]
  by_cases hp:p x=true
  ·rw[if_pos hp,if_neg (by omega)]
   (repeat'(first|simp -implicitDefEqProofs (disch:=first|assumption|omega|(simp only[aE,aL,aF,i64,sa,aB,lm,la,lc,ln];omega)) only[go_sem,simprocAttr,h2,hk,show ¬0=fr from by omega,h3,hh]|((first|rw[aP]|rw[aJ]|rw[aI]|rw[aQ]|rw[aO]|rw[aK]|rw[aH]|rw[aN]|skip);split)))
  ·rw[if_neg hp,←ih]
   (repeat'(first|simp -implicitDefEqProofs (disch:=first|assumption|omega|(simp only[aE,aL,aF,i64,sa,aB,lm,la,lc,ln];omega)) only[go_sem,simprocAttr,h2,hk,show ¬0=fr from by omega,h3,hh]|((first|rw[aP]|rw[aJ]|rw[aI]|rw[aQ]|rw[aO]|rw[aK]|rw[aH]|rw[aN]|skip);split)))
theorem xS(f:Nat)(p:Int→Bool)(h:Heap)(fr:Nat)(hh:cC fr h=h)(xs:List Int)(hx:xs.length≤140737488351232)(kc:Nat)(k:Nat)(h1:1≤fr)(hk:h (0,k)=some (.s 1 (xs.map (fun n=>[DI n]))))(hf:∀x∈xs,evCW tab f [I x,.ptr (0,kc) [] 0 0] h (fr+1)=some (B (p x),h)):evCW tab iA [.ref (0,k) [],.clo f [.ptr (0,kc) [] 0 0]] h fr=some (I (aZ p 0 xs),h):=by
 rw[aR tD _ _ _ rfl,lT]
 have h0:=w5 f p h fr hh xs hx kc k h1 hk hf xs 0 rfl (by omega)
 by_cases hp:aZ p 0 xs= -1
 ·rw[if_pos hp] at h0
  (repeat'(first|simp -implicitDefEqProofs (disch:=first|assumption|omega|(simp only[aE,aL,aF,i64,sa,aB,lm,la,lc,ln];omega)) only[go_sem,simprocAttr,hh,h0,hp,hk,show ¬0=fr from by omega]|((first|rw[aP]|rw[aJ]|rw[aI]|rw[aQ]|rw[aO]|rw[aK]|rw[aH]|rw[aN]|skip);split)))
 ·rw[if_neg hp] at h0
  (repeat'(first|simp -implicitDefEqProofs (disch:=first|assumption|omega|(simp only[aE,aL,aF,i64,sa,aB,lm,la,lc,ln];omega)) only[go_sem,simprocAttr,hh,h0,hp,hk,show ¬0=fr from by omega]|((first|rw[aP]|rw[aJ]|rw[aI]|rw[aQ]|rw[aO]|rw[aK]|rw[aH]|rw[aN]|skip);split)))
theorem sL(f:Nat)(p:Int→Bool)(h:Heap)(fr:Nat)(hh:cC fr h=h)(hh':cC (fr+1) h=h)(xs:List Int)(hx:xs.length≤140737488351232)(kc:Nat)(k:Nat)(h1:1≤fr)(hk:h (0,k)=some (.s 1 (xs.map (fun n=>[DI n]))))(hf:∀x∈xs,evCW tab f [I x,.ptr (0,kc) [] 0 0] h (fr+2)=some (B (p x),h)):evCW tab fJ [.ref (0,k) [],.clo f [.ptr (0,kc) [] 0 0]] h fr=some (B (xs.any p),h):=by
 rw[aR qN _ _ _ rfl,jH]
 have h0:=xS f p h (fr+1) hh' xs hx kc k (by omega) hk hf
 rw[Co p 0 (by omega)]
 (repeat'(first|simp -implicitDefEqProofs (disch:=first|assumption|omega|(simp only[aE,aL,aF,i64,sa,aB,lm,la,lc,ln];omega)) only[go_sem,simprocAttr,hh,h0,hk,show ¬0=fr from by omega]|((first|rw[aP]|rw[aJ]|rw[aI]|rw[aQ]|rw[aO]|rw[aK]|rw[aH]|rw[aN]|skip);split)))
set_option maxRecDepth 8000
set_option maxHeartbeats 4000000
def z8g:List ByteArray:=[noS,⟨#[68,78]⟩,⟨#[68,65]⟩,⟨#[68,65,66]⟩,⟨#[68,65,66]⟩,⟨#[68,65,66]⟩,⟨#[68,65,66]⟩,⟨#[68,65,66]⟩,⟨#[78]⟩,⟨#[78]⟩,⟨#[65,78]⟩,⟨#[68,83,88]⟩,⟨#[65]⟩,⟨#[65]⟩,⟨#[83,88]⟩,⟨#[68,65]⟩,⟨#[65,66]⟩,⟨#[68,65]⟩,⟨#[65]⟩,⟨#[68,66,78,88]⟩,⟨#[68,65]⟩,⟨#[65,66]⟩,⟨#[68,65,66,88]⟩,⟨#[68]⟩,⟨#[68,83]⟩,⟨#[65]⟩,⟨#[65,66]⟩,⟨#[65,66]⟩,⟨#[65]⟩]
def pE(op:Int):ByteArray:=if 1≤op∧op≤28 then(z8g[op.toNat]?).getD noS else noS
theorem Ix(op:Int):call tab D5 [I op]=some (Str (pE op)):=by
 rw[aT Yx _ rfl,Kl]
 by_cases h:1≤op∧op≤28
 ·obtain⟨h1,h2⟩:=h
  rw[pE,if_pos ⟨h1,h2⟩]
  rcases On h1 h2 with rfl|rfl|rfl|rfl|rfl|rfl|rfl|rfl|rfl|rfl|rfl|rfl|rfl|rfl|rfl|rfl|rfl|rfl|rfl|rfl|rfl|rfl|rfl|rfl|rfl|rfl|rfl|rfl<;>simp -implicitDefEqProofs (disch:=first|assumption|omega|(simp only[aE,aL,aF,i64,sa,aB,lm,la,lc,ln];omega)) only[go_sem,simprocAttr,z8g]
 ·rw[pE,if_neg h]
  simp -implicitDefEqProofs (disch:=first|assumption|omega|(simp only[aE,aL,aF,i64,sa,aB,lm,la,lc,ln];omega)) only[go_sem,simprocAttr]
abbrev U8(c:Int):X:= .d (.v (.int .u8 c))
theorem E9(bs:List UInt8)(hl:bs.length≤1048576)(c:Int):∀(Bl:List UInt8) (j:Int),bs.drop j.toNat=Bl→0≤j →
  loopW tab [0,1,7,8] d5 {env:=upd (upd (upd (upd emp 8 (some (I j))) 7 (some (I (bs.length:Int)))) 1 (some (U8 c))) 0 (some (.d (.r (bs.map fun x=>[D.v (.int .u8 x.toNat)])))),heap:=emp,fr:=0,next:=0}=if aZ (fun x:UInt8=>decide (c=x.toNat)) j Bl= -1 then some (.ext 0,{env:=emp,heap:=emp,fr:=0,next:=0}) else some (.ret,{env:=upd emp 4 (some (I (aZ (fun x:UInt8=>decide (c=x.toNat)) j Bl))),heap:=emp,fr:=0,next:=0})
 |[],j,hd,hj=>by
  unfold loopW
  conv=>lhs;arg 1;unfold d5
  have h1:=cJ hd hj
  simp only[aZ,if_true]
  (repeat'(first|simp -implicitDefEqProofs (disch:=first|assumption|omega|(simp only[aE,aL,aF,i64,sa,aB,lm,la,lc,ln];omega)) only[go_sem,simprocAttr]|((first|rw[aP]|rw[aJ]|rw[aI]|rw[aQ]|rw[aO]|rw[aK]|rw[aH]|rw[aN]|skip);split)))
 |x::Bl,j,hd,hj=>by
  unfold loopW
  conv=>lhs;arg 1;unfold d5
  have h1:=bT hd hj
  have h5:=h1.2.1
  have h2:=d6 (fun x:UInt8=>[D.v (.int .u8 x.toNat)]) h1.1
  have ih:=E9 bs hl c Bl (j+1) h1.2.2.1 (by omega)
  rw[aZ]
  by_cases hp:c=x.toNat
  ·have k:decide (c=(x.toNat:Int))=true:=decide_eq_true hp
   simp only[k,if_true]
   rw[if_neg (by omega)]
   (repeat'(first|simp -implicitDefEqProofs (disch:=first|assumption|omega|(simp only[aE,aL,aF,i64,sa,aB,lm,la,lc,ln];omega)) only[go_sem,simprocAttr,h2]|((first|rw[aP]|rw[aJ]|rw[aI]|rw[aQ]|rw[aO]|rw[aK]|rw[aH]|rw[aN]|skip);split)))
  ·have k:decide (c=(x.toNat:Int))=false:=decide_eq_false hp
   simp only[k,Bool.false_eq_true,if_false]
   rw[←ih]
   (repeat'(first|simp -implicitDefEqProofs (disch:=first|assumption|omega|(simp only[aE,aL,aF,i64,sa,aB,lm,la,lc,ln];omega)) only[go_sem,simprocAttr,h2]|((first|rw[aP]|rw[aJ]|rw[aI]|rw[aQ]|rw[aO]|rw[aK]|rw[aH]|rw[aN]|skip);split)))
theorem Sh(op c:Int):call tab eA [I op,U8 c]=some (B (decide (0≤aZ (fun x:UInt8=>decide (c=x.toNat)) 0 (pE op).data.toList))):=by
 have hs:(pE op).size≤4:=by
  unfold pE
  split
  ·rename_i h
   rcases On h.1 h.2 with rfl|rfl|rfl|rfl|rfl|rfl|rfl|rfl|rfl|rfl|rfl|rfl|rfl|rfl|rfl|rfl|rfl|rfl|rfl|rfl|rfl|rfl|rfl|rfl|rfl|rfl|rfl|rfl<;>decide
  ·decide
 have hl:(pE op).data.toList.length≤4:=by rw[Array.length_toList];exact hs
 have h0:=E9 (pE op).data.toList (by omega) c (pE op).data.toList 0 rfl (by omega)
 have h1:call tab j4 [.d (.r ((pE op).data.toList.map fun x=>[D.v (.int .u8 x.toNat)])),U8 c]=some (I (aZ (fun x:UInt8=>decide (c=x.toNat)) 0 (pE op).data.toList)):=by
  rw[aT wC _ rfl,m4]
  by_cases hp:aZ (fun x:UInt8=>decide (c=x.toNat)) 0 (pE op).data.toList= -1
  ·rw[if_pos hp] at h0
   (repeat'(first|simp -implicitDefEqProofs (disch:=first|assumption|omega|(simp only[aE,aL,aF,i64,sa,aB,lm,la,lc,ln];omega)) only[go_sem,simprocAttr,h0,hp]|((first|rw[aP]|rw[aJ]|rw[aI]|rw[aQ]|rw[aO]|rw[aK]|rw[aH]|rw[aN]|skip);split)))
  ·rw[if_neg hp] at h0
   (repeat'(first|simp -implicitDefEqProofs (disch:=first|assumption|omega|(simp only[aE,aL,aF,i64,sa,aB,lm,la,lc,ln];omega)) only[go_sem,simprocAttr,h0]|((first|rw[aP]|rw[aJ]|rw[aI]|rw[aQ]|rw[aO]|rw[aK]|rw[aH]|rw[aN]|skip);split)))
 have h2:call tab gO [.d (.r ((pE op).data.toList.map fun x=>[D.v (.int .u8 x.toNat)])),U8 c]=some (B (decide (0≤aZ (fun x:UInt8=>decide (c=x.toNat)) 0 (pE op).data.toList))):=by
  rw[aT r7 _ rfl,kS]
  (repeat'(first|simp -implicitDefEqProofs (disch:=first|assumption|omega|(simp only[aE,aL,aF,i64,sa,aB,lm,la,lc,ln];omega)) only[go_sem,simprocAttr,h1]|((first|rw[aP]|rw[aJ]|rw[aI]|rw[aQ]|rw[aO]|rw[aK]|rw[aH]|rw[aN]|skip);split)))
 rw[aT V4 _ rfl,Hu]
 (repeat'(first|simp -implicitDefEqProofs (disch:=first|assumption|omega|(simp only[aE,aL,aF,i64,sa,aB,lm,la,lc,ln];omega)) only[go_sem,simprocAttr,Ix,Gs,h2]|((first|rw[aP]|rw[aJ]|rw[aI]|rw[aQ]|rw[aO]|rw[aK]|rw[aH]|rw[aN]|skip);split)))
theorem zkG{op:Int}:∀p∈[((68:Int),(1:Int)),(65,2),(66,4),(78,8),(83,16),(88,32)],decide (0≤aZ (fun x:UInt8=>decide (p.1=x.toNat)) 0 (pE op).data.toList)=jC (fZ op) p.2:=by
 by_cases h:1≤op∧op≤28
 ·rcases On h.1 h.2 with rfl|rfl|rfl|rfl|rfl|rfl|rfl|rfl|rfl|rfl|rfl|rfl|rfl|rfl|rfl|rfl|rfl|rfl|rfl|rfl|rfl|rfl|rfl|rfl|rfl|rfl|rfl|rfl<;>decide
 ·rw[pE,if_neg h,fZ,if_neg h]
  decide
theorem dY(x:ZC)(p:Int×Int)(hp:p∈[((68:Int),(1:Int)),(65,2),(66,4),(78,8),(83,16),(88,32)]):call tab eA [I x.fOp,U8 p.1]=some (B (hb x p.2)):=by
 rw[Sh,zkG p hp]
 rfl
theorem z6t{x:ZC}(h:x.fOp=19):hb x 1=true∧hb x 2=false∧hb x 4=true∧hb x 32=true:=by
 unfold hb
 rw[h]
 decide
theorem rW(x:ZC):call tab sC [x.x]=some (.d (.s 1 (aG (bA x)))):=by
 rw[aT Yb _ rfl,Kj,bA]
 have a1:=dY x (68,1) (by simp)
 by_cases c0:x.fOp=19
 ·rw[(z6t c0).1,if_pos rfl,if_pos c0]
  (repeat'(first|simp -implicitDefEqProofs (disch:=first|assumption|omega|(simp only[aE,aL,aF,i64,sa,aB,lm,la,lc,ln];omega)) only[go_sem,simprocAttr,aG,mc,mn]|((first|rw[aP]|rw[aJ]|rw[aI]|rw[aQ]|rw[aO]|rw[aK]|rw[aH]|rw[aN]|skip);split)))
 ·rw[if_neg c0]
  cases c1:hb x 1<;>rw[c1] at a1<;>(repeat'(first|simp -implicitDefEqProofs (disch:=first|assumption|omega|(simp only[aE,aL,aF,i64,sa,aB,lm,la,lc,ln];omega)) only[go_sem,simprocAttr,aG,mc,mn,a1]|((first|rw[aP]|rw[aJ]|rw[aI]|rw[aQ]|rw[aO]|rw[aK]|rw[aH]|rw[aN]|skip);split)))
theorem yE(x:ZC)(hl:x.fArgs.length≤1048576)(h19:x.fOp=19):∀(Bl:List Int) (j:Nat) (A:List Int),x.fArgs.drop j=Bl→A.length≤j →
  loopW tab [1,3,11,12,13] p6 {env:=upd (upd (upd (upd (upd emp 13 (some (I (j:Int)))) 12 (some (I (x.fArgs.length:Int)))) 11 (some (.d (.r (aG x.fArgs))))) 3 (some (.ref (0,0) []))) 1 (some (.vp [I x.fOp,I x.fD,I x.fA,I x.fB,I x.fN,Str x.fS,.d (.r (aG x.fArgs))])),heap:=upd emp (0,0) (some (.s 1 (aG A))),fr:=0,next:=1}=some (.ext 0,{env:=upd emp 3 (some (.ref (0,0) [])),heap:=upd emp (0,0) (some (.s 1 (aG (A++wX x j Bl)))),fr:=0,next:=1})
 |[],j,A,hd,hA=>by
  have hd2:x.fArgs.drop ((j:Int)).toNat=[]:=by simpa using hd
  have hj:(0:Int)≤j:=by omega
  unfold loopW
  conv=>lhs;arg 1;unfold p6
  have h1:=cJ hd2 hj
  (repeat'(first|simp -implicitDefEqProofs (disch:=first|assumption|omega|(simp only[aE,aL,aF,i64,sa,aB,lm,la,lc,ln];omega)) only[go_sem,simprocAttr,wX,zqe]|((first|rw[aP]|rw[aJ]|rw[aI]|rw[aQ]|rw[aO]|rw[aK]|rw[aH]|rw[aN]|skip);split)))
 |y::Bl,j,A,hd,hA=>by
  have hd2:x.fArgs.drop ((j:Int)).toNat=y::Bl:=by simpa using hd
  have hj:(0:Int)≤j:=by omega
  unfold loopW
  conv=>lhs;arg 1;unfold p6
  have h1:=bT hd2 hj
  have h5:=h1.2.1
  have h2:=d6 (fun n=>[DI n]) h1.1
  simp only[Int.toNat_natCast] at h2
  have h3:x.fArgs.drop (j+1)=Bl:=by have:=h1.2.2.1;rwa [show((j:Int)+1).toNat=j+1 by omega] at this
  have m1:((j:Int)).tmod 3=((j % 3:Nat):Int):=by have:=uQ (n:=(j:Int)) (by omega) 3;simpa using this
  have ih1:=yE x hl h19 Bl (j+1) (A++[y]) h3 (by simp;omega)
  have ih2:=yE x hl h19 Bl (j+1) A h3 (by omega)
  rw[show((j+1:Nat):Int)=(j:Int)+1 by omega] at ih1 ih2
  rw[wX,←List.append_assoc]
  simp only[List.map_append,mc,mn] at ih1 ih2 ⊢
  have k0:decide (x.fOp=19)=true:=decide_eq_true h19
  simp only[k0,Bool.not_true,Bool.false_or,z7u]
  rcases (by omega:j % 3=0∨j % 3=1∨j % 3=2) with c1|c1|c1
  ·simp only[c1] at m1 ⊢
   (repeat'(first|simp -implicitDefEqProofs (disch:=first|assumption|omega|(simp only[aE,aL,aF,i64,sa,aB,lm,la,lc,ln];omega)) only[go_sem,simprocAttr,h2,m1,ih2]|((first|rw[aP]|rw[aJ]|rw[aI]|rw[aQ]|rw[aO]|rw[aK]|rw[aH]|rw[aN]|skip);split)))
  ·simp only[c1] at m1 ⊢
   (repeat'(first|simp -implicitDefEqProofs (disch:=first|assumption|omega|(simp only[aE,aL,aF,i64,sa,aB,lm,la,lc,ln];omega)) only[go_sem,simprocAttr,h2,m1,ih1]|((first|rw[aP]|rw[aJ]|rw[aI]|rw[aQ]|rw[aO]|rw[aK]|rw[aH]|rw[aN]|skip);split)))
  ·simp only[c1] at m1 ⊢
   have hj2:j-2<x.fArgs.length:=by omega
   obtain⟨v,hv,hv2⟩:=zYA x.fArgs (j:=(j:Int)-2) (by omega) (by omega)
   rw[show((j:Int)-2).toNat=j-2 by omega] at hv2
   by_cases c2:v=2
   ·subst c2
    simp only[hv2]
    (repeat'(first|simp -implicitDefEqProofs (disch:=first|assumption|omega|(simp only[aE,aL,aF,i64,sa,aB,lm,la,lc,ln];omega)) only[go_sem,simprocAttr,h2,m1,hv,ih1]|((first|rw[aP]|rw[aJ]|rw[aI]|rw[aQ]|rw[aO]|rw[aK]|rw[aH]|rw[aN]|skip);split)))
   ·have:¬(some v=some (2:Int)):=by simpa using c2
    simp only[hv2,this]
    (repeat'(first|simp -implicitDefEqProofs (disch:=first|assumption|omega|(simp only[aE,aL,aF,i64,sa,aB,lm,la,lc,ln];omega)) only[go_sem,simprocAttr,h2,m1,hv,c2,ih2]|((first|rw[aP]|rw[aJ]|rw[aI]|rw[aQ]|rw[aO]|rw[aK]|rw[aH]|rw[aN]|skip);split)))
theorem Eg(x:ZC)(h:¬x.fOp=19):∀(q:Nat) (l:List Int),wX x q l=l
 |_,[]=>rfl
 |q,y::ys=>by
  rw[wX,Eg x h (q+1) ys]
  simp[h]
theorem Ca(l:List Int):(aG l).map (fun el=>el.map D.toR)=aG l:=by
 simp[D.toR]
theorem zW(x:ZC)(hl:x.fArgs.length≤1048576):call tab wY [x.x]=some (.d (.s 1 (aG (bB x)))):=by
 rw[aT Yr _ rfl,Kv,bB]
 have a1:=dY x (65,2) (by simp)
 have a2:=dY x (66,4) (by simp)
 have a3:=dY x (88,32) (by simp)
 by_cases c0:x.fOp=19
 ·obtain⟨k1,k2,k3,k4⟩:=z6t c0
  have k0:decide (x.fOp=19)=true:=decide_eq_true c0
  have h0:=yE x hl c0 x.fArgs 0 [] rfl (by simp)
  simp only[Int.cast_ofNat_Int,mn,zqf] at h0
  simp only[k0,k2,k3,k4,Bool.not_true,Zs,Bool.false_eq_true,if_false,if_true,zqf]
  (repeat'(first|simp -implicitDefEqProofs (disch:=first|assumption|omega|(simp only[aE,aL,aF,i64,sa,aB,lm,la,lc,ln];omega)) only[go_sem,simprocAttr,h0]|((first|rw[aP]|rw[aJ]|rw[aI]|rw[aQ]|rw[aO]|rw[aK]|rw[aH]|rw[aN]|skip);split)))
 ·have k0:decide (x.fOp=19)=false:=decide_eq_false c0
  rw[Eg x c0]
  simp only[k0,Bool.not_false,bat]
  have hh:=Ca x.fArgs
  have hal:=V8 x.fArgs
  cases c2:hb x 2<;>cases c4:hb x 4<;>cases c32:hb x 32<;>rw[c2] at a1<;>rw[c4] at a2<;>rw[c32] at a3<;>simp only[Bool.false_eq_true,if_false,if_true,zqf,zqe,List.cons_append]<;>(repeat'(first|simp -implicitDefEqProofs (disch:=first|assumption|omega|(simp only[aE,aL,aF,i64,sa,aB,lm,la,lc,ln];omega)) only[go_sem,simprocAttr,a1,a2,a3,aG,mc,mn,hh,hal]|((first|rw[aP]|rw[aJ]|rw[aI]|rw[aQ]|rw[aO]|rw[aK]|rw[aH]|rw[aN]|skip);split)))
set_option maxRecDepth 8000
set_option maxHeartbeats 4000000
def Xj:List Int→Bool
 |a::_::d::r=>inB a 1 2&& !(decide (a=1)&& !decide (d=0))&&Xj r
 |_=>true
theorem zVG:∀(l:List Int),l.length % 3=0→Xj l=F2 l
 |[],_=>rfl
 |[_],h=>by simp at h
 |[_,_],h=>by simp at h
 |a::b::d::r,h=>by
  rw[Xj,F2,zVG r (by simp only[lc] at h;omega)]
abbrev vpT(x:ZC):X:= .vp [I x.fOp,I x.fD,I x.fA,I x.fB,I x.fN,Str x.fS,.d (.r (aG x.fArgs))]
theorem Bn(x:ZC)(hl:x.fArgs.length≤1048576):∀(k:Nat) (Bl:List Int) (j:Int),Bl.length≤k→x.fArgs.drop j.toNat=Bl→0≤j→j≤1048580 →
  loopW tab [2,5] nE {env:=upd (upd emp 5 (some (I j))) 2 (some (vpT x)),heap:=emp,fr:=0,next:=0}=if Xj Bl=true then some (.ext 1,{env:=upd emp 2 (some (vpT x)),heap:=emp,fr:=0,next:=0}) else some (.ret,{env:=upd emp 4 (some (B false)),heap:=emp,fr:=0,next:=0})
 |_,[],j,hk,hd,hj,hj2=>by
  unfold loopW
  conv=>lhs;arg 1;unfold nE
  have h1:=cJ hd hj
  simp only[Xj,if_true]
  (repeat'(first|simp -implicitDefEqProofs (disch:=first|assumption|omega|(simp only[aE,aL,aF,i64,sa,aB,lm,la,lc,ln];omega)) only[go_sem,simprocAttr]|((first|rw[aP]|rw[aJ]|rw[aI]|rw[aQ]|rw[aO]|rw[aK]|rw[aH]|rw[aN]|skip);split)))
 |0,_::_,j,hk,hd,hj,hj2=>by simp at hk
 |k+1,a::Bl,j,hk,hd,hj,hj2=>by
  unfold loopW
  conv=>lhs;arg 1;unfold nE
  have h1:=bT hd hj
  have h5:=h1.2.1
  have h2:=d6 (fun n=>[DI n]) h1.1
  have hi:=dP a 1 2
  have hlen:=h1.2.2.2.2
  match Bl,h1,hlen with
  |[],h1,hlen =>
   simp only[ln] at hlen
   simp only[Xj,if_true]
   (repeat'(first|simp -implicitDefEqProofs (disch:=first|assumption|omega|(simp only[aE,aL,aF,i64,sa,aB,lm,la,lc,ln];omega)) only[go_sem,simprocAttr,h2]|((first|rw[aP]|rw[aJ]|rw[aI]|rw[aQ]|rw[aO]|rw[aK]|rw[aH]|rw[aN]|skip);split)))
  |[b],h1,hlen =>
   simp only[lc,ln] at hlen
   simp only[Xj,if_true]
   (repeat'(first|simp -implicitDefEqProofs (disch:=first|assumption|omega|(simp only[aE,aL,aF,i64,sa,aB,lm,la,lc,ln];omega)) only[go_sem,simprocAttr,h2]|((first|rw[aP]|rw[aJ]|rw[aI]|rw[aQ]|rw[aO]|rw[aK]|rw[aH]|rw[aN]|skip);split)))
  |b::d::Bl,h1,hlen =>
   simp only[lc] at hlen
   have hd3:x.fArgs.drop (j+3).toNat=Bl:=by
    have:=congrArg (List.drop 2) h1.2.2.1
    rw[List.drop_drop] at this
    simp only[List.drop_succ_cons,List.drop_zero] at this
    rw[←this]
    congr 1;omega
   have ih:=Bn x hl k Bl (j+3) (by simp only[lc] at hk;omega) hd3 (by omega) (by omega)
   obtain⟨v,hv,hv2⟩:=zYA x.fArgs (j:=j+2) (by omega) (by omega)
   have hvd:v=d:=by
    have h3:=congrArg (fun l=>l[1]?) h1.2.2.1
    simp only[List.getElem?_drop,List.getElem?_cons_succ,List.getElem?_cons_zero] at h3
    rw[show(j+1).toNat+1=(j+2).toNat by omega,hv2] at h3
    simpa using h3
   subst hvd
   rw[Xj]
   cases c:inB a 1 2<;>rw[c] at hi<;>simp only[bta,bfa]<;>(repeat'(first|simp -implicitDefEqProofs (disch:=first|assumption|omega|(simp only[aE,aL,aF,i64,sa,aB,lm,la,lc,ln];omega)) only[go_sem,simprocAttr,h2,hi,hv,ih]|((first|rw[aP]|rw[aJ]|rw[aI]|rw[aQ]|rw[aO]|rw[aK]|rw[aH]|rw[aN]|skip);split)))
theorem z4g{x:ZC}(h:¬x.fOp=19)(h2:¬x.fOp=22):hb x 32=decide (x.fOp=11∨x.fOp=14):=by
 unfold hb
 generalize x.fOp=op at *
 by_cases h3:1≤op∧op≤28
 ·rcases On h3.1 h3.2 with rfl|rfl|rfl|rfl|rfl|rfl|rfl|rfl|rfl|rfl|rfl|rfl|rfl|rfl|rfl|rfl|rfl|rfl|rfl|rfl|rfl|rfl|rfl|rfl|rfl|rfl|rfl|rfl<;>first|decide|exact absurd rfl h|exact absurd rfl h2
 ·have e:decide (op=11∨op=14)=false:=decide_eq_false (by omega)
  rw[e,fZ,if_neg h3]
  decide
theorem Oj(x:ZC)(m:Int)(hl:x.fArgs.length≤1048576):call tab Bd [x.x,I m]=some (B (eO x&&(!decide (x.fOp=19)||inB x.fN 0 1))):=by
 rw[aT Rt _ rfl,Ew,eO]
 have h0:=Bn x hl x.fArgs.length x.fArgs 0 (Nat.le_refl _) rfl (by omega) (by omega)
 have a1:=dY x (88,32) (by simp)
 have a2:=dP x.fArgs.length 3 9
 have a3:=dP x.fN 0 1
 have m1:((x.fArgs.length:Int)).tmod 3=((x.fArgs.length % 3:Nat):Int):=by have:=uQ (n:=(x.fArgs.length:Int)) (by omega) 3;simpa using this
 by_cases c0:x.fOp=19
 ·have k0:decide (x.fOp=19)=true:=decide_eq_true c0
  rw[if_pos c0]
  simp only[k0,Bool.not_true,Bool.false_or]
  by_cases c3:x.fArgs.length % 3=0
  ·rw[zVG _ c3] at h0
   rw[c3] at m1
   have e:(decide ((x.fArgs.length:Int)=3)||decide ((x.fArgs.length:Int)=6)||decide ((x.fArgs.length:Int)=9))=inB x.fArgs.length 3 9:=by
    rw[Bool.eq_iff_iff];simp[inB];omega
   rw[e]
   cases ct:F2 x.fArgs<;>simp only[ct,Bool.false_eq_true,if_true,if_false] at h0
   ·(repeat'(first|simp -implicitDefEqProofs (disch:=first|assumption|omega|(simp only[aE,aL,aF,i64,sa,aB,lm,la,lc,ln];omega)) only[go_sem,simprocAttr,h0]|((first|rw[aP]|rw[aJ]|rw[aI]|rw[aQ]|rw[aO]|rw[aK]|rw[aH]|rw[aN]|skip);split)))
   ·cases c4:inB x.fArgs.length 3 9<;>rw[c4] at a2
    ·(repeat'(first|simp -implicitDefEqProofs (disch:=first|assumption|omega|(simp only[aE,aL,aF,i64,sa,aB,lm,la,lc,ln];omega)) only[go_sem,simprocAttr,h0,m1,a2]|((first|rw[aP]|rw[aJ]|rw[aI]|rw[aQ]|rw[aO]|rw[aK]|rw[aH]|rw[aN]|skip);split)))
    ·cases c5:inB x.fN 0 1<;>rw[c5] at a3<;>(repeat'(first|simp -implicitDefEqProofs (disch:=first|assumption|omega|(simp only[aE,aL,aF,i64,sa,aB,lm,la,lc,ln];omega)) only[go_sem,simprocAttr,h0,m1,a2,a3]|((first|rw[aP]|rw[aJ]|rw[aI]|rw[aQ]|rw[aO]|rw[aK]|rw[aH]|rw[aN]|skip);split)))
  ·have e:(decide ((x.fArgs.length:Int)=3)||decide ((x.fArgs.length:Int)=6)||decide ((x.fArgs.length:Int)=9))=false:=by
    rw[Bool.eq_false_iff];simp;omega
   rw[e]
   have c6:¬((x.fArgs.length % 3:Nat):Int)=0:=by omega
   generalize ((x.fArgs.length % 3:Nat):Int)=q at m1 c6
   cases ct:Xj x.fArgs<;>simp only[ct,Bool.false_eq_true,if_true,if_false] at h0<;>(repeat'(first|simp -implicitDefEqProofs (disch:=first|assumption|omega|(simp only[aE,aL,aF,i64,sa,aB,lm,la,lc,ln];omega)) only[go_sem,simprocAttr,h0,m1]|((first|rw[aP]|rw[aJ]|rw[aI]|rw[aQ]|rw[aO]|rw[aK]|rw[aH]|rw[aN]|skip);split)))
   all_goals simp
 ·have k0:decide (x.fOp=19)=false:=decide_eq_false c0
  rw[if_neg c0]
  simp only[k0,Bool.not_false,Bool.true_or,bat]
  by_cases c1:x.fOp=22
  ·rw[if_pos c1]
   (repeat'(first|simp -implicitDefEqProofs (disch:=first|assumption|omega|(simp only[aE,aL,aF,i64,sa,aB,lm,la,lc,ln];omega)) only[go_sem,simprocAttr]|((first|rw[aP]|rw[aJ]|rw[aI]|rw[aQ]|rw[aO]|rw[aK]|rw[aH]|rw[aN]|skip);split)))
  ·rw[if_neg c1]
   rw[z4g c0 c1] at a1
   by_cases c2:x.fOp=11∨x.fOp=14
   ·rw[if_pos c2]
    rw[decide_eq_true c2] at a1
    (repeat'(first|simp -implicitDefEqProofs (disch:=first|assumption|omega|(simp only[aE,aL,aF,i64,sa,aB,lm,la,lc,ln];omega)) only[go_sem,simprocAttr,a1]|((first|rw[aP]|rw[aJ]|rw[aI]|rw[aQ]|rw[aO]|rw[aK]|rw[aH]|rw[aN]|skip);split)))
   ·rw[if_neg c2]
    rw[decide_eq_false c2] at a1
    (repeat'(first|simp -implicitDefEqProofs (disch:=first|assumption|omega|(simp only[aE,aL,aF,i64,sa,aB,lm,la,lc,ln];omega)) only[go_sem,simprocAttr,a1]|((first|rw[aP]|rw[aJ]|rw[aI]|rw[aQ]|rw[aO]|rw[aK]|rw[aH]|rw[aN]|skip);split)))
theorem zVV(op:Int):decide (pE op=⟨#[]⟩)= !inB op 1 28:=by
 by_cases h:1≤op∧op≤28
 ·have e:inB op 1 28=true:=by simp[inB,h.1,h.2]
  rw[e]
  rcases On h.1 h.2 with rfl|rfl|rfl|rfl|rfl|rfl|rfl|rfl|rfl|rfl|rfl|rfl|rfl|rfl|rfl|rfl|rfl|rfl|rfl|rfl|rfl|rfl|rfl|rfl|rfl|rfl|rfl|rfl<;>decide
 ·have e:inB op 1 28=false:=by simp only[inB,←Bool.decide_and];exact decide_eq_false h
  rw[e,pE,if_neg h]
  decide
theorem Le(r m:Int)(hm:i64 (m-1))(k:Nat)(h:Heap)(fr:Nat)(h1:1≤fr)(hk:h (0,k)=some (.s 1 [[DI m]]))(hh:cC fr h=h):evCW tab jT [I r,.ptr (0,k) [] 0 0] h fr=some (B (!inB r 0 (m-1)),h):=by
 rw[aR N9 _ _ _ rfl,Cs]
 (repeat'(first|simp -implicitDefEqProofs (disch:=first|assumption|omega|(simp only[aE,aL,aF,i64,sa,aB,lm,la,lc,ln];omega)) only[go_sem,simprocAttr,dP,hk,hh]|((first|rw[aP]|rw[aJ]|rw[aI]|rw[aQ]|rw[aO]|rw[aK]|rw[aH]|rw[aN]|skip);split)))
theorem Xd(k:Nat)(h:Heap)(x:Option D):cC 2 (upd h (0,k) x)=upd (cC 2 h) (0,k) x:=zvg 1 k h x
theorem zYL(k:Nat)(h:Heap)(x:Option D):cC 3 (upd h (0,k) x)=upd (cC 3 h) (0,k) x:=zvg 2 k h x
theorem Ta(x:ZC)(m:Int)(hl:x.fArgs.length≤1048576)(hm:i64 (m-1)):call tab Gf [x.x,I m]=some (B (Sg x m)):=by
 rw[aT Wr _ rfl,Hb,Sg]
 have a0:=Ix x.fOp
 have e0:=zVV x.fOp
 have a1:=Rp x.fN
 have a2:=Oj x m hl
 have b1:=dY x (68,1) (by simp)
 have b2:=dY x (65,2) (by simp)
 have b4:=dY x (66,4) (by simp)
 have b8:=dY x (78,8) (by simp)
 have b16:=dY x (83,16) (by simp)
 have s1:=n6 x
 have s2:=pK x
 have hal:=V8 (bB x)
 cases c1:inB x.fOp 1 28<;>rw[c1] at e0
 ·(repeat'(first|simp -implicitDefEqProofs (disch:=first|assumption|omega|(simp only[aE,aL,aF,i64,sa,aB,lm,la,lc,ln];omega)) only[go_sem,simprocAttr,a0,e0]|((first|rw[aP]|rw[aJ]|rw[aI]|rw[aQ]|rw[aO]|rw[aK]|rw[aH]|rw[aN]|skip);split)))
 cases c5:zQi x.fN<;>rw[c5] at a1
 ·(repeat'(first|simp -implicitDefEqProofs (disch:=first|assumption|omega|(simp only[aE,aL,aF,i64,sa,aB,lm,la,lc,ln];omega)) only[go_sem,simprocAttr,a0,e0,a1]|((first|rw[aP]|rw[aJ]|rw[aI]|rw[aQ]|rw[aO]|rw[aK]|rw[aH]|rw[aN]|skip);split)))
  all_goals simp
 cases c2:(eO x&&(!decide (x.fOp=19)||inB x.fN 0 1))<;>rw[c2] at a2
 ·have e:(true&&eO x&&Cx x m&&(!decide (x.fOp=19)||inB x.fN 0 1))=false:=by
   revert c2;cases eO x<;>cases Cx x m<;>cases (!decide (x.fOp=19)||inB x.fN 0 1)<;>simp
  rw[e]
  (repeat'(first|simp -implicitDefEqProofs (disch:=first|assumption|omega|(simp only[aE,aL,aF,i64,sa,aB,lm,la,lc,ln];omega)) only[go_sem,simprocAttr,a0,e0,a1,a2]|((first|rw[aP]|rw[aJ]|rw[aI]|rw[aQ]|rw[aO]|rw[aK]|rw[aH]|rw[aN]|skip);split)))
 ·have e:(true&&eO x&&Cx x m&&(!decide (x.fOp=19)||inB x.fN 0 1))=Cx x m:=by
   rw[bE] at c2
   rw[c2.1,c2.2];simp
  rw[e]
  have h0:=fun (j k:Nat) (h:Heap) (hk:h (0,k)=some (.s 1 [[DI m]])) (hj:h (0,j)=some (.s 1 (aG (bA x++bB x)))) (h1:cC 1 h=h) (h2:cC 2 h=h) (h3:cC 3 h=h)=>sL jT (fun r=> !inB r 0 (m-1)) h 1 h1 h2 (bA x++bB x) (by simp;omega) k j (by omega) hj (fun r _=>Le r m hm k h 3 (by omega) hk h3)
  rw[zX0,←Cx] at h0
  simp only[aG,List.map_append] at h0
  have h1:=h0 2432 32 (upd (upd (upd (upd (upd (upd emp (0,32) (some (.s 1 [[DI m]]))) (0,2336) (some (.s 1 (aG (bA x))))) (0,2400) (some (.s 1 (aG (bB x))))) (0,2336) none) (0,2400) none) (0,2432) (some (.s 1 (aG (bA x)++aG (bB x))))) (by simp[upd]) (by simp[upd]) (by simp only[M5,i7]) (by simp only[Xd,i7]) (by simp only[zYL,i7])
  simp only[aG] at h1
  clear h0
  (repeat'(first|simp -implicitDefEqProofs (disch:=first|assumption|omega|(simp only[aE,aL,aF,i64,sa,aB,lm,la,lc,ln];omega)) only[go_sem,simprocAttr,a0,e0,a1,a2,b1,b2,b4,b8,b16,rW x,zW x hl,hal,aG,h1]|((first|rw[aP]|rw[aJ]|rw[aI]|rw[aQ]|rw[aO]|rw[aK]|rw[aH]|rw[aN]|skip);split)))
  all_goals(clear h1;simp_all)
set_option maxRecDepth 8000
set_option maxHeartbeats 4000000
theorem Hq(t:ZC)(m:Int)(k:Nat)(h:Heap)(fr:Nat)(h1:1≤fr)(hk:h (0,k)=some (.s 1 [[DI m]]))(hh:cC fr h=h):evCW tab oV [t.x,.ptr (0,k) [] 0 0] h fr=some (B (Em m t),h):=by
 rw[aR Kc _ _ _ rfl,xZ,Em]
 (repeat'(first|simp -implicitDefEqProofs (disch:=first|assumption|omega|(simp only[aE,aL,aF,i64,sa,aB,lm,la,lc,ln];omega)) only[go_sem,simprocAttr,hk,hh]|((first|rw[aP]|rw[aJ]|rw[aI]|rw[aQ]|rw[aO]|rw[aK]|rw[aH]|rw[aN]|skip);split)))
theorem Aw(v0:List ZC)(m:Int)(hl:v0.length≤1048576):call tab mG [.d (.r (v0.map ZC.r)),I m]=some (I (lO v0 m)):=by
 rw[aT Pp _ rfl,A9,lO]
 have h0:=xW oV (Em m) (upd emp (0,0) (some (.s 1 [[DI m]]))) 1 (by simp only[M5,i7]) v0 (by omega) 0 (by omega) (fun t _=>Hq t m 0 _ 2 (by omega) (by simp[upd]) (by simp only[Xd,i7]))
 (repeat'(first|simp -implicitDefEqProofs (disch:=first|assumption|omega|(simp only[aE,aL,aF,i64,sa,aB,lm,la,lc,ln];omega)) only[go_sem,simprocAttr,h0]|((first|rw[aP]|rw[aJ]|rw[aI]|rw[aQ]|rw[aO]|rw[aK]|rw[aH]|rw[aN]|skip);split)))
theorem Vl(op:Int):call tab Kh [I op]=some (B (decide (op=12)||decide (op=9)||decide (op=28))):=by
 rw[aT zz0 _ rfl,K0]
 (repeat'(first|simp -implicitDefEqProofs (disch:=first|assumption|omega|(simp only[aE,aL,aF,i64,sa,aB,lm,la,lc,ln];omega)) only[go_sem,simprocAttr]|((first|rw[aP]|rw[aJ]|rw[aI]|rw[aQ]|rw[aO]|rw[aK]|rw[aH]|rw[aN]|skip);split)))
theorem Cz(u:ZD)(hs:u.sm)(hr:i64 (u.fRegs-1))(hr2:u.fCode.length≤1048576):∀(Bl:List ZC) (j:Int),u.fCode.drop j.toNat=Bl→0≤j →
  loopW tab [1,26,27,28] nG {env:=upd (upd (upd (upd emp 28 (some (I j))) 27 (some (I (u.fCode.length:Int)))) 26 (some (.d (.r (u.fCode.map ZC.r))))) 1 (some (vpU u)),heap:=emp,fr:=0,next:=0}=if mA u j Bl=true then some (.ext 0,{env:=upd emp 1 (some (vpU u)),heap:=emp,fr:=0,next:=0}) else some (.ret,{env:=upd emp 2 (some (B false)),heap:=emp,fr:=0,next:=0})
 |[],j,hd,hj=>by
  unfold loopW
  conv=>lhs;arg 1;unfold nG
  have h1:=cJ hd hj
  (repeat'(first|simp -implicitDefEqProofs (disch:=first|assumption|omega|(simp only[aE,aL,aF,i64,sa,aB,lm,la,lc,ln];omega)) only[go_sem,simprocAttr,mA]|((first|rw[aP]|rw[aJ]|rw[aI]|rw[aQ]|rw[aO]|rw[aK]|rw[aH]|rw[aN]|skip);split)))
 |t::Bl,j,hd,hj=>by
  unfold loopW
  conv=>lhs;arg 1;unfold nG
  have h1:=bT hd hj
  have h5:=h1.2.1
  have h2:=d6 ZC.r h1.1
  simp only[ZC.r] at h2
  have hsx:=(hs.2.2 t h1.2.2.2.1).2
  have ih:=Cz u hs hr hr2 Bl (j+1) h1.2.2.1 (by omega)
  have a1:=Ta t u.fRegs hsx hr
  have a2:=Aw u.fCode t.fN hr2
  have a3:=dP t.fN 0 900
  rw[mA,Ck]
  cases c1:Sg t u.fRegs<;>rw[c1] at a1
  ·(repeat'(first|simp -implicitDefEqProofs (disch:=first|assumption|omega|(simp only[aE,aL,aF,i64,sa,aB,lm,la,lc,ln];omega)) only[go_sem,simprocAttr,h2,a1]|((first|rw[aP]|rw[aJ]|rw[aI]|rw[aQ]|rw[aO]|rw[aK]|rw[aH]|rw[aN]|skip);split)))
  ·cases c2:inB t.fN 0 900<;>rw[c2] at a3
   ·(repeat'(first|simp -implicitDefEqProofs (disch:=first|assumption|omega|(simp only[aE,aL,aF,i64,sa,aB,lm,la,lc,ln];omega)) only[go_sem,simprocAttr,h2,a1,a2,a3,ih]|((first|rw[aP]|rw[aJ]|rw[aI]|rw[aQ]|rw[aO]|rw[aK]|rw[aH]|rw[aN]|skip);split)))
    all_goals(clear ih;simp_all)
    all_goals omega
   ·(repeat'(first|simp -implicitDefEqProofs (disch:=first|assumption|omega|(simp only[aE,aL,aF,i64,sa,aB,lm,la,lc,ln];omega)) only[go_sem,simprocAttr,h2,a1,a2,a3,ih]|((first|rw[aP]|rw[aJ]|rw[aI]|rw[aQ]|rw[aO]|rw[aK]|rw[aH]|rw[aN]|skip);split)))
    all_goals(clear ih;simp_all)
    all_goals omega
theorem lY(u:ZD)(hs:u.sm):call tab lI [u.x]=some (B (qI u)):=by
 rw[aT To _ rfl,Fq,qI]
 have b1:=dP u.fRegs 0 250
 have b3:=dP u.fParams 0 (if 4<u.fRegs then 4 else u.fRegs)
 have b5:(if u.fRegs<4 then u.fRegs else 4)=(if 4<u.fRegs then(4:Int) else u.fRegs):=by split<;>split<;>omega
 have b4:=dP u.fCode.length 1 900
 have hl:=hs.2.1
 cases c1:inB u.fRegs 0 250<;>rw[c1] at b1
 ·(repeat'(first|simp -implicitDefEqProofs (disch:=first|assumption|omega|(simp only[aE,aL,aF,i64,sa,aB,lm,la,lc,ln];omega)) only[go_sem,simprocAttr,b1]|((first|rw[aP]|rw[aJ]|rw[aI]|rw[aQ]|rw[aO]|rw[aK]|rw[aH]|rw[aN]|skip);split)))
 cases c2:inB u.fParams 0 (if 4<u.fRegs then 4 else u.fRegs)<;>rw[c2] at b3
 ·generalize (if 4<u.fRegs then(4:Int) else u.fRegs)=mn at *
  (repeat'(first|simp -implicitDefEqProofs (disch:=first|assumption|omega|(simp only[aE,aL,aF,i64,sa,aB,lm,la,lc,ln];omega)) only[go_sem,simprocAttr,b1,b5,b3]|((first|rw[aP]|rw[aJ]|rw[aI]|rw[aQ]|rw[aO]|rw[aK]|rw[aH]|rw[aN]|skip);split)))
 cases c3:inB u.fCode.length 1 900<;>rw[c3] at b4
 ·generalize (if 4<u.fRegs then(4:Int) else u.fRegs)=mn at *
  (repeat'(first|simp -implicitDefEqProofs (disch:=first|assumption|omega|(simp only[aE,aL,aF,i64,sa,aB,lm,la,lc,ln];omega)) only[go_sem,simprocAttr,b1,b5,b3,b4]|((first|rw[aP]|rw[aJ]|rw[aI]|rw[aQ]|rw[aO]|rw[aK]|rw[aH]|rw[aN]|skip);split)))
 have g1:0≤u.fRegs∧u.fRegs≤250:=by simpa[inB] using c1
 have g3:1≤(u.fCode.length:Int)∧(u.fCode.length:Int)≤900:=by simpa[inB] using c3
 have h0:=Cz u hs ⟨by omega,by omega⟩ hl u.fCode 0 rfl (by omega)
 obtain⟨t,ht,ht2,_⟩:=Yw (l:=u.fCode) (by omega)
 have ht3:=Vl t.fOp
 simp only[ZC.r] at ht2
 simp only[zk7,ht]
 generalize (if 4<u.fRegs then(4:Int) else u.fRegs)=mn at *
 cases c4:mA u 0 u.fCode<;>simp only[c4,Bool.false_eq_true,if_true,if_false] at h0
 ·(repeat'(first|simp -implicitDefEqProofs (disch:=first|assumption|omega|(simp only[aE,aL,aF,i64,sa,aB,lm,la,lc,ln];omega)) only[go_sem,simprocAttr,b1,b5,b3,b4,h0]|((first|rw[aP]|rw[aJ]|rw[aI]|rw[aQ]|rw[aO]|rw[aK]|rw[aH]|rw[aN]|skip);split)))
 ·(repeat'(first|simp -implicitDefEqProofs (disch:=first|assumption|omega|(simp only[aE,aL,aF,i64,sa,aB,lm,la,lc,ln];omega)) only[go_sem,simprocAttr,b1,b5,b3,b4,h0,ht2,ht3]|((first|rw[aP]|rw[aJ]|rw[aI]|rw[aQ]|rw[aO]|rw[aK]|rw[aH]|rw[aN]|skip);split)))
end Go.Ev.G
