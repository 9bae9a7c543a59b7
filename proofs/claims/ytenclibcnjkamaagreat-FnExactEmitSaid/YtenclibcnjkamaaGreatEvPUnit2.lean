import Derived.Test.YtenclibcnjkamaaGreatEvQUnit
import Derived.Test.YtenclibcnjkamaaGreatEvPMach
set_option linter.all false
namespace Go.Ev.G
set_option maxRecDepth 8000
set_option maxHeartbeats 4000000
def zYj:List Int:=[0,9,3,7,7,7,7,7,8,8,10,49,2,2,48,3,6,3,2,45,3,6,39,1,17,2,6,6,2]
def fL(op:Int):Int:=if 1≤op∧op≤28 then(zYj[op.toNat]?).getD 0 else 0
theorem K5{op:Int}(h:1≤op)(h2:op≤28):op=1∨op=2∨op=3∨op=4∨op=5∨op=6∨op=7∨op=8∨op=9∨op=10∨op=11∨op=12∨op=13∨op=14∨op=15∨op=16∨op=17∨op=18∨op=19∨op=20∨op=21∨op=22∨op=23∨op=24∨op=25∨op=26∨op=27∨op=28:=by omega
theorem dX(op:Int):call tab pP [I op]=some (I (fL op)):=by
 rw[aY O4 _ rfl,Cs]
 have h3:=dW op 1 28
 by_cases h:1≤op∧op≤28
 ·obtain⟨h1,h2⟩:=h
  have h4:inB op 1 28=true:=by simp[inB,h1,h2]
  rw[h4] at h3
  rw[fL,if_pos ⟨h1,h2⟩]
  rcases K5 h1 h2 with rfl|rfl|rfl|rfl|rfl|rfl|rfl|rfl|rfl|rfl|rfl|rfl|rfl|rfl|rfl|rfl|rfl|rfl|rfl|rfl|rfl|rfl|rfl|rfl|rfl|rfl|rfl|rfl<;>simp -implicitDefEqProofs (disch:=first|assumption|omega|(simp only[aE,aM,aF,i64,sa,aD,lm,la,lc,ln];omega)) only[go_sem,simprocAttr,h3,zYj]
 ·have h4:inB op 1 28=false:=by simp only[inB,←Bool.decide_and];exact decide_eq_false h
  rw[h4] at h3
  rw[fL,if_neg h]
  simp -implicitDefEqProofs (disch:=first|assumption|omega|(simp only[aE,aM,aF,i64,sa,aD,lm,la,lc,ln];omega)) only[go_sem,simprocAttr,h3]
def hb(x:ZC)(m:Int):Bool:=iY (fL x.fOp) m
theorem K1(x:ZC)(m:Int):decide (bits .and .i64 (fL x.fOp) m=0)= !hb x m:=by simp[hb,iY]
def aZ(x:ZC):List Int:=(if hb x 1=true then [x.fD] else [])++(if x.fOp=19 then [x.fB] else [])
theorem qQ(x:ZC):call tab q7 [x.x]=some (.d (.s 1 (aG (aZ x)))):=by
 rw[aY Wv _ rfl,H3,aZ]
 have e:=K1 x 1
 (repeat'(first|simp -implicitDefEqProofs (disch:=first|assumption|omega|(simp only[aE,aM,aF,i64,sa,aD,lm,la,lc,ln];omega)) only[go_sem,simprocAttr,dX,e,mc,mn]|((first|rw[aP]|rw[aH]|rw[aK]|rw[aO]|rw[aN]|rw[aJ]|rw[aI]|rw[aQ]|skip);split)))
def zXM(args:List Int)(i:Nat):Bool:=decide (i % 3=1)||(decide (i % 3=2)&&decide (args[i-2]? = some 2))
def wE(x:ZC):Nat→List Int→List Int
 |_,[]=>[]
 |q,y::ys=>(if (!decide (x.fOp=19)||zXM x.fArgs q)=true then [y] else [])++wE x (q+1) ys
theorem w6(x:ZC)(hl:x.fArgs.length≤1048576)(h32:hb x 32=true):∀(Bl:List Int) (j:Nat) (A:List Int),x.fArgs.drop j=Bl→A.length≤j+2 →
  loopW tab [1,3,4,5] jV {env:=upd (upd (upd (upd emp 5 (some (I (j:Int)))) 4 (some (I (fL x.fOp)))) 3 (some (.ref (0,0) []))) 1 (some (.vp [I x.fOp,I x.fD,I x.fA,I x.fB,I x.fN,Str x.fS,.d (.r (aG x.fArgs))])),heap:=upd emp (0,0) (some (.s 1 (aG A))),fr:=0,next:=1}=some (.ext 0,{env:=upd emp 3 (some (.ref (0,0) [])),heap:=upd emp (0,0) (some (.s 1 (aG (A++wE x j Bl)))),fr:=0,next:=1})
 |[],j,A,hd,hA=>by
  have hd2:x.fArgs.drop ((j:Int)).toNat=[]:=by simpa using hd
  have hj:(0:Int)≤j:=by omega
  unfold loopW
  conv=>lhs;arg 1;unfold jV
  have h1:=cY hd2 hj
  (repeat'(first|simp -implicitDefEqProofs (disch:=first|assumption|omega|(simp only[aE,aM,aF,i64,sa,aD,lm,la,lc,ln];omega)) only[go_sem,simprocAttr,wE,List.append_nil]|((first|rw[aP]|rw[aH]|rw[aK]|rw[aO]|rw[aN]|rw[aJ]|rw[aI]|rw[aQ]|skip);split)))
 |y::Bl,j,A,hd,hA=>by
  have hd2:x.fArgs.drop ((j:Int)).toNat=y::Bl:=by simpa using hd
  have hj:(0:Int)≤j:=by omega
  unfold loopW
  conv=>lhs;arg 1;unfold jV
  have h1:=cA hd2 hj
  have h5:=h1.2.1
  have h2:=gC (fun n=>[DI n]) h1.1
  simp only[Int.toNat_natCast] at h2
  have h3:x.fArgs.drop (j+1)=Bl:=by have:=h1.2.2.1;rwa [show((j:Int)+1).toNat=j+1 by omega] at this
  have e:=K1 x 32
  have m1:((j:Int)).tmod 3=((j % 3:Nat):Int):=by have:=s6 (n:=(j:Int)) (by omega) 3;simpa using this
  have ih1:=w6 x hl h32 Bl (j+1) (A++[y]) h3 (by simp;omega)
  have ih2:=w6 x hl h32 Bl (j+1) A h3 (by omega)
  rw[show((j+1:Nat):Int)=(j:Int)+1 by omega] at ih1 ih2
  rw[wE,←List.append_assoc]
  simp only[List.map_append,mc,mn] at ih1 ih2 ⊢
  by_cases c0:x.fOp=19
  ·have k0:decide (x.fOp=19)=true:=decide_eq_true c0
   simp only[k0,Bool.not_true,Bool.false_or,zXM]
   rcases (by omega:j % 3=0∨j % 3=1∨j % 3=2) with c1|c1|c1
   ·simp only[c1] at m1 ⊢
    (repeat'(first|simp -implicitDefEqProofs (disch:=first|assumption|omega|(simp only[aE,aM,aF,i64,sa,aD,lm,la,lc,ln];omega)) only[go_sem,simprocAttr,h2,e,h32,m1,ih2]|((first|rw[aP]|rw[aH]|rw[aK]|rw[aO]|rw[aN]|rw[aJ]|rw[aI]|rw[aQ]|skip);split)))
   ·simp only[c1] at m1 ⊢
    (repeat'(first|simp -implicitDefEqProofs (disch:=first|assumption|omega|(simp only[aE,aM,aF,i64,sa,aD,lm,la,lc,ln];omega)) only[go_sem,simprocAttr,h2,e,h32,m1,ih1]|((first|rw[aP]|rw[aH]|rw[aK]|rw[aO]|rw[aN]|rw[aJ]|rw[aI]|rw[aQ]|skip);split)))
   ·simp only[c1] at m1 ⊢
    have hj2:j-2<x.fArgs.length:=by omega
    obtain⟨v,hv,hv2⟩:=zWO x.fArgs (j:=(j:Int)-2) (by omega) (by omega)
    rw[show((j:Int)-2).toNat=j-2 by omega] at hv2
    by_cases c2:v=2
    ·subst c2
     simp only[hv2]
     (repeat'(first|simp -implicitDefEqProofs (disch:=first|assumption|omega|(simp only[aE,aM,aF,i64,sa,aD,lm,la,lc,ln];omega)) only[go_sem,simprocAttr,h2,e,h32,m1,hv,ih1]|((first|rw[aP]|rw[aH]|rw[aK]|rw[aO]|rw[aN]|rw[aJ]|rw[aI]|rw[aQ]|skip);split)))
    ·have:¬(some v=some (2:Int)):=by simpa using c2
     simp only[hv2,this]
     (repeat'(first|simp -implicitDefEqProofs (disch:=first|assumption|omega|(simp only[aE,aM,aF,i64,sa,aD,lm,la,lc,ln];omega)) only[go_sem,simprocAttr,h2,e,h32,m1,hv,c2,ih2]|((first|rw[aP]|rw[aH]|rw[aK]|rw[aO]|rw[aN]|rw[aJ]|rw[aI]|rw[aQ]|skip);split)))
  ·have k0:decide (x.fOp=19)=false:=decide_eq_false c0
   simp only[k0,Bool.not_false,Bool.true_or,if_true]
   (repeat'(first|simp -implicitDefEqProofs (disch:=first|assumption|omega|(simp only[aE,aM,aF,i64,sa,aD,lm,la,lc,ln];omega)) only[go_sem,simprocAttr,h2,e,h32,ih1]|((first|rw[aP]|rw[aH]|rw[aK]|rw[aO]|rw[aN]|rw[aJ]|rw[aI]|rw[aQ]|skip);split)))
def a8(x:ZC):List Int:=(if hb x 2=true then [x.fA] else [])++((if (hb x 4&& !decide (x.fOp=19))=true then [x.fB] else [])++(if hb x 32=true then wE x 0 x.fArgs else []))
theorem O7(x:ZC)(hl:x.fArgs.length≤1048576)(h32:¬hb x 32=true)(w:List (List D)) :
  loopW tab [1,3,4,5] jV {env:=upd (upd (upd (upd emp 5 (some (I 0))) 4 (some (I (fL x.fOp)))) 3 (some (.ref (0,0) []))) 1 (some (.vp [I x.fOp,I x.fD,I x.fA,I x.fB,I x.fN,Str x.fS,.d (.r (aG x.fArgs))])),heap:=upd emp (0,0) (some (.s 1 w)),fr:=0,next:=1}=some (.ext 0,{env:=upd emp 3 (some (.ref (0,0) [])),heap:=upd emp (0,0) (some (.s 1 w)),fr:=0,next:=1}):=by
 unfold loopW
 conv=>lhs;arg 1;unfold jV
 have e:=K1 x 32
 (repeat'(first|simp -implicitDefEqProofs (disch:=first|assumption|omega|(simp only[aE,aM,aF,i64,sa,aD,lm,la,lc,ln];omega)) only[go_sem,simprocAttr,e]|((first|rw[aP]|rw[aH]|rw[aK]|rw[aO]|rw[aN]|rw[aJ]|rw[aI]|rw[aQ]|skip);split)))
theorem w7(x:ZC)(hl:x.fArgs.length≤1048576):call tab vX [x.x]=some (.d (.s 1 (aG (a8 x)))):=by
 rw[aY Vb _ rfl,Hq,a8]
 have e2:=K1 x 2
 have e4:=K1 x 4
 have e32:=K1 x 32
 by_cases c:hb x 32=true
 ·have ih:=fun A hA=>w6 x hl c x.fArgs 0 A rfl hA
  simp only[Int.cast_ofNat_Int,aG,List.map_append] at ih
  have i0:=ih [] (by simp)
  have i1:=fun a=>ih [a] (by simp)
  have i2:=fun a b=>ih [a,b] (by simp)
  simp only[mc,mn,List.nil_append,List.cons_append] at i0 i1 i2
  simp only[c,if_true]
  cases c2:hb x 2<;>cases c4:hb x 4<;>simp only[c2,c4,bfa,bta,Bool.false_eq_true,if_true,if_false] at e2 e4 ⊢
  ·(repeat'(first|simp -implicitDefEqProofs (disch:=first|assumption|omega|(simp only[aE,aM,aF,i64,sa,aD,lm,la,lc,ln];omega)) only[go_sem,simprocAttr,dX,e2,e4,c,i0,mc,mn,aG]|((first|rw[aP]|rw[aH]|rw[aK]|rw[aO]|rw[aN]|rw[aJ]|rw[aI]|rw[aQ]|skip);split)))
  ·by_cases c5:x.fOp=19
   ·(repeat'(first|simp -implicitDefEqProofs (disch:=first|assumption|omega|(simp only[aE,aM,aF,i64,sa,aD,lm,la,lc,ln];omega)) only[go_sem,simprocAttr,dX,e2,e4,c,i0,mc,mn,aG]|((first|rw[aP]|rw[aH]|rw[aK]|rw[aO]|rw[aN]|rw[aJ]|rw[aI]|rw[aQ]|skip);split)))
   ·(repeat'(first|simp -implicitDefEqProofs (disch:=first|assumption|omega|(simp only[aE,aM,aF,i64,sa,aD,lm,la,lc,ln];omega)) only[go_sem,simprocAttr,dX,e2,e4,c,i1,mc,mn,aG]|((first|rw[aP]|rw[aH]|rw[aK]|rw[aO]|rw[aN]|rw[aJ]|rw[aI]|rw[aQ]|skip);split)))
  ·(repeat'(first|simp -implicitDefEqProofs (disch:=first|assumption|omega|(simp only[aE,aM,aF,i64,sa,aD,lm,la,lc,ln];omega)) only[go_sem,simprocAttr,dX,e2,e4,c,i1,mc,mn,aG]|((first|rw[aP]|rw[aH]|rw[aK]|rw[aO]|rw[aN]|rw[aJ]|rw[aI]|rw[aQ]|skip);split)))
  ·by_cases c5:x.fOp=19
   ·(repeat'(first|simp -implicitDefEqProofs (disch:=first|assumption|omega|(simp only[aE,aM,aF,i64,sa,aD,lm,la,lc,ln];omega)) only[go_sem,simprocAttr,dX,e2,e4,c,i1,mc,mn,aG]|((first|rw[aP]|rw[aH]|rw[aK]|rw[aO]|rw[aN]|rw[aJ]|rw[aI]|rw[aQ]|skip);split)))
   ·(repeat'(first|simp -implicitDefEqProofs (disch:=first|assumption|omega|(simp only[aE,aM,aF,i64,sa,aD,lm,la,lc,ln];omega)) only[go_sem,simprocAttr,dX,e2,e4,c,i2,mc,mn,aG]|((first|rw[aP]|rw[aH]|rw[aK]|rw[aO]|rw[aN]|rw[aJ]|rw[aI]|rw[aQ]|skip);split)))
 ·have i0:=O7 x hl c
  simp only[c,Bool.false_eq_true,if_false,List.append_nil]
  cases c2:hb x 2<;>cases c4:hb x 4<;>simp only[c2,c4,bfa,bta,Bool.false_eq_true,if_true,if_false] at e2 e4 ⊢ <;> (repeat'(first|simp -implicitDefEqProofs (disch:=first|assumption|omega|(simp only[aE,aM,aF,i64,sa,aD,lm,la,lc,ln];omega)) only[go_sem,simprocAttr,dX,e2,e4,i0,mc,mn,aG]|((first|rw[aP]|rw[aH]|rw[aK]|rw[aO]|rw[aN]|rw[aJ]|rw[aI]|rw[aQ]|skip);split)))
def Au(x:ZC)(m:Int):Bool:=(aZ x++a8 x).all fun r=>inB r 0 (m-1)
theorem yJ(m:Int)(hm:i64 (m-1))(v5:List Int)(hl:v5.length≤2097152):∀(Bl:List Int) (j:Int),v5.drop j.toNat=Bl→0≤j →
  loopW tab [1,5,6] lL {env:=upd (upd (upd emp 6 (some (I j))) 5 (some (.ref (0,0) []))) 1 (some (I m)),heap:=upd emp (0,0) (some (.s 1 (aG v5))),fr:=0,next:=1}=if (Bl.all fun r=>inB r 0 (m-1))=true then some (.ext 0,{env:=emp,heap:=emp,fr:=0,next:=0}) else some (.ret,{env:=upd emp 4 (some (B false)),heap:=emp,fr:=0,next:=0})
 |[],j,hd,hj=>by
  unfold loopW
  conv=>lhs;arg 1;unfold lL
  have h1:=cY hd hj
  (repeat'(first|simp -implicitDefEqProofs (disch:=first|assumption|omega|(simp only[aE,aM,aF,i64,sa,aD,lm,la,lc,ln];omega)) only[go_sem,simprocAttr]|((first|rw[aP]|rw[aH]|rw[aK]|rw[aO]|rw[aN]|rw[aJ]|rw[aI]|rw[aQ]|skip);split)))
 |y::Bl,j,hd,hj=>by
  unfold loopW
  conv=>lhs;arg 1;unfold lL
  have h1:=cA hd hj
  have h5:=h1.2.1
  have h2:=gC (fun n=>[DI n]) h1.1
  have ih:=yJ m hm v5 hl Bl (j+1) h1.2.2.1 (by omega)
  have hi:=dW y 0 (m-1)
  rw[List.all_cons]
  cases c:inB y 0 (m-1)<;>rw[c] at hi<;>(repeat'(first|simp -implicitDefEqProofs (disch:=first|assumption|omega|(simp only[aE,aM,aF,i64,sa,aD,lm,la,lc,ln];omega)) only[go_sem,simprocAttr,h2,hi,ih]|((first|rw[aP]|rw[aH]|rw[aK]|rw[aO]|rw[aN]|rw[aJ]|rw[aI]|rw[aQ]|skip);split)))
theorem nC(x:ZC):(aZ x).length≤2:=by
 unfold aZ
 split<;>split<;>simp
theorem Q4(x:ZC):∀(q:Nat) (l:List Int),(wE x q l).length≤l.length
 |_,[]=>by simp[wE]
 |q,y::ys=>by
  have:=Q4 x (q+1) ys
  rw[wE]
  split<;>simp<;>omega
theorem oN(x:ZC):(a8 x).length≤x.fArgs.length+2:=by
 unfold a8
 have:=Q4 x 0 x.fArgs
 split<;>split<;>split<;>simp<;>omega
theorem Tu(l:List Int):((l.map fun n=>[DI n]).all fun el=>el.length==1)=true:=by simp
theorem Im(x:ZC)(m:Int)(hl:x.fArgs.length≤1048576)(hm:i64 (m-1)):call tab xT [x.x,I m]=some (B (Au x m)):=by
 rw[aY Kc _ rfl,zX,Au]
 have h1:=nC x
 have h2:=oN x
 have h0:=yJ m hm (aZ x++a8 x) (by simp;omega) (aZ x++a8 x) 0 rfl (by omega)
 simp only[aG,List.map_append] at h0
 cases c:(aZ x++a8 x).all fun r=>inB r 0 (m-1)<;>simp only[c,Bool.false_eq_true,if_true,if_false] at h0<;>(repeat'(first|simp -implicitDefEqProofs (disch:=first|assumption|omega|(simp only[aE,aM,aF,i64,sa,aD,lm,la,lc,ln];omega)) only[go_sem,simprocAttr,qQ x,w7 x hl,h0,aG,Tu]|((first|rw[aP]|rw[aH]|rw[aK]|rw[aO]|rw[aN]|rw[aJ]|rw[aI]|rw[aQ]|skip);split)))
def Dk:List Int→Bool
 |[]=>true
 |[a]=>inB a 1 2
 |[a,_]=>inB a 1 2
 |a::_::d::r=>inB a 1 2&& !(decide (a=1)&& !decide (d=0))&&Dk r
theorem yG(x:ZC)(hl:x.fArgs.length≤1048576):∀(k:Nat) (Bl:List Int) (j:Int),Bl.length≤k→x.fArgs.drop j.toNat=Bl→0≤j→j≤1048580 →
  loopW tab [1,3,4] lC {env:=upd (upd (upd emp 4 (some (I j))) 3 (some (I (x.fArgs.length:Int)))) 1 (some (.vp [I x.fOp,I x.fD,I x.fA,I x.fB,I x.fN,Str x.fS,.d (.r (aG x.fArgs))])),heap:=emp,fr:=0,next:=0}=if Dk Bl=true then some (.ext 1,{env:=upd emp 3 (some (I (x.fArgs.length:Int))),heap:=emp,fr:=0,next:=0}) else some (.ret,{env:=upd emp 2 (some (B false)),heap:=emp,fr:=0,next:=0})
 |_,[],j,hk,hd,hj,hj2=>by
  unfold loopW
  conv=>lhs;arg 1;unfold lC
  have h1:=cY hd hj
  (repeat'(first|simp -implicitDefEqProofs (disch:=first|assumption|omega|(simp only[aE,aM,aF,i64,sa,aD,lm,la,lc,ln];omega)) only[go_sem,simprocAttr,Dk]|((first|rw[aP]|rw[aH]|rw[aK]|rw[aO]|rw[aN]|rw[aJ]|rw[aI]|rw[aQ]|skip);split)))
 |0,_::_,j,hk,hd,hj,hj2=>by simp at hk
 |k+1,a::Bl,j,hk,hd,hj,hj2=>by
  unfold loopW
  conv=>lhs;arg 1;unfold lC
  have h1:=cA hd hj
  have h5:=h1.2.1
  have h2:=gC (fun n=>[DI n]) h1.1
  have hi:=dW a 1 2
  have hlen:=h1.2.2.2.2
  have hd3:x.fArgs.drop (j+3).toNat=Bl.drop 2:=by
   have:=congrArg (List.drop 2) h1.2.2.1
   rw[List.drop_drop] at this
   rw[←this]
   congr 1;omega
  have ih:=yG x hl k (Bl.drop 2) (j+3) (by simp only[lc] at hk;simp;omega) hd3 (by omega) (by omega)
  cases c:inB a 1 2<;>rw[c] at hi
  ·have e:Dk (a::Bl)=false:=by
    cases Bl with
    |nil=>simp[Dk,c]
    |cons b Bl=>cases Bl<;>simp[Dk,c]
   rw[e]
   (repeat'(first|simp -implicitDefEqProofs (disch:=first|assumption|omega|(simp only[aE,aM,aF,i64,sa,aD,lm,la,lc,ln];omega)) only[go_sem,simprocAttr,h2,hi]|((first|rw[aP]|rw[aH]|rw[aK]|rw[aO]|rw[aN]|rw[aJ]|rw[aI]|rw[aQ]|skip);split)))
  ·match Bl,h1,hlen,hd3,ih with
   |[],h1,hlen,hd3,ih =>
    simp only[ln] at hlen
    simp only[List.drop_nil,Dk,if_true] at ih
    simp only[Dk,c,if_true]
    (repeat'(first|simp -implicitDefEqProofs (disch:=first|assumption|omega|(simp only[aE,aM,aF,i64,sa,aD,lm,la,lc,ln];omega)) only[go_sem,simprocAttr,h2,hi,ih]|((first|rw[aP]|rw[aH]|rw[aK]|rw[aO]|rw[aN]|rw[aJ]|rw[aI]|rw[aQ]|skip);split)))
   |[b],h1,hlen,hd3,ih =>
    simp only[lc,ln] at hlen
    simp only[List.drop_succ_cons,List.drop_nil,Dk,if_true] at ih
    simp only[Dk,c,if_true]
    (repeat'(first|simp -implicitDefEqProofs (disch:=first|assumption|omega|(simp only[aE,aM,aF,i64,sa,aD,lm,la,lc,ln];omega)) only[go_sem,simprocAttr,h2,hi,ih]|((first|rw[aP]|rw[aH]|rw[aK]|rw[aO]|rw[aN]|rw[aJ]|rw[aI]|rw[aQ]|skip);split)))
   |b::d::Bl,h1,hlen,hd3,ih =>
    simp only[lc] at hlen
    simp only[List.drop_succ_cons,List.drop_zero] at ih
    simp only[Dk,c,bta]
    obtain⟨v,hv,hv2⟩:=zWO x.fArgs (j:=j+2) (by omega) (by omega)
    have hvd:v=d:=by
     have h3:=congrArg (fun l=>l[1]?) h1.2.2.1
     simp only[List.getElem?_drop,List.getElem?_cons_succ,List.getElem?_cons_zero] at h3
     rw[show(j+1).toNat+1=(j+2).toNat by omega,hv2] at h3
     simpa using h3
    subst hvd
    (repeat'(first|simp -implicitDefEqProofs (disch:=first|assumption|omega|(simp only[aE,aM,aF,i64,sa,aD,lm,la,lc,ln];omega)) only[go_sem,simprocAttr,h2,hi,hv,ih]|((first|rw[aP]|rw[aH]|rw[aK]|rw[aO]|rw[aN]|rw[aJ]|rw[aI]|rw[aQ]|skip);split)))
def eD(x:ZC):Bool:=if x.fOp=19 then Dk x.fArgs&&(decide ((x.fArgs.length:Int)=3)||decide ((x.fArgs.length:Int)=6)||decide ((x.fArgs.length:Int)=9)) else if x.fOp=22 then decide ((x.fArgs.length:Int)=1) else if x.fOp=11∨x.fOp=14 then decide ((x.fArgs.length:Int)≤4) else decide ((x.fArgs.length:Int)=0)
theorem Iq(x:ZC)(hl:x.fArgs.length≤1048576):call tab wZ [x.x]=some (B (eD x)):=by
 rw[aY Md _ rfl,y5,eD]
 have h0:=yG x hl x.fArgs.length x.fArgs 0 (Nat.le_refl _) rfl (by omega) (by omega)
 (repeat'(first|simp -implicitDefEqProofs (disch:=first|assumption|omega|(simp only[aE,aM,aF,i64,sa,aD,lm,la,lc,ln];omega)) only[go_sem,simprocAttr,h0]|((first|rw[aP]|rw[aH]|rw[aK]|rw[aO]|rw[aN]|rw[aJ]|rw[aI]|rw[aQ]|skip);split)))
 all_goals clear h0
 all_goals simp_all
def O8(x:ZC)(m:Int):Bool:=inB x.fOp 1 28&&eD x&&Au x m&&(!decide (x.fOp=19)||inB x.fN 0 1)&&zyC x.fN&&(hb x 1||decide (x.fD=0))&&(hb x 2||decide (x.fA=0))&&(hb x 4||decide (x.fB=0))&&(hb x 8||decide (x.fN=0))&&(hb x 16||decide (x.fS=⟨#[]⟩))
theorem He(x:ZC)(m:Int)(hl:x.fArgs.length≤1048576)(hm:i64 (m-1)):call tab uU [x.x,I m]=some (B (O8 x m)):=by
 rw[aY If _ rfl,yH,O8]
 have a0:=dX x.fOp
 have a1:=dW x.fOp 1 28
 have a2:=Iq x hl
 have a3:=Im x m hl hm
 have a4:=dW x.fN 0 1
 have a5:=Nw x.fN
 have e1:=K1 x 1
 have e2:=K1 x 2
 have e4:=K1 x 4
 have e8:=K1 x 8
 have e16:=K1 x 16
 cases c1:inB x.fOp 1 28<;>rw[c1] at a1
 ·(repeat'(first|simp -implicitDefEqProofs (disch:=first|assumption|omega|(simp only[aE,aM,aF,i64,sa,aD,lm,la,lc,ln];omega)) only[go_sem,simprocAttr,a0,a1]|((first|rw[aP]|rw[aH]|rw[aK]|rw[aO]|rw[aN]|rw[aJ]|rw[aI]|rw[aQ]|skip);split)))
 cases c2:eD x<;>rw[c2] at a2
 ·(repeat'(first|simp -implicitDefEqProofs (disch:=first|assumption|omega|(simp only[aE,aM,aF,i64,sa,aD,lm,la,lc,ln];omega)) only[go_sem,simprocAttr,a0,a1,a2]|((first|rw[aP]|rw[aH]|rw[aK]|rw[aO]|rw[aN]|rw[aJ]|rw[aI]|rw[aQ]|skip);split)))
 cases c3:Au x m<;>rw[c3] at a3
 ·(repeat'(first|simp -implicitDefEqProofs (disch:=first|assumption|omega|(simp only[aE,aM,aF,i64,sa,aD,lm,la,lc,ln];omega)) only[go_sem,simprocAttr,a0,a1,a2,a3]|((first|rw[aP]|rw[aH]|rw[aK]|rw[aO]|rw[aN]|rw[aJ]|rw[aI]|rw[aQ]|skip);split)))
 have hn:(!decide (x.fOp=19)||inB x.fN 0 1)= !(decide (x.fOp=19)&& !inB x.fN 0 1):=by cases inB x.fN 0 1<;>simp
 rw[hn]
 by_cases c0:x.fOp=19
 ·cases c4:inB x.fN 0 1<;>rw[c4] at a4<;>have k0:decide (x.fOp=19)=true:=decide_eq_true c0
  ·simp only[k0]
   (repeat'(first|simp -implicitDefEqProofs (disch:=first|assumption|omega|(simp only[aE,aM,aF,i64,sa,aD,lm,la,lc,ln];omega)) only[go_sem,simprocAttr,a0,a1,a2,a3,a4]|((first|rw[aP]|rw[aH]|rw[aK]|rw[aO]|rw[aN]|rw[aJ]|rw[aI]|rw[aQ]|skip);split)))
  ·simp only[k0]
   (repeat'(first|simp -implicitDefEqProofs (disch:=first|assumption|omega|(simp only[aE,aM,aF,i64,sa,aD,lm,la,lc,ln];omega)) only[go_sem,simprocAttr,a0,a1,a2,a3,a4,a5,e1,e2,e4,e8,e16]|((first|rw[aP]|rw[aH]|rw[aK]|rw[aO]|rw[aN]|rw[aJ]|rw[aI]|rw[aQ]|skip);split)))
   all_goals simp_all
 ·have k0:decide (x.fOp=19)=false:=decide_eq_false c0
  simp only[k0]
  (repeat'(first|simp -implicitDefEqProofs (disch:=first|assumption|omega|(simp only[aE,aM,aF,i64,sa,aD,lm,la,lc,ln];omega)) only[go_sem,simprocAttr,a0,a1,a2,a3,a4,a5,e1,e2,e4,e8,e16]|((first|rw[aP]|rw[aH]|rw[aK]|rw[aO]|rw[aN]|rw[aJ]|rw[aI]|rw[aQ]|skip);split)))
  all_goals simp_all
def B5(m:Int)(t:ZC):Bool:=decide (t.fOp=8)&&decide (t.fN=m)
theorem v8(v0:List ZC)(m:Int)(hl:v0.length≤1048576):∀(Bl:List ZC) (j:Int),v0.drop j.toNat=Bl→0≤j →
  loopW tab [0,1,5] kA {env:=upd (upd (upd emp 5 (some (I j))) 1 (some (I m))) 0 (some (.d (.r (v0.map ZC.r)))),heap:=emp,fr:=0,next:=0}=if bC (B5 m) j Bl= -1 then some (.ext 0,{env:=emp,heap:=emp,fr:=0,next:=0}) else some (.ret,{env:=upd emp 4 (some (I (bC (B5 m) j Bl))),heap:=emp,fr:=0,next:=0})
 |[],j,hd,hj=>by
  unfold loopW
  conv=>lhs;arg 1;unfold kA
  have h1:=cY hd hj
  simp only[bC,if_true]
  (repeat'(first|simp -implicitDefEqProofs (disch:=first|assumption|omega|(simp only[aE,aM,aF,i64,sa,aD,lm,la,lc,ln];omega)) only[go_sem,simprocAttr]|((first|rw[aP]|rw[aH]|rw[aK]|rw[aO]|rw[aN]|rw[aJ]|rw[aI]|rw[aQ]|skip);split)))
 |t::Bl,j,hd,hj=>by
  unfold loopW
  conv=>lhs;arg 1;unfold kA
  have h1:=cA hd hj
  have h5:=h1.2.1
  have h2:=gC ZC.r h1.1
  simp only[ZC.r] at h2
  have ih:=v8 v0 m hl Bl (j+1) h1.2.2.1 (by omega)
  rw[bC]
  by_cases c1:t.fOp=8
  ·by_cases c2:t.fN=m
   ·have hp:B5 m t=true:=by simp[B5,c1,c2]
    rw[if_pos hp,if_neg (by omega)]
    (repeat'(first|simp -implicitDefEqProofs (disch:=first|assumption|omega|(simp only[aE,aM,aF,i64,sa,aD,lm,la,lc,ln];omega)) only[go_sem,simprocAttr,h2]|((first|rw[aP]|rw[aH]|rw[aK]|rw[aO]|rw[aN]|rw[aJ]|rw[aI]|rw[aQ]|skip);split)))
   ·have hp:¬B5 m t=true:=by simp[B5,c2]
    rw[if_neg hp,←ih]
    (repeat'(first|simp -implicitDefEqProofs (disch:=first|assumption|omega|(simp only[aE,aM,aF,i64,sa,aD,lm,la,lc,ln];omega)) only[go_sem,simprocAttr,h2]|((first|rw[aP]|rw[aH]|rw[aK]|rw[aO]|rw[aN]|rw[aJ]|rw[aI]|rw[aQ]|skip);split)))
  ·have hp:¬B5 m t=true:=by simp[B5,c1]
   rw[if_neg hp,←ih]
   (repeat'(first|simp -implicitDefEqProofs (disch:=first|assumption|omega|(simp only[aE,aM,aF,i64,sa,aD,lm,la,lc,ln];omega)) only[go_sem,simprocAttr,h2]|((first|rw[aP]|rw[aH]|rw[aK]|rw[aO]|rw[aN]|rw[aJ]|rw[aI]|rw[aQ]|skip);split)))
theorem vO(v0:List ZC)(m:Int)(hl:v0.length≤1048576):call tab jX [.d (.r (v0.map ZC.r)),I m]=some (I (bC (B5 m) 0 v0)):=by
 rw[aY Iw _ rfl,xY]
 have h0:=v8 v0 m hl v0 0 rfl (by omega)
 by_cases hp:bC (B5 m) 0 v0= -1
 ·rw[if_pos hp] at h0
  (repeat'(first|simp -implicitDefEqProofs (disch:=first|assumption|omega|(simp only[aE,aM,aF,i64,sa,aD,lm,la,lc,ln];omega)) only[go_sem,simprocAttr,h0,hp]|((first|rw[aP]|rw[aH]|rw[aK]|rw[aO]|rw[aN]|rw[aJ]|rw[aI]|rw[aQ]|skip);split)))
 ·rw[if_neg hp] at h0
  (repeat'(first|simp -implicitDefEqProofs (disch:=first|assumption|omega|(simp only[aE,aM,aF,i64,sa,aD,lm,la,lc,ln];omega)) only[go_sem,simprocAttr,h0]|((first|rw[aP]|rw[aH]|rw[aK]|rw[aO]|rw[aN]|rw[aJ]|rw[aI]|rw[aQ]|skip);split)))
set_option maxRecDepth 8000
set_option maxHeartbeats 4000000
def kV(code:List ZC)(m:Int):Int:=bC (B5 m) 0 code
def Ax(u:ZD)(j:Int)(t:ZC):Bool:=O8 t u.fRegs&& !((decide (t.fOp=8)&&(!decide (kV u.fCode t.fN=j) || !inB t.fN 0 900))||((decide (t.fOp=9)||decide (t.fOp=10))&&decide (kV u.fCode t.fN<0)))
def lD(u:ZD):Int→List ZC→Bool
 |_,[]=>true
 |j,t::r=>Ax u j t&&lD u (j+1) r
abbrev vpU(u:ZD):X:= .vp [Str u.fName,I u.fParams,I u.fRegs,.d (.r (u.fCode.map ZC.r))]
theorem Ot(a b:Int):call tab Dv [I a,I b]=some (I (if a<b then a else b)):=by
 rw[aY Rj _ rfl,Ef]
 (repeat'(first|simp -implicitDefEqProofs (disch:=first|assumption|omega|(simp only[aE,aM,aF,i64,sa,aD,lm,la,lc,ln];omega)) only[go_sem,simprocAttr]|((first|rw[aP]|rw[aH]|rw[aK]|rw[aO]|rw[aN]|rw[aJ]|rw[aI]|rw[aQ]|skip);split)))
theorem Aa(u:ZD)(hs:u.sm)(hr:i64 (u.fRegs-1))(hr2:u.fCode.length≤1048576):∀(Bl:List ZC) (j:Int),u.fCode.drop j.toNat=Bl→0≤j →
  loopW tab [1,3,4] mK {env:=upd (upd (upd emp 4 (some (I j))) 3 (some (I (u.fCode.length:Int)))) 1 (some (vpU u)),heap:=emp,fr:=0,next:=0}=if lD u j Bl=true then some (.ext 0,{env:=upd (upd emp 3 (some (I (u.fCode.length:Int)))) 1 (some (vpU u)),heap:=emp,fr:=0,next:=0}) else some (.ret,{env:=upd emp 2 (some (B false)),heap:=emp,fr:=0,next:=0})
 |[],j,hd,hj=>by
  unfold loopW
  conv=>lhs;arg 1;unfold mK
  have h1:=cY hd hj
  (repeat'(first|simp -implicitDefEqProofs (disch:=first|assumption|omega|(simp only[aE,aM,aF,i64,sa,aD,lm,la,lc,ln];omega)) only[go_sem,simprocAttr,lD]|((first|rw[aP]|rw[aH]|rw[aK]|rw[aO]|rw[aN]|rw[aJ]|rw[aI]|rw[aQ]|skip);split)))
 |t::Bl,j,hd,hj=>by
  unfold loopW
  conv=>lhs;arg 1;unfold mK
  have h1:=cA hd hj
  have h5:=h1.2.1
  have h2:=gC ZC.r h1.1
  simp only[ZC.r] at h2
  have hsx:=(hs.2.2 t h1.2.2.2.1).2
  have ih:=Aa u hs hr hr2 Bl (j+1) h1.2.2.1 (by omega)
  have a1:=He t u.fRegs hsx hr
  have a2:call tab jX [.d (.r (u.fCode.map ZC.r)),I t.fN]=some (I (kV u.fCode t.fN)):=vO u.fCode t.fN hr2
  have a3:=dW t.fN 0 900
  rw[lD,Ax]
  cases c1:O8 t u.fRegs<;>rw[c1] at a1
  ·(repeat'(first|simp -implicitDefEqProofs (disch:=first|assumption|omega|(simp only[aE,aM,aF,i64,sa,aD,lm,la,lc,ln];omega)) only[go_sem,simprocAttr,h2,a1]|((first|rw[aP]|rw[aH]|rw[aK]|rw[aO]|rw[aN]|rw[aJ]|rw[aI]|rw[aQ]|skip);split)))
  ·cases c2:inB t.fN 0 900<;>rw[c2] at a3
   ·(repeat'(first|simp -implicitDefEqProofs (disch:=first|assumption|omega|(simp only[aE,aM,aF,i64,sa,aD,lm,la,lc,ln];omega)) only[go_sem,simprocAttr,h2,a1,a2,a3,ih]|((first|rw[aP]|rw[aH]|rw[aK]|rw[aO]|rw[aN]|rw[aJ]|rw[aI]|rw[aQ]|skip);split)))
    all_goals simp_all
   ·(repeat'(first|simp -implicitDefEqProofs (disch:=first|assumption|omega|(simp only[aE,aM,aF,i64,sa,aD,lm,la,lc,ln];omega)) only[go_sem,simprocAttr,h2,a1,a2,a3,ih]|((first|rw[aP]|rw[aH]|rw[aK]|rw[aO]|rw[aN]|rw[aJ]|rw[aI]|rw[aQ]|skip);split)))
    all_goals simp_all
def zj2(l:List ZC):Bool:=match l.getLast? with
 |some t=>decide (t.fOp=12)||decide (t.fOp=9)||decide (t.fOp=28)
 |none=>false
def s8(u:ZD):Bool:=inB u.fRegs 0 250&&inB u.fParams 0 (if 4<u.fRegs then 4 else u.fRegs)&&inB u.fCode.length 1 900&&lD u 0 u.fCode&&zj2 u.fCode
theorem Va{l:List ZC}(h:1≤l.length):∃t,l.getLast? = some t∧(l.map ZC.r)[((l.length:Int)-1).toNat]? = some t.r∧t∈l:=by
 have h1:l≠[]:=by intro e;rw[e] at h;simp at h
 refine⟨l.getLast h1,List.getLast?_eq_some_getLast h1,?_,List.getLast_mem h1⟩
 rw[List.getElem?_map,show((l.length:Int)-1).toNat=l.length-1 by omega,←List.getLast?_eq_getElem?,List.getLast?_eq_some_getLast h1]
 rfl
theorem J9(u:ZD)(hs:u.sm):call tab zJ [u.x]=some (B (s8 u)):=by
 rw[aY O2 _ rfl,Cv,s8]
 have b1:=dW u.fRegs 0 250
 have b2:=Ot 4 u.fRegs
 have b3:=dW u.fParams 0 (if 4<u.fRegs then 4 else u.fRegs)
 have b4:=dW u.fCode.length 1 900
 have hl:=hs.2.1
 cases c1:inB u.fRegs 0 250<;>rw[c1] at b1
 ·(repeat'(first|simp -implicitDefEqProofs (disch:=first|assumption|omega|(simp only[aE,aM,aF,i64,sa,aD,lm,la,lc,ln];omega)) only[go_sem,simprocAttr,b1]|((first|rw[aP]|rw[aH]|rw[aK]|rw[aO]|rw[aN]|rw[aJ]|rw[aI]|rw[aQ]|skip);split)))
 cases c2:inB u.fParams 0 (if 4<u.fRegs then 4 else u.fRegs)<;>rw[c2] at b3
 ·generalize (if 4<u.fRegs then(4:Int) else u.fRegs)=mn at *
  (repeat'(first|simp -implicitDefEqProofs (disch:=first|assumption|omega|(simp only[aE,aM,aF,i64,sa,aD,lm,la,lc,ln];omega)) only[go_sem,simprocAttr,b1,b2,b3]|((first|rw[aP]|rw[aH]|rw[aK]|rw[aO]|rw[aN]|rw[aJ]|rw[aI]|rw[aQ]|skip);split)))
 cases c3:inB u.fCode.length 1 900<;>rw[c3] at b4
 ·generalize (if 4<u.fRegs then(4:Int) else u.fRegs)=mn at *
  (repeat'(first|simp -implicitDefEqProofs (disch:=first|assumption|omega|(simp only[aE,aM,aF,i64,sa,aD,lm,la,lc,ln];omega)) only[go_sem,simprocAttr,b1,b2,b3,b4]|((first|rw[aP]|rw[aH]|rw[aK]|rw[aO]|rw[aN]|rw[aJ]|rw[aI]|rw[aQ]|skip);split)))
 have g1:0≤u.fRegs∧u.fRegs≤250:=by simpa[inB] using c1
 have g3:1≤(u.fCode.length:Int)∧(u.fCode.length:Int)≤900:=by simpa[inB] using c3
 have h0:=Aa u hs ⟨by omega,by omega⟩ hl u.fCode 0 rfl (by omega)
 obtain⟨t,ht,ht2,_⟩:=Va (l:=u.fCode) (by omega)
 simp only[ZC.r] at ht2
 simp only[zj2,ht]
 generalize (if 4<u.fRegs then(4:Int) else u.fRegs)=mn at *
 cases c4:lD u 0 u.fCode<;>simp only[c4,Bool.false_eq_true,if_true,if_false] at h0
 ·(repeat'(first|simp -implicitDefEqProofs (disch:=first|assumption|omega|(simp only[aE,aM,aF,i64,sa,aD,lm,la,lc,ln];omega)) only[go_sem,simprocAttr,b1,b2,b3,b4,h0]|((first|rw[aP]|rw[aH]|rw[aK]|rw[aO]|rw[aN]|rw[aJ]|rw[aI]|rw[aQ]|skip);split)))
 ·(repeat'(first|simp -implicitDefEqProofs (disch:=first|assumption|omega|(simp only[aE,aM,aF,i64,sa,aD,lm,la,lc,ln];omega)) only[go_sem,simprocAttr,b1,b2,b3,b4,h0,ht2]|((first|rw[aP]|rw[aH]|rw[aK]|rw[aO]|rw[aN]|rw[aJ]|rw[aI]|rw[aQ]|skip);split)))
  all_goals simp_all
set_option maxRecDepth 8000
set_option maxHeartbeats 4000000
theorem vI(f:Nat)(p:ZC→Bool)(h:Heap)(fr:Nat)(hh:cB fr h=h)(xs:List ZC)(hx:xs.length≤140737488351232)(kc:Nat)(h1:1≤fr)(hf:∀x∈xs,evCW tab f [x.x,.ptr (0,kc) [] 0 0] h (fr+1)=some (B (p x),h)):∀(Bl:List ZC) (j:Int),xs.drop j.toNat=Bl→0≤j →
  loopW tab [0,1,7,8] bI {env:=upd (upd (upd (upd emp 8 (some (I j))) 7 (some (I (xs.length:Int)))) 1 (some (.clo f [.ptr (0,kc) [] 0 0]))) 0 (some (.d (.r (xs.map (ZC.r))))),heap:=h,fr:=fr,next:=0}=if bC p j Bl= -1 then some (.ext 0,{env:=emp,heap:=h,fr:=fr,next:=0}) else some (.ret,{env:=upd emp 4 (some (I (bC p j Bl))),heap:=h,fr:=fr,next:=0})
 |[],j,hd,hj=>by
  unfold loopW
  conv=>lhs;arg 1;unfold bI
  have:=cY hd hj
  simp only[bC,if_true]
  (repeat'(first|simp -implicitDefEqProofs (disch:=first|assumption|omega|(simp only[aE,aM,aF,i64,sa,aD,lm,la,lc,ln];omega)) only[go_sem,simprocAttr,hh,show ¬0=fr from by omega]|((first|rw[aP]|rw[aH]|rw[aK]|rw[aO]|rw[aN]|rw[aJ]|rw[aI]|rw[aQ]|skip);split)))
 |x::Bl,j,hd,hj=>by
  unfold loopW
  conv=>lhs;arg 1;unfold bI
  have h4:=(cA hd hj).2.1
  have ih:=vI f p h fr hh xs hx kc h1 hf Bl (j+1) (cA hd hj).2.2.1 (by omega)
  have h2:=gC (ZC.r) (cA hd hj).1
  simp only[ZC.r] at h2
  have h3:=hf x (cA hd hj).2.2.2.1
  rw[bC]
  by_cases hp:p x=true
  ·rw[if_pos hp,if_neg (by omega)]
   (repeat'(first|simp -implicitDefEqProofs (disch:=first|assumption|omega|(simp only[aE,aM,aF,i64,sa,aD,lm,la,lc,ln];omega)) only[go_sem,simprocAttr,h2,show ¬0=fr from by omega,h3,hh]|((first|rw[aP]|rw[aH]|rw[aK]|rw[aO]|rw[aN]|rw[aJ]|rw[aI]|rw[aQ]|skip);split)))
  ·rw[if_neg hp,←ih]
   (repeat'(first|simp -implicitDefEqProofs (disch:=first|assumption|omega|(simp only[aE,aM,aF,i64,sa,aD,lm,la,lc,ln];omega)) only[go_sem,simprocAttr,h2,show ¬0=fr from by omega,h3,hh]|((first|rw[aP]|rw[aH]|rw[aK]|rw[aO]|rw[aN]|rw[aJ]|rw[aI]|rw[aQ]|skip);split)))
theorem wI(f:Nat)(p:ZC→Bool)(h:Heap)(fr:Nat)(hh:cB fr h=h)(xs:List ZC)(hx:xs.length≤140737488351232)(kc:Nat)(h1:1≤fr)(hf:∀x∈xs,evCW tab f [x.x,.ptr (0,kc) [] 0 0] h (fr+1)=some (B (p x),h)):evCW tab b9 [.d (.r (xs.map (ZC.r))),.clo f [.ptr (0,kc) [] 0 0]] h fr=some (I (bC p 0 xs),h):=by
 rw[aR eT _ _ _ rfl,dE]
 have h0:=vI f p h fr hh xs hx kc h1 hf xs 0 rfl (by omega)
 by_cases hp:bC p 0 xs= -1
 ·rw[if_pos hp] at h0
  (repeat'(first|simp -implicitDefEqProofs (disch:=first|assumption|omega|(simp only[aE,aM,aF,i64,sa,aD,lm,la,lc,ln];omega)) only[go_sem,simprocAttr,hh,h0,hp,show ¬0=fr from by omega]|((first|rw[aP]|rw[aH]|rw[aK]|rw[aO]|rw[aN]|rw[aJ]|rw[aI]|rw[aQ]|skip);split)))
 ·rw[if_neg hp] at h0
  (repeat'(first|simp -implicitDefEqProofs (disch:=first|assumption|omega|(simp only[aE,aM,aF,i64,sa,aD,lm,la,lc,ln];omega)) only[go_sem,simprocAttr,hh,h0,hp,show ¬0=fr from by omega]|((first|rw[aP]|rw[aH]|rw[aK]|rw[aO]|rw[aN]|rw[aJ]|rw[aI]|rw[aQ]|skip);split)))
theorem vL(f:Nat)(p:Int→Bool)(h:Heap)(fr:Nat)(hh:cB fr h=h)(xs:List Int)(hx:xs.length≤140737488351232)(kc:Nat)(k:Nat)(h1:1≤fr)(hk:h (0,k)=some (.s 1 (xs.map (fun n=>[DI n]))))(hf:∀x∈xs,evCW tab f [I x,.ptr (0,kc) [] 0 0] h (fr+1)=some (B (p x),h)):∀(Bl:List Int) (j:Int),xs.drop j.toNat=Bl→0≤j →
  loopW tab [0,1,7,8] dK {env:=upd (upd (upd (upd emp 8 (some (I j))) 7 (some (I (xs.length:Int)))) 1 (some (.clo f [.ptr (0,kc) [] 0 0]))) 0 (some (.ref (0,k) [])),heap:=h,fr:=fr,next:=0}=if bC p j Bl= -1 then some (.ext 0,{env:=emp,heap:=h,fr:=fr,next:=0}) else some (.ret,{env:=upd emp 4 (some (I (bC p j Bl))),heap:=h,fr:=fr,next:=0})
 |[],j,hd,hj=>by
  unfold loopW
  conv=>lhs;arg 1;unfold dK
  have:=cY hd hj
  simp only[bC,if_true]
  (repeat'(first|simp -implicitDefEqProofs (disch:=first|assumption|omega|(simp only[aE,aM,aF,i64,sa,aD,lm,la,lc,ln];omega)) only[go_sem,simprocAttr,hh,show ¬0=fr from by omega]|((first|rw[aP]|rw[aH]|rw[aK]|rw[aO]|rw[aN]|rw[aJ]|rw[aI]|rw[aQ]|skip);split)))
 |x::Bl,j,hd,hj=>by
  unfold loopW
  conv=>lhs;arg 1;unfold dK
  have h4:=(cA hd hj).2.1
  have ih:=vL f p h fr hh xs hx kc k h1 hk hf Bl (j+1) (cA hd hj).2.2.1 (by omega)
  have h2:=gC (fun n=>[DI n]) (cA hd hj).1
  have h3:=hf x (cA hd hj).2.2.2.1
  rw[bC]
  by_cases hp:p x=true
  ·rw[if_pos hp,if_neg (by omega)]
   (repeat'(first|simp -implicitDefEqProofs (disch:=first|assumption|omega|(simp only[aE,aM,aF,i64,sa,aD,lm,la,lc,ln];omega)) only[go_sem,simprocAttr,h2,hk,show ¬0=fr from by omega,h3,hh]|((first|rw[aP]|rw[aH]|rw[aK]|rw[aO]|rw[aN]|rw[aJ]|rw[aI]|rw[aQ]|skip);split)))
  ·rw[if_neg hp,←ih]
   (repeat'(first|simp -implicitDefEqProofs (disch:=first|assumption|omega|(simp only[aE,aM,aF,i64,sa,aD,lm,la,lc,ln];omega)) only[go_sem,simprocAttr,h2,hk,show ¬0=fr from by omega,h3,hh]|((first|rw[aP]|rw[aH]|rw[aK]|rw[aO]|rw[aN]|rw[aJ]|rw[aI]|rw[aQ]|skip);split)))
theorem vS(f:Nat)(p:Int→Bool)(h:Heap)(fr:Nat)(hh:cB fr h=h)(xs:List Int)(hx:xs.length≤140737488351232)(kc:Nat)(k:Nat)(h1:1≤fr)(hk:h (0,k)=some (.s 1 (xs.map (fun n=>[DI n]))))(hf:∀x∈xs,evCW tab f [I x,.ptr (0,kc) [] 0 0] h (fr+1)=some (B (p x),h)):evCW tab gR [.ref (0,k) [],.clo f [.ptr (0,kc) [] 0 0]] h fr=some (I (bC p 0 xs),h):=by
 rw[aR rA _ _ _ rfl,kW]
 have h0:=vL f p h fr hh xs hx kc k h1 hk hf xs 0 rfl (by omega)
 by_cases hp:bC p 0 xs= -1
 ·rw[if_pos hp] at h0
  (repeat'(first|simp -implicitDefEqProofs (disch:=first|assumption|omega|(simp only[aE,aM,aF,i64,sa,aD,lm,la,lc,ln];omega)) only[go_sem,simprocAttr,hh,h0,hp,hk,show ¬0=fr from by omega]|((first|rw[aP]|rw[aH]|rw[aK]|rw[aO]|rw[aN]|rw[aJ]|rw[aI]|rw[aQ]|skip);split)))
 ·rw[if_neg hp] at h0
  (repeat'(first|simp -implicitDefEqProofs (disch:=first|assumption|omega|(simp only[aE,aM,aF,i64,sa,aD,lm,la,lc,ln];omega)) only[go_sem,simprocAttr,hh,h0,hp,hk,show ¬0=fr from by omega]|((first|rw[aP]|rw[aH]|rw[aK]|rw[aO]|rw[aN]|rw[aJ]|rw[aI]|rw[aQ]|skip);split)))
theorem sE(f:Nat)(p:Int→Bool)(h:Heap)(fr:Nat)(hh:cB fr h=h)(hh':cB (fr+1) h=h)(xs:List Int)(hx:xs.length≤140737488351232)(kc:Nat)(k:Nat)(h1:1≤fr)(hk:h (0,k)=some (.s 1 (xs.map (fun n=>[DI n]))))(hf:∀x∈xs,evCW tab f [I x,.ptr (0,kc) [] 0 0] h (fr+2)=some (B (p x),h)):evCW tab fC [.ref (0,k) [],.clo f [.ptr (0,kc) [] 0 0]] h fr=some (B (xs.any p),h):=by
 rw[aR pH _ _ _ rfl,i6]
 have h0:=vS f p h (fr+1) hh' xs hx kc k (by omega) hk hf
 rw[At p 0 (by omega)]
 (repeat'(first|simp -implicitDefEqProofs (disch:=first|assumption|omega|(simp only[aE,aM,aF,i64,sa,aD,lm,la,lc,ln];omega)) only[go_sem,simprocAttr,hh,h0,hk,show ¬0=fr from by omega]|((first|rw[aP]|rw[aH]|rw[aK]|rw[aO]|rw[aN]|rw[aJ]|rw[aI]|rw[aQ]|skip);split)))
set_option maxRecDepth 8000
set_option maxHeartbeats 4000000
def zYz:List ByteArray:=[noS,⟨#[68,78]⟩,⟨#[68,65]⟩,⟨#[68,65,66]⟩,⟨#[68,65,66]⟩,⟨#[68,65,66]⟩,⟨#[68,65,66]⟩,⟨#[68,65,66]⟩,⟨#[78]⟩,⟨#[78]⟩,⟨#[65,78]⟩,⟨#[68,83,88]⟩,⟨#[65]⟩,⟨#[65]⟩,⟨#[83,88]⟩,⟨#[68,65]⟩,⟨#[65,66]⟩,⟨#[68,65]⟩,⟨#[65]⟩,⟨#[68,66,78,88]⟩,⟨#[68,65]⟩,⟨#[65,66]⟩,⟨#[68,65,66,88]⟩,⟨#[68]⟩,⟨#[68,83]⟩,⟨#[65]⟩,⟨#[65,66]⟩,⟨#[65,66]⟩,⟨#[65]⟩]
def oG(op:Int):ByteArray:=if 1≤op∧op≤28 then(zYz[op.toNat]?).getD noS else noS
theorem Ew(op:Int):call tab B3 [I op]=some (Str (oG op)):=by
 rw[aY Xp _ rfl,Hw]
 by_cases h:1≤op∧op≤28
 ·obtain⟨h1,h2⟩:=h
  rw[oG,if_pos ⟨h1,h2⟩]
  rcases K5 h1 h2 with rfl|rfl|rfl|rfl|rfl|rfl|rfl|rfl|rfl|rfl|rfl|rfl|rfl|rfl|rfl|rfl|rfl|rfl|rfl|rfl|rfl|rfl|rfl|rfl|rfl|rfl|rfl|rfl<;>simp -implicitDefEqProofs (disch:=first|assumption|omega|(simp only[aE,aM,aF,i64,sa,aD,lm,la,lc,ln];omega)) only[go_sem,simprocAttr,zYz]
 ·rw[oG,if_neg h]
  simp -implicitDefEqProofs (disch:=first|assumption|omega|(simp only[aE,aM,aF,i64,sa,aD,lm,la,lc,ln];omega)) only[go_sem,simprocAttr]
abbrev U8(c:Int):X:= .d (.v (.int .u8 c))
theorem C2(bs:List UInt8)(hl:bs.length≤1048576)(c:Int):∀(Bl:List UInt8) (j:Int),bs.drop j.toNat=Bl→0≤j →
  loopW tab [0,1,7,8] dZ {env:=upd (upd (upd (upd emp 8 (some (I j))) 7 (some (I (bs.length:Int)))) 1 (some (U8 c))) 0 (some (.d (.r (bs.map fun x=>[D.v (.int .u8 x.toNat)])))),heap:=emp,fr:=0,next:=0}=if bC (fun x:UInt8=>decide (c=x.toNat)) j Bl= -1 then some (.ext 0,{env:=emp,heap:=emp,fr:=0,next:=0}) else some (.ret,{env:=upd emp 4 (some (I (bC (fun x:UInt8=>decide (c=x.toNat)) j Bl))),heap:=emp,fr:=0,next:=0})
 |[],j,hd,hj=>by
  unfold loopW
  conv=>lhs;arg 1;unfold dZ
  have h1:=cY hd hj
  simp only[bC,if_true]
  (repeat'(first|simp -implicitDefEqProofs (disch:=first|assumption|omega|(simp only[aE,aM,aF,i64,sa,aD,lm,la,lc,ln];omega)) only[go_sem,simprocAttr]|((first|rw[aP]|rw[aH]|rw[aK]|rw[aO]|rw[aN]|rw[aJ]|rw[aI]|rw[aQ]|skip);split)))
 |x::Bl,j,hd,hj=>by
  unfold loopW
  conv=>lhs;arg 1;unfold dZ
  have h1:=cA hd hj
  have h5:=h1.2.1
  have h2:=gC (fun x:UInt8=>[D.v (.int .u8 x.toNat)]) h1.1
  have ih:=C2 bs hl c Bl (j+1) h1.2.2.1 (by omega)
  rw[bC]
  by_cases hp:c=x.toNat
  ·have k:decide (c=(x.toNat:Int))=true:=decide_eq_true hp
   simp only[k,if_true]
   rw[if_neg (by omega)]
   (repeat'(first|simp -implicitDefEqProofs (disch:=first|assumption|omega|(simp only[aE,aM,aF,i64,sa,aD,lm,la,lc,ln];omega)) only[go_sem,simprocAttr,h2]|((first|rw[aP]|rw[aH]|rw[aK]|rw[aO]|rw[aN]|rw[aJ]|rw[aI]|rw[aQ]|skip);split)))
  ·have k:decide (c=(x.toNat:Int))=false:=decide_eq_false hp
   simp only[k,Bool.false_eq_true,if_false]
   rw[←ih]
   (repeat'(first|simp -implicitDefEqProofs (disch:=first|assumption|omega|(simp only[aE,aM,aF,i64,sa,aD,lm,la,lc,ln];omega)) only[go_sem,simprocAttr,h2]|((first|rw[aP]|rw[aH]|rw[aK]|rw[aO]|rw[aN]|rw[aJ]|rw[aI]|rw[aQ]|skip);split)))
theorem Ng(op c:Int):call tab d6 [I op,U8 c]=some (B (decide (0≤bC (fun x:UInt8=>decide (c=x.toNat)) 0 (oG op).data.toList))):=by
 have hs:(oG op).size≤4:=by
  unfold oG
  split
  ·rename_i h
   rcases K5 h.1 h.2 with rfl|rfl|rfl|rfl|rfl|rfl|rfl|rfl|rfl|rfl|rfl|rfl|rfl|rfl|rfl|rfl|rfl|rfl|rfl|rfl|rfl|rfl|rfl|rfl|rfl|rfl|rfl|rfl<;>decide
  ·decide
 have hl:(oG op).data.toList.length≤4:=by rw[Array.length_toList];exact hs
 have h0:=C2 (oG op).data.toList (by omega) c (oG op).data.toList 0 rfl (by omega)
 have h1:call tab jG [.d (.r ((oG op).data.toList.map fun x=>[D.v (.int .u8 x.toNat)])),U8 c]=some (I (bC (fun x:UInt8=>decide (c=x.toNat)) 0 (oG op).data.toList)):=by
  rw[aY uR _ rfl,mF]
  by_cases hp:bC (fun x:UInt8=>decide (c=x.toNat)) 0 (oG op).data.toList= -1
  ·rw[if_pos hp] at h0
   (repeat'(first|simp -implicitDefEqProofs (disch:=first|assumption|omega|(simp only[aE,aM,aF,i64,sa,aD,lm,la,lc,ln];omega)) only[go_sem,simprocAttr,h0,hp]|((first|rw[aP]|rw[aH]|rw[aK]|rw[aO]|rw[aN]|rw[aJ]|rw[aI]|rw[aQ]|skip);split)))
  ·rw[if_neg hp] at h0
   (repeat'(first|simp -implicitDefEqProofs (disch:=first|assumption|omega|(simp only[aE,aM,aF,i64,sa,aD,lm,la,lc,ln];omega)) only[go_sem,simprocAttr,h0]|((first|rw[aP]|rw[aH]|rw[aK]|rw[aO]|rw[aN]|rw[aJ]|rw[aI]|rw[aQ]|skip);split)))
 have h2:call tab gI [.d (.r ((oG op).data.toList.map fun x=>[D.v (.int .u8 x.toNat)])),U8 c]=some (B (decide (0≤bC (fun x:UInt8=>decide (c=x.toNat)) 0 (oG op).data.toList))):=by
  rw[aY qY _ rfl,j9]
  (repeat'(first|simp -implicitDefEqProofs (disch:=first|assumption|omega|(simp only[aE,aM,aF,i64,sa,aD,lm,la,lc,ln];omega)) only[go_sem,simprocAttr,h1]|((first|rw[aP]|rw[aH]|rw[aK]|rw[aO]|rw[aN]|rw[aJ]|rw[aI]|rw[aQ]|skip);split)))
 rw[aY Ss _ rfl,E0]
 (repeat'(first|simp -implicitDefEqProofs (disch:=first|assumption|omega|(simp only[aE,aM,aF,i64,sa,aD,lm,la,lc,ln];omega)) only[go_sem,simprocAttr,Ew,Dg,h2]|((first|rw[aP]|rw[aH]|rw[aK]|rw[aO]|rw[aN]|rw[aJ]|rw[aI]|rw[aQ]|skip);split)))
theorem Z0{op:Int}:∀p∈[((68:Int),(1:Int)),(65,2),(66,4),(78,8),(83,16),(88,32)],decide (0≤bC (fun x:UInt8=>decide (p.1=x.toNat)) 0 (oG op).data.toList)=iY (fL op) p.2:=by
 by_cases h:1≤op∧op≤28
 ·rcases K5 h.1 h.2 with rfl|rfl|rfl|rfl|rfl|rfl|rfl|rfl|rfl|rfl|rfl|rfl|rfl|rfl|rfl|rfl|rfl|rfl|rfl|rfl|rfl|rfl|rfl|rfl|rfl|rfl|rfl|rfl<;>decide
 ·rw[oG,if_neg h,fL,if_neg h]
  decide
theorem dV(x:ZC)(p:Int×Int)(hp:p∈[((68:Int),(1:Int)),(65,2),(66,4),(78,8),(83,16),(88,32)]):call tab d6 [I x.fOp,U8 p.1]=some (B (hb x p.2)):=by
 rw[Ng,Z0 p hp]
 rfl
theorem z83{x:ZC}(h:x.fOp=19):hb x 1=true∧hb x 2=false∧hb x 4=true∧hb x 32=true:=by
 unfold hb
 rw[h]
 decide
theorem qT(x:ZC):call tab q6 [x.x]=some (.d (.s 1 (aG (aZ x)))):=by
 rw[aY Ul _ rfl,Hj,aZ]
 have a1:=dV x (68,1) (by simp)
 by_cases c0:x.fOp=19
 ·rw[(z83 c0).1,if_pos rfl,if_pos c0]
  (repeat'(first|simp -implicitDefEqProofs (disch:=first|assumption|omega|(simp only[aE,aM,aF,i64,sa,aD,lm,la,lc,ln];omega)) only[go_sem,simprocAttr,aG,mc,mn]|((first|rw[aP]|rw[aH]|rw[aK]|rw[aO]|rw[aN]|rw[aJ]|rw[aI]|rw[aQ]|skip);split)))
 ·rw[if_neg c0]
  cases c1:hb x 1<;>rw[c1] at a1<;>(repeat'(first|simp -implicitDefEqProofs (disch:=first|assumption|omega|(simp only[aE,aM,aF,i64,sa,aD,lm,la,lc,ln];omega)) only[go_sem,simprocAttr,aG,mc,mn,a1]|((first|rw[aP]|rw[aH]|rw[aK]|rw[aO]|rw[aN]|rw[aJ]|rw[aI]|rw[aQ]|skip);split)))
theorem wM(x:ZC)(hl:x.fArgs.length≤1048576)(h19:x.fOp=19):∀(Bl:List Int) (j:Nat) (A:List Int),x.fArgs.drop j=Bl→A.length≤j →
  loopW tab [1,3,11,12,13] o8 {env:=upd (upd (upd (upd (upd emp 13 (some (I (j:Int)))) 12 (some (I (x.fArgs.length:Int)))) 11 (some (.d (.r (aG x.fArgs))))) 3 (some (.ref (0,0) []))) 1 (some (.vp [I x.fOp,I x.fD,I x.fA,I x.fB,I x.fN,Str x.fS,.d (.r (aG x.fArgs))])),heap:=upd emp (0,0) (some (.s 1 (aG A))),fr:=0,next:=1}=some (.ext 0,{env:=upd emp 3 (some (.ref (0,0) [])),heap:=upd emp (0,0) (some (.s 1 (aG (A++wE x j Bl)))),fr:=0,next:=1})
 |[],j,A,hd,hA=>by
  have hd2:x.fArgs.drop ((j:Int)).toNat=[]:=by simpa using hd
  have hj:(0:Int)≤j:=by omega
  unfold loopW
  conv=>lhs;arg 1;unfold o8
  have h1:=cY hd2 hj
  (repeat'(first|simp -implicitDefEqProofs (disch:=first|assumption|omega|(simp only[aE,aM,aF,i64,sa,aD,lm,la,lc,ln];omega)) only[go_sem,simprocAttr,wE,List.append_nil]|((first|rw[aP]|rw[aH]|rw[aK]|rw[aO]|rw[aN]|rw[aJ]|rw[aI]|rw[aQ]|skip);split)))
 |y::Bl,j,A,hd,hA=>by
  have hd2:x.fArgs.drop ((j:Int)).toNat=y::Bl:=by simpa using hd
  have hj:(0:Int)≤j:=by omega
  unfold loopW
  conv=>lhs;arg 1;unfold o8
  have h1:=cA hd2 hj
  have h5:=h1.2.1
  have h2:=gC (fun n=>[DI n]) h1.1
  simp only[Int.toNat_natCast] at h2
  have h3:x.fArgs.drop (j+1)=Bl:=by have:=h1.2.2.1;rwa [show((j:Int)+1).toNat=j+1 by omega] at this
  have m1:((j:Int)).tmod 3=((j % 3:Nat):Int):=by have:=s6 (n:=(j:Int)) (by omega) 3;simpa using this
  have ih1:=wM x hl h19 Bl (j+1) (A++[y]) h3 (by simp;omega)
  have ih2:=wM x hl h19 Bl (j+1) A h3 (by omega)
  rw[show((j+1:Nat):Int)=(j:Int)+1 by omega] at ih1 ih2
  rw[wE,←List.append_assoc]
  simp only[List.map_append,mc,mn] at ih1 ih2 ⊢
  have k0:decide (x.fOp=19)=true:=decide_eq_true h19
  simp only[k0,Bool.not_true,Bool.false_or,zXM]
  rcases (by omega:j % 3=0∨j % 3=1∨j % 3=2) with c1|c1|c1
  ·simp only[c1] at m1 ⊢
   (repeat'(first|simp -implicitDefEqProofs (disch:=first|assumption|omega|(simp only[aE,aM,aF,i64,sa,aD,lm,la,lc,ln];omega)) only[go_sem,simprocAttr,h2,m1,ih2]|((first|rw[aP]|rw[aH]|rw[aK]|rw[aO]|rw[aN]|rw[aJ]|rw[aI]|rw[aQ]|skip);split)))
  ·simp only[c1] at m1 ⊢
   (repeat'(first|simp -implicitDefEqProofs (disch:=first|assumption|omega|(simp only[aE,aM,aF,i64,sa,aD,lm,la,lc,ln];omega)) only[go_sem,simprocAttr,h2,m1,ih1]|((first|rw[aP]|rw[aH]|rw[aK]|rw[aO]|rw[aN]|rw[aJ]|rw[aI]|rw[aQ]|skip);split)))
  ·simp only[c1] at m1 ⊢
   have hj2:j-2<x.fArgs.length:=by omega
   obtain⟨v,hv,hv2⟩:=zWO x.fArgs (j:=(j:Int)-2) (by omega) (by omega)
   rw[show((j:Int)-2).toNat=j-2 by omega] at hv2
   by_cases c2:v=2
   ·subst c2
    simp only[hv2]
    (repeat'(first|simp -implicitDefEqProofs (disch:=first|assumption|omega|(simp only[aE,aM,aF,i64,sa,aD,lm,la,lc,ln];omega)) only[go_sem,simprocAttr,h2,m1,hv,ih1]|((first|rw[aP]|rw[aH]|rw[aK]|rw[aO]|rw[aN]|rw[aJ]|rw[aI]|rw[aQ]|skip);split)))
   ·have:¬(some v=some (2:Int)):=by simpa using c2
    simp only[hv2,this]
    (repeat'(first|simp -implicitDefEqProofs (disch:=first|assumption|omega|(simp only[aE,aM,aF,i64,sa,aD,lm,la,lc,ln];omega)) only[go_sem,simprocAttr,h2,m1,hv,c2,ih2]|((first|rw[aP]|rw[aH]|rw[aK]|rw[aO]|rw[aN]|rw[aJ]|rw[aI]|rw[aQ]|skip);split)))
theorem Bw(x:ZC)(h:¬x.fOp=19):∀(q:Nat) (l:List Int),wE x q l=l
 |_,[]=>rfl
 |q,y::ys=>by
  rw[wE,Bw x h (q+1) ys]
  simp[h]
theorem Be(l:List Int):(aG l).map (fun el=>el.map D.toR)=aG l:=by
 simp[D.toR]
theorem wR(x:ZC)(hl:x.fArgs.length≤1048576):call tab vF [x.x]=some (.d (.s 1 (aG (a8 x)))):=by
 rw[aY Ux _ rfl,Ho,a8]
 have a1:=dV x (65,2) (by simp)
 have a2:=dV x (66,4) (by simp)
 have a3:=dV x (88,32) (by simp)
 by_cases c0:x.fOp=19
 ·obtain⟨k1,k2,k3,k4⟩:=z83 c0
  have k0:decide (x.fOp=19)=true:=decide_eq_true c0
  have h0:=wM x hl c0 x.fArgs 0 [] rfl (by simp)
  simp only[Int.cast_ofNat_Int,mn,List.nil_append] at h0
  simp only[k0,k2,k3,k4,Bool.not_true,zky,Bool.false_eq_true,if_false,if_true,List.nil_append]
  (repeat'(first|simp -implicitDefEqProofs (disch:=first|assumption|omega|(simp only[aE,aM,aF,i64,sa,aD,lm,la,lc,ln];omega)) only[go_sem,simprocAttr,h0]|((first|rw[aP]|rw[aH]|rw[aK]|rw[aO]|rw[aN]|rw[aJ]|rw[aI]|rw[aQ]|skip);split)))
 ·have k0:decide (x.fOp=19)=false:=decide_eq_false c0
  rw[Bw x c0]
  simp only[k0,Bool.not_false,bat]
  have hh:=Be x.fArgs
  have hal:=Tu x.fArgs
  cases c2:hb x 2<;>cases c4:hb x 4<;>cases c32:hb x 32<;>rw[c2] at a1<;>rw[c4] at a2<;>rw[c32] at a3<;>simp only[Bool.false_eq_true,if_false,if_true,List.nil_append,List.append_nil,List.cons_append]<;>(repeat'(first|simp -implicitDefEqProofs (disch:=first|assumption|omega|(simp only[aE,aM,aF,i64,sa,aD,lm,la,lc,ln];omega)) only[go_sem,simprocAttr,a1,a2,a3,aG,mc,mn,hh,hal]|((first|rw[aP]|rw[aH]|rw[aK]|rw[aO]|rw[aN]|rw[aJ]|rw[aI]|rw[aQ]|skip);split)))
set_option maxRecDepth 8000
set_option maxHeartbeats 4000000
def Sx:List Int→Bool
 |a::_::d::r=>inB a 1 2&& !(decide (a=1)&& !decide (d=0))&&Sx r
 |_=>true
theorem zZ0:∀(l:List Int),l.length % 3=0→Sx l=Dk l
 |[],_=>rfl
 |[_],h=>by simp at h
 |[_,_],h=>by simp at h
 |a::b::d::r,h=>by
  rw[Sx,Dk,zZ0 r (by simp only[lc] at h;omega)]
abbrev vpT(x:ZC):X:= .vp [I x.fOp,I x.fD,I x.fA,I x.fB,I x.fN,Str x.fS,.d (.r (aG x.fArgs))]
theorem Bc(x:ZC)(hl:x.fArgs.length≤1048576):∀(k:Nat) (Bl:List Int) (j:Int),Bl.length≤k→x.fArgs.drop j.toNat=Bl→0≤j→j≤1048580 →
  loopW tab [2,5] mI {env:=upd (upd emp 5 (some (I j))) 2 (some (vpT x)),heap:=emp,fr:=0,next:=0}=if Sx Bl=true then some (.ext 1,{env:=upd emp 2 (some (vpT x)),heap:=emp,fr:=0,next:=0}) else some (.ret,{env:=upd emp 4 (some (B false)),heap:=emp,fr:=0,next:=0})
 |_,[],j,hk,hd,hj,hj2=>by
  unfold loopW
  conv=>lhs;arg 1;unfold mI
  have h1:=cY hd hj
  simp only[Sx,if_true]
  (repeat'(first|simp -implicitDefEqProofs (disch:=first|assumption|omega|(simp only[aE,aM,aF,i64,sa,aD,lm,la,lc,ln];omega)) only[go_sem,simprocAttr]|((first|rw[aP]|rw[aH]|rw[aK]|rw[aO]|rw[aN]|rw[aJ]|rw[aI]|rw[aQ]|skip);split)))
 |0,_::_,j,hk,hd,hj,hj2=>by simp at hk
 |k+1,a::Bl,j,hk,hd,hj,hj2=>by
  unfold loopW
  conv=>lhs;arg 1;unfold mI
  have h1:=cA hd hj
  have h5:=h1.2.1
  have h2:=gC (fun n=>[DI n]) h1.1
  have hi:=dL a 1 2
  have hlen:=h1.2.2.2.2
  match Bl,h1,hlen with
  |[],h1,hlen =>
   simp only[ln] at hlen
   simp only[Sx,if_true]
   (repeat'(first|simp -implicitDefEqProofs (disch:=first|assumption|omega|(simp only[aE,aM,aF,i64,sa,aD,lm,la,lc,ln];omega)) only[go_sem,simprocAttr,h2]|((first|rw[aP]|rw[aH]|rw[aK]|rw[aO]|rw[aN]|rw[aJ]|rw[aI]|rw[aQ]|skip);split)))
  |[b],h1,hlen =>
   simp only[lc,ln] at hlen
   simp only[Sx,if_true]
   (repeat'(first|simp -implicitDefEqProofs (disch:=first|assumption|omega|(simp only[aE,aM,aF,i64,sa,aD,lm,la,lc,ln];omega)) only[go_sem,simprocAttr,h2]|((first|rw[aP]|rw[aH]|rw[aK]|rw[aO]|rw[aN]|rw[aJ]|rw[aI]|rw[aQ]|skip);split)))
  |b::d::Bl,h1,hlen =>
   simp only[lc] at hlen
   have hd3:x.fArgs.drop (j+3).toNat=Bl:=by
    have:=congrArg (List.drop 2) h1.2.2.1
    rw[List.drop_drop] at this
    simp only[List.drop_succ_cons,List.drop_zero] at this
    rw[←this]
    congr 1;omega
   have ih:=Bc x hl k Bl (j+3) (by simp only[lc] at hk;omega) hd3 (by omega) (by omega)
   obtain⟨v,hv,hv2⟩:=zWO x.fArgs (j:=j+2) (by omega) (by omega)
   have hvd:v=d:=by
    have h3:=congrArg (fun l=>l[1]?) h1.2.2.1
    simp only[List.getElem?_drop,List.getElem?_cons_succ,List.getElem?_cons_zero] at h3
    rw[show(j+1).toNat+1=(j+2).toNat by omega,hv2] at h3
    simpa using h3
   subst hvd
   rw[Sx]
   cases c:inB a 1 2<;>rw[c] at hi<;>simp only[bta,bfa]<;>(repeat'(first|simp -implicitDefEqProofs (disch:=first|assumption|omega|(simp only[aE,aM,aF,i64,sa,aD,lm,la,lc,ln];omega)) only[go_sem,simprocAttr,h2,hi,hv,ih]|((first|rw[aP]|rw[aH]|rw[aK]|rw[aO]|rw[aN]|rw[aJ]|rw[aI]|rw[aQ]|skip);split)))
theorem z7M{x:ZC}(h:¬x.fOp=19)(h2:¬x.fOp=22):hb x 32=decide (x.fOp=11∨x.fOp=14):=by
 unfold hb
 generalize x.fOp=op at *
 by_cases h3:1≤op∧op≤28
 ·rcases K5 h3.1 h3.2 with rfl|rfl|rfl|rfl|rfl|rfl|rfl|rfl|rfl|rfl|rfl|rfl|rfl|rfl|rfl|rfl|rfl|rfl|rfl|rfl|rfl|rfl|rfl|rfl|rfl|rfl|rfl|rfl<;>first|decide|exact absurd rfl h|exact absurd rfl h2
 ·have e:decide (op=11∨op=14)=false:=decide_eq_false (by omega)
  rw[e,fL,if_neg h3]
  decide
theorem Mc(x:ZC)(m:Int)(hl:x.fArgs.length≤1048576):call tab Ah [x.x,I m]=some (B (eD x&&(!decide (x.fOp=19)||inB x.fN 0 1))):=by
 rw[aY Pm _ rfl,Cz,eD]
 have h0:=Bc x hl x.fArgs.length x.fArgs 0 (Nat.le_refl _) rfl (by omega) (by omega)
 have a1:=dV x (88,32) (by simp)
 have a2:=dL x.fArgs.length 3 9
 have a3:=dL x.fN 0 1
 have m1:((x.fArgs.length:Int)).tmod 3=((x.fArgs.length % 3:Nat):Int):=by have:=s6 (n:=(x.fArgs.length:Int)) (by omega) 3;simpa using this
 by_cases c0:x.fOp=19
 ·have k0:decide (x.fOp=19)=true:=decide_eq_true c0
  rw[if_pos c0]
  simp only[k0,Bool.not_true,Bool.false_or]
  by_cases c3:x.fArgs.length % 3=0
  ·rw[zZ0 _ c3] at h0
   rw[c3] at m1
   have e:(decide ((x.fArgs.length:Int)=3)||decide ((x.fArgs.length:Int)=6)||decide ((x.fArgs.length:Int)=9))=inB x.fArgs.length 3 9:=by
    rw[Bool.eq_iff_iff];simp[inB];omega
   rw[e]
   cases ct:Dk x.fArgs<;>simp only[ct,Bool.false_eq_true,if_true,if_false] at h0
   ·(repeat'(first|simp -implicitDefEqProofs (disch:=first|assumption|omega|(simp only[aE,aM,aF,i64,sa,aD,lm,la,lc,ln];omega)) only[go_sem,simprocAttr,h0]|((first|rw[aP]|rw[aH]|rw[aK]|rw[aO]|rw[aN]|rw[aJ]|rw[aI]|rw[aQ]|skip);split)))
   ·cases c4:inB x.fArgs.length 3 9<;>rw[c4] at a2
    ·(repeat'(first|simp -implicitDefEqProofs (disch:=first|assumption|omega|(simp only[aE,aM,aF,i64,sa,aD,lm,la,lc,ln];omega)) only[go_sem,simprocAttr,h0,m1,a2]|((first|rw[aP]|rw[aH]|rw[aK]|rw[aO]|rw[aN]|rw[aJ]|rw[aI]|rw[aQ]|skip);split)))
    ·cases c5:inB x.fN 0 1<;>rw[c5] at a3<;>(repeat'(first|simp -implicitDefEqProofs (disch:=first|assumption|omega|(simp only[aE,aM,aF,i64,sa,aD,lm,la,lc,ln];omega)) only[go_sem,simprocAttr,h0,m1,a2,a3]|((first|rw[aP]|rw[aH]|rw[aK]|rw[aO]|rw[aN]|rw[aJ]|rw[aI]|rw[aQ]|skip);split)))
  ·have e:(decide ((x.fArgs.length:Int)=3)||decide ((x.fArgs.length:Int)=6)||decide ((x.fArgs.length:Int)=9))=false:=by
    rw[Bool.eq_false_iff];simp;omega
   rw[e]
   have c6:¬((x.fArgs.length % 3:Nat):Int)=0:=by omega
   generalize ((x.fArgs.length % 3:Nat):Int)=q at m1 c6
   cases ct:Sx x.fArgs<;>simp only[ct,Bool.false_eq_true,if_true,if_false] at h0<;>(repeat'(first|simp -implicitDefEqProofs (disch:=first|assumption|omega|(simp only[aE,aM,aF,i64,sa,aD,lm,la,lc,ln];omega)) only[go_sem,simprocAttr,h0,m1]|((first|rw[aP]|rw[aH]|rw[aK]|rw[aO]|rw[aN]|rw[aJ]|rw[aI]|rw[aQ]|skip);split)))
   all_goals simp
 ·have k0:decide (x.fOp=19)=false:=decide_eq_false c0
  rw[if_neg c0]
  simp only[k0,Bool.not_false,Bool.true_or,bat]
  by_cases c1:x.fOp=22
  ·rw[if_pos c1]
   (repeat'(first|simp -implicitDefEqProofs (disch:=first|assumption|omega|(simp only[aE,aM,aF,i64,sa,aD,lm,la,lc,ln];omega)) only[go_sem,simprocAttr]|((first|rw[aP]|rw[aH]|rw[aK]|rw[aO]|rw[aN]|rw[aJ]|rw[aI]|rw[aQ]|skip);split)))
  ·rw[if_neg c1]
   rw[z7M c0 c1] at a1
   by_cases c2:x.fOp=11∨x.fOp=14
   ·rw[if_pos c2]
    rw[decide_eq_true c2] at a1
    (repeat'(first|simp -implicitDefEqProofs (disch:=first|assumption|omega|(simp only[aE,aM,aF,i64,sa,aD,lm,la,lc,ln];omega)) only[go_sem,simprocAttr,a1]|((first|rw[aP]|rw[aH]|rw[aK]|rw[aO]|rw[aN]|rw[aJ]|rw[aI]|rw[aQ]|skip);split)))
   ·rw[if_neg c2]
    rw[decide_eq_false c2] at a1
    (repeat'(first|simp -implicitDefEqProofs (disch:=first|assumption|omega|(simp only[aE,aM,aF,i64,sa,aD,lm,la,lc,ln];omega)) only[go_sem,simprocAttr,a1]|((first|rw[aP]|rw[aH]|rw[aK]|rw[aO]|rw[aN]|rw[aJ]|rw[aI]|rw[aQ]|skip);split)))
theorem zZg(op:Int):decide (oG op=⟨#[]⟩)= !inB op 1 28:=by
 by_cases h:1≤op∧op≤28
 ·have e:inB op 1 28=true:=by simp[inB,h.1,h.2]
  rw[e]
  rcases K5 h.1 h.2 with rfl|rfl|rfl|rfl|rfl|rfl|rfl|rfl|rfl|rfl|rfl|rfl|rfl|rfl|rfl|rfl|rfl|rfl|rfl|rfl|rfl|rfl|rfl|rfl|rfl|rfl|rfl|rfl<;>decide
 ·have e:inB op 1 28=false:=by simp only[inB,←Bool.decide_and];exact decide_eq_false h
  rw[e,oG,if_neg h]
  decide
theorem H8(r m:Int)(hm:i64 (m-1))(k:Nat)(h:Heap)(fr:Nat)(h1:1≤fr)(hk:h (0,k)=some (.s 1 [[DI m]]))(hh:cB fr h=h):evCW tab jB [I r,.ptr (0,k) [] 0 0] h fr=some (B (!inB r 0 (m-1)),h):=by
 rw[aR M6 _ _ _ rfl,zA]
 (repeat'(first|simp -implicitDefEqProofs (disch:=first|assumption|omega|(simp only[aE,aM,aF,i64,sa,aD,lm,la,lc,ln];omega)) only[go_sem,simprocAttr,dL,hk,hh]|((first|rw[aP]|rw[aH]|rw[aK]|rw[aO]|rw[aN]|rw[aJ]|rw[aI]|rw[aQ]|skip);split)))
theorem zjH(k:Nat)(h:Heap)(x:Option D):cB 2 (upd h (0,k) x)=upd (cB 2 h) (0,k) x:=zjN 1 k h x
theorem zWR(k:Nat)(h:Heap)(x:Option D):cB 3 (upd h (0,k) x)=upd (cB 3 h) (0,k) x:=zjN 2 k h x
theorem Pe(x:ZC)(m:Int)(hl:x.fArgs.length≤1048576)(hm:i64 (m-1)):call tab Dm [x.x,I m]=some (B (O8 x m)):=by
 rw[aY Rs _ rfl,Fb,O8]
 have a0:=Ew x.fOp
 have e0:=zZg x.fOp
 have a1:=Nh x.fN
 have a2:=Mc x m hl
 have b1:=dV x (68,1) (by simp)
 have b2:=dV x (65,2) (by simp)
 have b4:=dV x (66,4) (by simp)
 have b8:=dV x (78,8) (by simp)
 have b16:=dV x (83,16) (by simp)
 have s1:=nC x
 have s2:=oN x
 have hal:=Tu (a8 x)
 cases c1:inB x.fOp 1 28<;>rw[c1] at e0
 ·(repeat'(first|simp -implicitDefEqProofs (disch:=first|assumption|omega|(simp only[aE,aM,aF,i64,sa,aD,lm,la,lc,ln];omega)) only[go_sem,simprocAttr,a0,e0]|((first|rw[aP]|rw[aH]|rw[aK]|rw[aO]|rw[aN]|rw[aJ]|rw[aI]|rw[aQ]|skip);split)))
 cases c5:zyC x.fN<;>rw[c5] at a1
 ·(repeat'(first|simp -implicitDefEqProofs (disch:=first|assumption|omega|(simp only[aE,aM,aF,i64,sa,aD,lm,la,lc,ln];omega)) only[go_sem,simprocAttr,a0,e0,a1]|((first|rw[aP]|rw[aH]|rw[aK]|rw[aO]|rw[aN]|rw[aJ]|rw[aI]|rw[aQ]|skip);split)))
  all_goals simp
 cases c2:(eD x&&(!decide (x.fOp=19)||inB x.fN 0 1))<;>rw[c2] at a2
 ·have e:(true&&eD x&&Au x m&&(!decide (x.fOp=19)||inB x.fN 0 1))=false:=by
   revert c2;cases eD x<;>cases Au x m<;>cases (!decide (x.fOp=19)||inB x.fN 0 1)<;>simp
  rw[e]
  (repeat'(first|simp -implicitDefEqProofs (disch:=first|assumption|omega|(simp only[aE,aM,aF,i64,sa,aD,lm,la,lc,ln];omega)) only[go_sem,simprocAttr,a0,e0,a1,a2]|((first|rw[aP]|rw[aH]|rw[aK]|rw[aO]|rw[aN]|rw[aJ]|rw[aI]|rw[aQ]|skip);split)))
 ·have e:(true&&eD x&&Au x m&&(!decide (x.fOp=19)||inB x.fN 0 1))=Au x m:=by
   rw[bE] at c2
   rw[c2.1,c2.2];simp
  rw[e]
  have h0:=fun (j k:Nat) (h:Heap) (hk:h (0,k)=some (.s 1 [[DI m]])) (hj:h (0,j)=some (.s 1 (aG (aZ x++a8 x)))) (h1:cB 1 h=h) (h2:cB 2 h=h) (h3:cB 3 h=h)=>sE jB (fun r=> !inB r 0 (m-1)) h 1 h1 h2 (aZ x++a8 x) (by simp;omega) k j (by omega) hj (fun r _=>H8 r m hm k h 3 (by omega) hk h3)
  rw[zKv,←Au] at h0
  simp only[aG,List.map_append] at h0
  have h1:=h0 2432 32 (upd (upd (upd (upd (upd (upd emp (0,32) (some (.s 1 [[DI m]]))) (0,2336) (some (.s 1 (aG (aZ x))))) (0,2400) (some (.s 1 (aG (a8 x))))) (0,2336) none) (0,2400) none) (0,2432) (some (.s 1 (aG (aZ x)++aG (a8 x))))) (by simp[upd]) (by simp[upd]) (by simp only[Sl,lK]) (by simp only[zjH,lK]) (by simp only[zWR,lK])
  simp only[aG] at h1
  clear h0
  (repeat'(first|simp -implicitDefEqProofs (disch:=first|assumption|omega|(simp only[aE,aM,aF,i64,sa,aD,lm,la,lc,ln];omega)) only[go_sem,simprocAttr,a0,e0,a1,a2,b1,b2,b4,b8,b16,qT x,wR x hl,hal,aG,h1]|((first|rw[aP]|rw[aH]|rw[aK]|rw[aO]|rw[aN]|rw[aJ]|rw[aI]|rw[aQ]|skip);split)))
  all_goals(clear h1;simp_all)
set_option maxRecDepth 8000
set_option maxHeartbeats 4000000
theorem Ft(t:ZC)(m:Int)(k:Nat)(h:Heap)(fr:Nat)(h1:1≤fr)(hk:h (0,k)=some (.s 1 [[DI m]]))(hh:cB fr h=h):evCW tab nU [t.x,.ptr (0,k) [] 0 0] h fr=some (B (B5 m t),h):=by
 rw[aR Gu _ _ _ rfl,vR,B5]
 (repeat'(first|simp -implicitDefEqProofs (disch:=first|assumption|omega|(simp only[aE,aM,aF,i64,sa,aD,lm,la,lc,ln];omega)) only[go_sem,simprocAttr,hk,hh]|((first|rw[aP]|rw[aH]|rw[aK]|rw[aO]|rw[aN]|rw[aJ]|rw[aI]|rw[aQ]|skip);split)))
theorem x8(v0:List ZC)(m:Int)(hl:v0.length≤1048576):call tab lF [.d (.r (v0.map ZC.r)),I m]=some (I (kV v0 m)):=by
 rw[aY Ms _ rfl,Bg,kV]
 have h0:=wI nU (B5 m) (upd emp (0,0) (some (.s 1 [[DI m]]))) 1 (by simp only[Sl,lK]) v0 (by omega) 0 (by omega) (fun t _=>Ft t m 0 _ 2 (by omega) (by simp[upd]) (by simp only[zjH,lK]))
 (repeat'(first|simp -implicitDefEqProofs (disch:=first|assumption|omega|(simp only[aE,aM,aF,i64,sa,aD,lm,la,lc,ln];omega)) only[go_sem,simprocAttr,h0]|((first|rw[aP]|rw[aH]|rw[aK]|rw[aO]|rw[aN]|rw[aJ]|rw[aI]|rw[aQ]|skip);split)))
theorem Rw(op:Int):call tab Gh [I op]=some (B (decide (op=12)||decide (op=9)||decide (op=28))):=by
 rw[aY U9 _ rfl,Hn]
 (repeat'(first|simp -implicitDefEqProofs (disch:=first|assumption|omega|(simp only[aE,aM,aF,i64,sa,aD,lm,la,lc,ln];omega)) only[go_sem,simprocAttr]|((first|rw[aP]|rw[aH]|rw[aK]|rw[aO]|rw[aN]|rw[aJ]|rw[aI]|rw[aQ]|skip);split)))
theorem y7(u:ZD)(hs:u.sm)(hr:i64 (u.fRegs-1))(hr2:u.fCode.length≤1048576):∀(Bl:List ZC) (j:Int),u.fCode.drop j.toNat=Bl→0≤j →
  loopW tab [1,26,27,28] mH {env:=upd (upd (upd (upd emp 28 (some (I j))) 27 (some (I (u.fCode.length:Int)))) 26 (some (.d (.r (u.fCode.map ZC.r))))) 1 (some (vpU u)),heap:=emp,fr:=0,next:=0}=if lD u j Bl=true then some (.ext 0,{env:=upd emp 1 (some (vpU u)),heap:=emp,fr:=0,next:=0}) else some (.ret,{env:=upd emp 2 (some (B false)),heap:=emp,fr:=0,next:=0})
 |[],j,hd,hj=>by
  unfold loopW
  conv=>lhs;arg 1;unfold mH
  have h1:=cY hd hj
  (repeat'(first|simp -implicitDefEqProofs (disch:=first|assumption|omega|(simp only[aE,aM,aF,i64,sa,aD,lm,la,lc,ln];omega)) only[go_sem,simprocAttr,lD]|((first|rw[aP]|rw[aH]|rw[aK]|rw[aO]|rw[aN]|rw[aJ]|rw[aI]|rw[aQ]|skip);split)))
 |t::Bl,j,hd,hj=>by
  unfold loopW
  conv=>lhs;arg 1;unfold mH
  have h1:=cA hd hj
  have h5:=h1.2.1
  have h2:=gC ZC.r h1.1
  simp only[ZC.r] at h2
  have hsx:=(hs.2.2 t h1.2.2.2.1).2
  have ih:=y7 u hs hr hr2 Bl (j+1) h1.2.2.1 (by omega)
  have a1:=Pe t u.fRegs hsx hr
  have a2:=x8 u.fCode t.fN hr2
  have a3:=dL t.fN 0 900
  rw[lD,Ax]
  cases c1:O8 t u.fRegs<;>rw[c1] at a1
  ·(repeat'(first|simp -implicitDefEqProofs (disch:=first|assumption|omega|(simp only[aE,aM,aF,i64,sa,aD,lm,la,lc,ln];omega)) only[go_sem,simprocAttr,h2,a1]|((first|rw[aP]|rw[aH]|rw[aK]|rw[aO]|rw[aN]|rw[aJ]|rw[aI]|rw[aQ]|skip);split)))
  ·cases c2:inB t.fN 0 900<;>rw[c2] at a3
   ·(repeat'(first|simp -implicitDefEqProofs (disch:=first|assumption|omega|(simp only[aE,aM,aF,i64,sa,aD,lm,la,lc,ln];omega)) only[go_sem,simprocAttr,h2,a1,a2,a3,ih]|((first|rw[aP]|rw[aH]|rw[aK]|rw[aO]|rw[aN]|rw[aJ]|rw[aI]|rw[aQ]|skip);split)))
    all_goals(clear ih;simp_all)
    all_goals omega
   ·(repeat'(first|simp -implicitDefEqProofs (disch:=first|assumption|omega|(simp only[aE,aM,aF,i64,sa,aD,lm,la,lc,ln];omega)) only[go_sem,simprocAttr,h2,a1,a2,a3,ih]|((first|rw[aP]|rw[aH]|rw[aK]|rw[aO]|rw[aN]|rw[aJ]|rw[aI]|rw[aQ]|skip);split)))
    all_goals(clear ih;simp_all)
    all_goals omega
theorem nP(u:ZD)(hs:u.sm):call tab m7 [u.x]=some (B (s8 u)):=by
 rw[aY Ph _ rfl,Cg,s8]
 have b1:=dL u.fRegs 0 250
 have b3:=dL u.fParams 0 (if 4<u.fRegs then 4 else u.fRegs)
 have b5:(if u.fRegs<4 then u.fRegs else 4)=(if 4<u.fRegs then(4:Int) else u.fRegs):=by split<;>split<;>omega
 have b4:=dL u.fCode.length 1 900
 have hl:=hs.2.1
 cases c1:inB u.fRegs 0 250<;>rw[c1] at b1
 ·(repeat'(first|simp -implicitDefEqProofs (disch:=first|assumption|omega|(simp only[aE,aM,aF,i64,sa,aD,lm,la,lc,ln];omega)) only[go_sem,simprocAttr,b1]|((first|rw[aP]|rw[aH]|rw[aK]|rw[aO]|rw[aN]|rw[aJ]|rw[aI]|rw[aQ]|skip);split)))
 cases c2:inB u.fParams 0 (if 4<u.fRegs then 4 else u.fRegs)<;>rw[c2] at b3
 ·generalize (if 4<u.fRegs then(4:Int) else u.fRegs)=mn at *
  (repeat'(first|simp -implicitDefEqProofs (disch:=first|assumption|omega|(simp only[aE,aM,aF,i64,sa,aD,lm,la,lc,ln];omega)) only[go_sem,simprocAttr,b1,b5,b3]|((first|rw[aP]|rw[aH]|rw[aK]|rw[aO]|rw[aN]|rw[aJ]|rw[aI]|rw[aQ]|skip);split)))
 cases c3:inB u.fCode.length 1 900<;>rw[c3] at b4
 ·generalize (if 4<u.fRegs then(4:Int) else u.fRegs)=mn at *
  (repeat'(first|simp -implicitDefEqProofs (disch:=first|assumption|omega|(simp only[aE,aM,aF,i64,sa,aD,lm,la,lc,ln];omega)) only[go_sem,simprocAttr,b1,b5,b3,b4]|((first|rw[aP]|rw[aH]|rw[aK]|rw[aO]|rw[aN]|rw[aJ]|rw[aI]|rw[aQ]|skip);split)))
 have g1:0≤u.fRegs∧u.fRegs≤250:=by simpa[inB] using c1
 have g3:1≤(u.fCode.length:Int)∧(u.fCode.length:Int)≤900:=by simpa[inB] using c3
 have h0:=y7 u hs ⟨by omega,by omega⟩ hl u.fCode 0 rfl (by omega)
 obtain⟨t,ht,ht2,_⟩:=Va (l:=u.fCode) (by omega)
 have ht3:=Rw t.fOp
 simp only[ZC.r] at ht2
 simp only[zj2,ht]
 generalize (if 4<u.fRegs then(4:Int) else u.fRegs)=mn at *
 cases c4:lD u 0 u.fCode<;>simp only[c4,Bool.false_eq_true,if_true,if_false] at h0
 ·(repeat'(first|simp -implicitDefEqProofs (disch:=first|assumption|omega|(simp only[aE,aM,aF,i64,sa,aD,lm,la,lc,ln];omega)) only[go_sem,simprocAttr,b1,b5,b3,b4,h0]|((first|rw[aP]|rw[aH]|rw[aK]|rw[aO]|rw[aN]|rw[aJ]|rw[aI]|rw[aQ]|skip);split)))
 ·(repeat'(first|simp -implicitDefEqProofs (disch:=first|assumption|omega|(simp only[aE,aM,aF,i64,sa,aD,lm,la,lc,ln];omega)) only[go_sem,simprocAttr,b1,b5,b3,b4,h0,ht2,ht3]|((first|rw[aP]|rw[aH]|rw[aK]|rw[aO]|rw[aN]|rw[aJ]|rw[aI]|rw[aQ]|skip);split)))
end Go.Ev.G
