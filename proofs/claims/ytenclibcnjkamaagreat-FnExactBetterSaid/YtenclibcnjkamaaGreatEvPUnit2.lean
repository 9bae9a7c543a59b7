import Derived.Test.YtenclibcnjkamaaGreatEvQUnit
import Derived.Test.YtenclibcnjkamaaGreatEvPMach
set_option linter.all false
namespace Go.Ev.G
set_option maxRecDepth 8000
set_option maxHeartbeats 4000000
def zW5:List Int:=[0,9,3,7,7,7,7,7,8,8,10,49,2,2,48,3,6,3,2,45,3,6,39,1,17,2,6,6,2]
def Cd(op:Int):Int:=if 1≤op∧op≤28 then(zW5[op.toNat]?).getD 0 else 0
theorem Ng{op:Int}(h:1≤op)(h2:op≤28):op=1∨op=2∨op=3∨op=4∨op=5∨op=6∨op=7∨op=8∨op=9∨op=10∨op=11∨op=12∨op=13∨op=14∨op=15∨op=16∨op=17∨op=18∨op=19∨op=20∨op=21∨op=22∨op=23∨op=24∨op=25∨op=26∨op=27∨op=28:=by omega
theorem cA(op:Int):call tab kU [I op]=some (I (Cd op)):=by
 rw[aQ M8 _ rfl,A4]
 have h3:=cW op 1 28
 by_cases h:1≤op∧op≤28
 ·obtain⟨h1,h2⟩:=h
  have h4:inB op 1 28=true:=by simp[inB,h1,h2]
  rw[h4] at h3
  rw[Cd,if_pos ⟨h1,h2⟩]
  rcases Ng h1 h2 with rfl|rfl|rfl|rfl|rfl|rfl|rfl|rfl|rfl|rfl|rfl|rfl|rfl|rfl|rfl|rfl|rfl|rfl|rfl|rfl|rfl|rfl|rfl|rfl|rfl|rfl|rfl|rfl<;>simp -implicitDefEqProofs (disch:=first|assumption|omega|(simp only[aE,aF,aD,i64,sa,aB,lm,la,lc,ln];omega)) only[go_sem,simprocAttr,h3,zW5]
 ·have h4:inB op 1 28=false:=by simp only[inB,←Bool.decide_and];exact decide_eq_false h
  rw[h4] at h3
  rw[Cd,if_neg h]
  simp -implicitDefEqProofs (disch:=first|assumption|omega|(simp only[aE,aF,aD,i64,sa,aB,lm,la,lc,ln];omega)) only[go_sem,simprocAttr,h3]
def hb(x:ZA)(m:Int):Bool:=zVO (Cd x.fOp) m
theorem xY(x:ZA)(m:Int):decide (bits .and .i64 (Cd x.fOp) m=0)= !hb x m:=by simp[hb,zVO]
def aY(x:ZA):List Int:=(if hb x 1=true then [x.fD] else [])++(if x.fOp=19 then [x.fB] else [])
theorem u6(x:ZA):call tab kQ [x.x]=some (.d (.s 1 (aP (aY x)))):=by
 rw[aQ Fm _ rfl,zE,aY]
 have e:=xY x 1
 (repeat'(first|simp -implicitDefEqProofs (disch:=first|assumption|omega|(simp only[aE,aF,aD,i64,sa,aB,lm,la,lc,ln];omega)) only[go_sem,simprocAttr,cA,e,mc,mn]|((first|rw[aO]|rw[aH]|rw[aI]|rw[aM]|rw[aN]|rw[aJ]|rw[aG]|rw[aL]|skip);split)))
def Cz(args:List Int)(i:Nat):Bool:=decide (i % 3=1)||(decide (i % 3=2)&&decide (args[i-2]? = some 2))
def iG(x:ZA):Nat→List Int→List Int
 |_,[]=>[]
 |q,y::ys=>(if (!decide (x.fOp=19)||Cz x.fArgs q)=true then [y] else [])++iG x (q+1) ys
theorem vO(x:ZA)(hl:x.fArgs.length≤1048576)(h32:hb x 32=true):∀(Bl:List Int) (j:Nat) (A:List Int),x.fArgs.drop j=Bl→A.length≤j+2 →
  loopW tab [1,3,4,5] gS {env:=upd (upd (upd (upd emp 5 (some (I (j:Int)))) 4 (some (I (Cd x.fOp)))) 3 (some (.ref (0,0) []))) 1 (some (.vp [I x.fOp,I x.fD,I x.fA,I x.fB,I x.fN,Str x.fS,.d (.r (aP x.fArgs))])),heap:=upd emp (0,0) (some (.s 1 (aP A))),fr:=0,next:=1}=some (.ext 0,{env:=upd emp 3 (some (.ref (0,0) [])),heap:=upd emp (0,0) (some (.s 1 (aP (A++iG x j Bl)))),fr:=0,next:=1})
 |[],j,A,hd,hA=>by
  have hd2:x.fArgs.drop ((j:Int)).toNat=[]:=by simpa using hd
  have hj:(0:Int)≤j:=by omega
  unfold loopW
  conv=>lhs;arg 1;unfold gS
  have h1:=dR hd2 hj
  (repeat'(first|simp -implicitDefEqProofs (disch:=first|assumption|omega|(simp only[aE,aF,aD,i64,sa,aB,lm,la,lc,ln];omega)) only[go_sem,simprocAttr,iG,zqe]|((first|rw[aO]|rw[aH]|rw[aI]|rw[aM]|rw[aN]|rw[aJ]|rw[aG]|rw[aL]|skip);split)))
 |y::Bl,j,A,hd,hA=>by
  have hd2:x.fArgs.drop ((j:Int)).toNat=y::Bl:=by simpa using hd
  have hj:(0:Int)≤j:=by omega
  unfold loopW
  conv=>lhs;arg 1;unfold gS
  have h1:=cE hd2 hj
  have h5:=h1.2.1
  have h2:=j4 (fun n=>[DI n]) h1.1
  simp only[Int.toNat_natCast] at h2
  have h3:x.fArgs.drop (j+1)=Bl:=by have:=h1.2.2.1;rwa [show((j:Int)+1).toNat=j+1 by omega] at this
  have e:=xY x 32
  have m1:((j:Int)).tmod 3=((j % 3:Nat):Int):=by have:=z6 (n:=(j:Int)) (by omega) 3;simpa using this
  have ih1:=vO x hl h32 Bl (j+1) (A++[y]) h3 (by simp;omega)
  have ih2:=vO x hl h32 Bl (j+1) A h3 (by omega)
  rw[show((j+1:Nat):Int)=(j:Int)+1 by omega] at ih1 ih2
  rw[iG,←List.append_assoc]
  simp only[List.map_append,mc,mn] at ih1 ih2 ⊢
  by_cases c0:x.fOp=19
  ·have k0:decide (x.fOp=19)=true:=decide_eq_true c0
   simp only[k0,Bool.not_true,Bool.false_or,Cz]
   rcases (by omega:j % 3=0∨j % 3=1∨j % 3=2) with c1|c1|c1
   ·simp only[c1] at m1 ⊢
    (repeat'(first|simp -implicitDefEqProofs (disch:=first|assumption|omega|(simp only[aE,aF,aD,i64,sa,aB,lm,la,lc,ln];omega)) only[go_sem,simprocAttr,h2,e,h32,m1,ih2]|((first|rw[aO]|rw[aH]|rw[aI]|rw[aM]|rw[aN]|rw[aJ]|rw[aG]|rw[aL]|skip);split)))
   ·simp only[c1] at m1 ⊢
    (repeat'(first|simp -implicitDefEqProofs (disch:=first|assumption|omega|(simp only[aE,aF,aD,i64,sa,aB,lm,la,lc,ln];omega)) only[go_sem,simprocAttr,h2,e,h32,m1,ih1]|((first|rw[aO]|rw[aH]|rw[aI]|rw[aM]|rw[aN]|rw[aJ]|rw[aG]|rw[aL]|skip);split)))
   ·simp only[c1] at m1 ⊢
    have hj2:j-2<x.fArgs.length:=by omega
    obtain⟨v,hv,hv2⟩:=zKJ x.fArgs (j:=(j:Int)-2) (by omega) (by omega)
    rw[show((j:Int)-2).toNat=j-2 by omega] at hv2
    by_cases c2:v=2
    ·subst c2
     simp only[hv2]
     (repeat'(first|simp -implicitDefEqProofs (disch:=first|assumption|omega|(simp only[aE,aF,aD,i64,sa,aB,lm,la,lc,ln];omega)) only[go_sem,simprocAttr,h2,e,h32,m1,hv,ih1]|((first|rw[aO]|rw[aH]|rw[aI]|rw[aM]|rw[aN]|rw[aJ]|rw[aG]|rw[aL]|skip);split)))
    ·have:¬(some v=some (2:Int)):=by simpa using c2
     simp only[hv2,this]
     (repeat'(first|simp -implicitDefEqProofs (disch:=first|assumption|omega|(simp only[aE,aF,aD,i64,sa,aB,lm,la,lc,ln];omega)) only[go_sem,simprocAttr,h2,e,h32,m1,hv,c2,ih2]|((first|rw[aO]|rw[aH]|rw[aI]|rw[aM]|rw[aN]|rw[aJ]|rw[aG]|rw[aL]|skip);split)))
  ·have k0:decide (x.fOp=19)=false:=decide_eq_false c0
   simp only[k0,Bool.not_false,Bool.true_or,if_true]
   (repeat'(first|simp -implicitDefEqProofs (disch:=first|assumption|omega|(simp only[aE,aF,aD,i64,sa,aB,lm,la,lc,ln];omega)) only[go_sem,simprocAttr,h2,e,h32,ih1]|((first|rw[aO]|rw[aH]|rw[aI]|rw[aM]|rw[aN]|rw[aJ]|rw[aG]|rw[aL]|skip);split)))
def dB(x:ZA):List Int:=(if hb x 2=true then [x.fA] else [])++((if (hb x 4&& !decide (x.fOp=19))=true then [x.fB] else [])++(if hb x 32=true then iG x 0 x.fArgs else []))
theorem Mq(x:ZA)(hl:x.fArgs.length≤1048576)(h32:¬hb x 32=true)(w:List (List D)) :
  loopW tab [1,3,4,5] gS {env:=upd (upd (upd (upd emp 5 (some (I 0))) 4 (some (I (Cd x.fOp)))) 3 (some (.ref (0,0) []))) 1 (some (.vp [I x.fOp,I x.fD,I x.fA,I x.fB,I x.fN,Str x.fS,.d (.r (aP x.fArgs))])),heap:=upd emp (0,0) (some (.s 1 w)),fr:=0,next:=1}=some (.ext 0,{env:=upd emp 3 (some (.ref (0,0) [])),heap:=upd emp (0,0) (some (.s 1 w)),fr:=0,next:=1}):=by
 unfold loopW
 conv=>lhs;arg 1;unfold gS
 have e:=xY x 32
 (repeat'(first|simp -implicitDefEqProofs (disch:=first|assumption|omega|(simp only[aE,aF,aD,i64,sa,aB,lm,la,lc,ln];omega)) only[go_sem,simprocAttr,e]|((first|rw[aO]|rw[aH]|rw[aI]|rw[aM]|rw[aN]|rw[aJ]|rw[aG]|rw[aL]|skip);split)))
theorem Dm(x:ZA)(hl:x.fArgs.length≤1048576):call tab Aa [x.x]=some (.d (.s 1 (aP (dB x)))):=by
 rw[aQ Ta _ rfl,Fu,dB]
 have e2:=xY x 2
 have e4:=xY x 4
 have e32:=xY x 32
 by_cases c:hb x 32=true
 ·have ih:=fun A hA=>vO x hl c x.fArgs 0 A rfl hA
  simp only[Int.cast_ofNat_Int,aP,List.map_append] at ih
  have i0:=ih [] (by simp)
  have i1:=fun a=>ih [a] (by simp)
  have i2:=fun a b=>ih [a,b] (by simp)
  simp only[mc,mn,zqf,List.cons_append] at i0 i1 i2
  simp only[c,if_true]
  cases c2:hb x 2<;>cases c4:hb x 4<;>simp only[c2,c4,bfa,bta,Bool.false_eq_true,if_true,if_false] at e2 e4 ⊢
  ·(repeat'(first|simp -implicitDefEqProofs (disch:=first|assumption|omega|(simp only[aE,aF,aD,i64,sa,aB,lm,la,lc,ln];omega)) only[go_sem,simprocAttr,cA,e2,e4,c,i0,mc,mn,aP]|((first|rw[aO]|rw[aH]|rw[aI]|rw[aM]|rw[aN]|rw[aJ]|rw[aG]|rw[aL]|skip);split)))
  ·by_cases c5:x.fOp=19
   ·(repeat'(first|simp -implicitDefEqProofs (disch:=first|assumption|omega|(simp only[aE,aF,aD,i64,sa,aB,lm,la,lc,ln];omega)) only[go_sem,simprocAttr,cA,e2,e4,c,i0,mc,mn,aP]|((first|rw[aO]|rw[aH]|rw[aI]|rw[aM]|rw[aN]|rw[aJ]|rw[aG]|rw[aL]|skip);split)))
   ·(repeat'(first|simp -implicitDefEqProofs (disch:=first|assumption|omega|(simp only[aE,aF,aD,i64,sa,aB,lm,la,lc,ln];omega)) only[go_sem,simprocAttr,cA,e2,e4,c,i1,mc,mn,aP]|((first|rw[aO]|rw[aH]|rw[aI]|rw[aM]|rw[aN]|rw[aJ]|rw[aG]|rw[aL]|skip);split)))
  ·(repeat'(first|simp -implicitDefEqProofs (disch:=first|assumption|omega|(simp only[aE,aF,aD,i64,sa,aB,lm,la,lc,ln];omega)) only[go_sem,simprocAttr,cA,e2,e4,c,i1,mc,mn,aP]|((first|rw[aO]|rw[aH]|rw[aI]|rw[aM]|rw[aN]|rw[aJ]|rw[aG]|rw[aL]|skip);split)))
  ·by_cases c5:x.fOp=19
   ·(repeat'(first|simp -implicitDefEqProofs (disch:=first|assumption|omega|(simp only[aE,aF,aD,i64,sa,aB,lm,la,lc,ln];omega)) only[go_sem,simprocAttr,cA,e2,e4,c,i1,mc,mn,aP]|((first|rw[aO]|rw[aH]|rw[aI]|rw[aM]|rw[aN]|rw[aJ]|rw[aG]|rw[aL]|skip);split)))
   ·(repeat'(first|simp -implicitDefEqProofs (disch:=first|assumption|omega|(simp only[aE,aF,aD,i64,sa,aB,lm,la,lc,ln];omega)) only[go_sem,simprocAttr,cA,e2,e4,c,i2,mc,mn,aP]|((first|rw[aO]|rw[aH]|rw[aI]|rw[aM]|rw[aN]|rw[aJ]|rw[aG]|rw[aL]|skip);split)))
 ·have i0:=Mq x hl c
  simp only[c,Bool.false_eq_true,if_false,zqe]
  cases c2:hb x 2<;>cases c4:hb x 4<;>simp only[c2,c4,bfa,bta,Bool.false_eq_true,if_true,if_false] at e2 e4 ⊢ <;> (repeat'(first|simp -implicitDefEqProofs (disch:=first|assumption|omega|(simp only[aE,aF,aD,i64,sa,aB,lm,la,lc,ln];omega)) only[go_sem,simprocAttr,cA,e2,e4,i0,mc,mn,aP]|((first|rw[aO]|rw[aH]|rw[aI]|rw[aM]|rw[aN]|rw[aJ]|rw[aG]|rw[aL]|skip);split)))
def yY(x:ZA)(m:Int):Bool:=(aY x++dB x).all fun r=>inB r 0 (m-1)
theorem wG(m:Int)(hm:i64 (m-1))(v5:List Int)(hl:v5.length≤2097152):∀(Bl:List Int) (j:Int),v5.drop j.toNat=Bl→0≤j →
  loopW tab [1,5,6] i7 {env:=upd (upd (upd emp 6 (some (I j))) 5 (some (.ref (0,0) []))) 1 (some (I m)),heap:=upd emp (0,0) (some (.s 1 (aP v5))),fr:=0,next:=1}=if (Bl.all fun r=>inB r 0 (m-1))=true then some (.ext 0,{env:=emp,heap:=emp,fr:=0,next:=0}) else some (.ret,{env:=upd emp 4 (some (B false)),heap:=emp,fr:=0,next:=0})
 |[],j,hd,hj=>by
  unfold loopW
  conv=>lhs;arg 1;unfold i7
  have h1:=dR hd hj
  (repeat'(first|simp -implicitDefEqProofs (disch:=first|assumption|omega|(simp only[aE,aF,aD,i64,sa,aB,lm,la,lc,ln];omega)) only[go_sem,simprocAttr]|((first|rw[aO]|rw[aH]|rw[aI]|rw[aM]|rw[aN]|rw[aJ]|rw[aG]|rw[aL]|skip);split)))
 |y::Bl,j,hd,hj=>by
  unfold loopW
  conv=>lhs;arg 1;unfold i7
  have h1:=cE hd hj
  have h5:=h1.2.1
  have h2:=j4 (fun n=>[DI n]) h1.1
  have ih:=wG m hm v5 hl Bl (j+1) h1.2.2.1 (by omega)
  have hi:=cW y 0 (m-1)
  rw[List.all_cons]
  cases c:inB y 0 (m-1)<;>rw[c] at hi<;>(repeat'(first|simp -implicitDefEqProofs (disch:=first|assumption|omega|(simp only[aE,aF,aD,i64,sa,aB,lm,la,lc,ln];omega)) only[go_sem,simprocAttr,h2,hi,ih]|((first|rw[aO]|rw[aH]|rw[aI]|rw[aM]|rw[aN]|rw[aJ]|rw[aG]|rw[aL]|skip);split)))
theorem sT(x:ZA):(aY x).length≤2:=by
 unfold aY
 split<;>split<;>simp
theorem No(x:ZA):∀(q:Nat) (l:List Int),(iG x q l).length≤l.length
 |_,[]=>by simp[iG]
 |q,y::ys=>by
  have:=No x (q+1) ys
  rw[iG]
  split<;>simp<;>omega
theorem s7(x:ZA):(dB x).length≤x.fArgs.length+2:=by
 unfold dB
 have:=No x 0 x.fArgs
 split<;>split<;>split<;>simp<;>omega
theorem P0(l:List Int):((l.map fun n=>[DI n]).all fun el=>el.length==1)=true:=by simp
theorem Ge(x:ZA)(m:Int)(hl:x.fArgs.length≤1048576)(hm:i64 (m-1)):call tab uJ [x.x,I m]=some (B (yY x m)):=by
 rw[aQ H1 _ rfl,w6,yY]
 have h1:=sT x
 have h2:=s7 x
 have h0:=wG m hm (aY x++dB x) (by simp;omega) (aY x++dB x) 0 rfl (by omega)
 simp only[aP,List.map_append] at h0
 cases c:(aY x++dB x).all fun r=>inB r 0 (m-1)<;>simp only[c,Bool.false_eq_true,if_true,if_false] at h0<;>(repeat'(first|simp -implicitDefEqProofs (disch:=first|assumption|omega|(simp only[aE,aF,aD,i64,sa,aB,lm,la,lc,ln];omega)) only[go_sem,simprocAttr,u6 x,Dm x hl,h0,aP,P0]|((first|rw[aO]|rw[aH]|rw[aI]|rw[aM]|rw[aN]|rw[aJ]|rw[aG]|rw[aL]|skip);split)))
def B0:List Int→Bool
 |[]=>true
 |[a]=>inB a 1 2
 |[a,_]=>inB a 1 2
 |a::_::d::r=>inB a 1 2&& !(decide (a=1)&& !decide (d=0))&&B0 r
theorem wI(x:ZA)(hl:x.fArgs.length≤1048576):∀(k:Nat) (Bl:List Int) (j:Int),Bl.length≤k→x.fArgs.drop j.toNat=Bl→0≤j→j≤1048580 →
  loopW tab [1,3,4] jG {env:=upd (upd (upd emp 4 (some (I j))) 3 (some (I (x.fArgs.length:Int)))) 1 (some (.vp [I x.fOp,I x.fD,I x.fA,I x.fB,I x.fN,Str x.fS,.d (.r (aP x.fArgs))])),heap:=emp,fr:=0,next:=0}=if B0 Bl=true then some (.ext 1,{env:=upd emp 3 (some (I (x.fArgs.length:Int))),heap:=emp,fr:=0,next:=0}) else some (.ret,{env:=upd emp 2 (some (B false)),heap:=emp,fr:=0,next:=0})
 |_,[],j,hk,hd,hj,hj2=>by
  unfold loopW
  conv=>lhs;arg 1;unfold jG
  have h1:=dR hd hj
  (repeat'(first|simp -implicitDefEqProofs (disch:=first|assumption|omega|(simp only[aE,aF,aD,i64,sa,aB,lm,la,lc,ln];omega)) only[go_sem,simprocAttr,B0]|((first|rw[aO]|rw[aH]|rw[aI]|rw[aM]|rw[aN]|rw[aJ]|rw[aG]|rw[aL]|skip);split)))
 |0,_::_,j,hk,hd,hj,hj2=>by simp at hk
 |k+1,a::Bl,j,hk,hd,hj,hj2=>by
  unfold loopW
  conv=>lhs;arg 1;unfold jG
  have h1:=cE hd hj
  have h5:=h1.2.1
  have h2:=j4 (fun n=>[DI n]) h1.1
  have hi:=cW a 1 2
  have hlen:=h1.2.2.2.2
  have hd3:x.fArgs.drop (j+3).toNat=Bl.drop 2:=by
   have:=congrArg (List.drop 2) h1.2.2.1
   rw[List.drop_drop] at this
   rw[←this]
   congr 1;omega
  have ih:=wI x hl k (Bl.drop 2) (j+3) (by simp only[lc] at hk;simp;omega) hd3 (by omega) (by omega)
  cases c:inB a 1 2<;>rw[c] at hi
  ·have e:B0 (a::Bl)=false:=by
    cases Bl with
    |nil=>simp[B0,c]
    |cons b Bl=>cases Bl<;>simp[B0,c]
   rw[e]
   (repeat'(first|simp -implicitDefEqProofs (disch:=first|assumption|omega|(simp only[aE,aF,aD,i64,sa,aB,lm,la,lc,ln];omega)) only[go_sem,simprocAttr,h2,hi]|((first|rw[aO]|rw[aH]|rw[aI]|rw[aM]|rw[aN]|rw[aJ]|rw[aG]|rw[aL]|skip);split)))
  ·match Bl,h1,hlen,hd3,ih with
   |[],h1,hlen,hd3,ih =>
    simp only[ln] at hlen
    simp only[List.drop_nil,B0,if_true] at ih
    simp only[B0,c,if_true]
    (repeat'(first|simp -implicitDefEqProofs (disch:=first|assumption|omega|(simp only[aE,aF,aD,i64,sa,aB,lm,la,lc,ln];omega)) only[go_sem,simprocAttr,h2,hi,ih]|((first|rw[aO]|rw[aH]|rw[aI]|rw[aM]|rw[aN]|rw[aJ]|rw[aG]|rw[aL]|skip);split)))
   |[b],h1,hlen,hd3,ih =>
    simp only[lc,ln] at hlen
    simp only[List.drop_succ_cons,List.drop_nil,B0,if_true] at ih
    simp only[B0,c,if_true]
    (repeat'(first|simp -implicitDefEqProofs (disch:=first|assumption|omega|(simp only[aE,aF,aD,i64,sa,aB,lm,la,lc,ln];omega)) only[go_sem,simprocAttr,h2,hi,ih]|((first|rw[aO]|rw[aH]|rw[aI]|rw[aM]|rw[aN]|rw[aJ]|rw[aG]|rw[aL]|skip);split)))
   |b::d::Bl,h1,hlen,hd3,ih =>
    simp only[lc] at hlen
    simp only[List.drop_succ_cons,List.drop_zero] at ih
    simp only[B0,c,bta]
    obtain⟨v,hv,hv2⟩:=zKJ x.fArgs (j:=j+2) (by omega) (by omega)
    have hvd:v=d:=by
     have h3:=congrArg (fun l=>l[1]?) h1.2.2.1
     simp only[List.getElem?_drop,List.getElem?_cons_succ,List.getElem?_cons_zero] at h3
     rw[show(j+1).toNat+1=(j+2).toNat by omega,hv2] at h3
     simpa using h3
    subst hvd
    (repeat'(first|simp -implicitDefEqProofs (disch:=first|assumption|omega|(simp only[aE,aF,aD,i64,sa,aB,lm,la,lc,ln];omega)) only[go_sem,simprocAttr,h2,hi,hv,ih]|((first|rw[aO]|rw[aH]|rw[aI]|rw[aM]|rw[aN]|rw[aJ]|rw[aG]|rw[aL]|skip);split)))
def qY(x:ZA):Bool:=if x.fOp=19 then B0 x.fArgs&&(decide ((x.fArgs.length:Int)=3)||decide ((x.fArgs.length:Int)=6)||decide ((x.fArgs.length:Int)=9)) else if x.fOp=22 then decide ((x.fArgs.length:Int)=1) else if x.fOp=11∨x.fOp=14 then decide ((x.fArgs.length:Int)≤4) else decide ((x.fArgs.length:Int)=0)
theorem G7(x:ZA)(hl:x.fArgs.length≤1048576):call tab u4 [x.x]=some (B (qY x)):=by
 rw[aQ Ky _ rfl,yJ,qY]
 have h0:=wI x hl x.fArgs.length x.fArgs 0 (Nat.le_refl _) rfl (by omega) (by omega)
 (repeat'(first|simp -implicitDefEqProofs (disch:=first|assumption|omega|(simp only[aE,aF,aD,i64,sa,aB,lm,la,lc,ln];omega)) only[go_sem,simprocAttr,h0]|((first|rw[aO]|rw[aH]|rw[aI]|rw[aM]|rw[aN]|rw[aJ]|rw[aG]|rw[aL]|skip);split)))
 all_goals clear h0
 all_goals simp_all
def O9(x:ZA)(m:Int):Bool:=inB x.fOp 1 28&&qY x&&yY x m&&(!decide (x.fOp=19)||inB x.fN 0 1)&&zV3 x.fN&&(hb x 1||decide (x.fD=0))&&(hb x 2||decide (x.fA=0))&&(hb x 4||decide (x.fB=0))&&(hb x 8||decide (x.fN=0))&&(hb x 16||decide (x.fS=⟨#[]⟩))
theorem Es(x:ZA)(m:Int)(hl:x.fArgs.length≤1048576)(hm:i64 (m-1)):call tab sH [x.x,I m]=some (B (O9 x m)):=by
 rw[aQ F3 _ rfl,wH,O9]
 have a0:=cA x.fOp
 have a1:=cW x.fOp 1 28
 have a2:=G7 x hl
 have a3:=Ge x m hl hm
 have a4:=cW x.fN 0 1
 have a5:=K5 x.fN
 have e1:=xY x 1
 have e2:=xY x 2
 have e4:=xY x 4
 have e8:=xY x 8
 have e16:=xY x 16
 cases c1:inB x.fOp 1 28<;>rw[c1] at a1
 ·(repeat'(first|simp -implicitDefEqProofs (disch:=first|assumption|omega|(simp only[aE,aF,aD,i64,sa,aB,lm,la,lc,ln];omega)) only[go_sem,simprocAttr,a0,a1]|((first|rw[aO]|rw[aH]|rw[aI]|rw[aM]|rw[aN]|rw[aJ]|rw[aG]|rw[aL]|skip);split)))
 cases c2:qY x<;>rw[c2] at a2
 ·(repeat'(first|simp -implicitDefEqProofs (disch:=first|assumption|omega|(simp only[aE,aF,aD,i64,sa,aB,lm,la,lc,ln];omega)) only[go_sem,simprocAttr,a0,a1,a2]|((first|rw[aO]|rw[aH]|rw[aI]|rw[aM]|rw[aN]|rw[aJ]|rw[aG]|rw[aL]|skip);split)))
 cases c3:yY x m<;>rw[c3] at a3
 ·(repeat'(first|simp -implicitDefEqProofs (disch:=first|assumption|omega|(simp only[aE,aF,aD,i64,sa,aB,lm,la,lc,ln];omega)) only[go_sem,simprocAttr,a0,a1,a2,a3]|((first|rw[aO]|rw[aH]|rw[aI]|rw[aM]|rw[aN]|rw[aJ]|rw[aG]|rw[aL]|skip);split)))
 have hn:(!decide (x.fOp=19)||inB x.fN 0 1)= !(decide (x.fOp=19)&& !inB x.fN 0 1):=by cases inB x.fN 0 1<;>simp
 rw[hn]
 by_cases c0:x.fOp=19
 ·cases c4:inB x.fN 0 1<;>rw[c4] at a4<;>have k0:decide (x.fOp=19)=true:=decide_eq_true c0
  ·simp only[k0]
   (repeat'(first|simp -implicitDefEqProofs (disch:=first|assumption|omega|(simp only[aE,aF,aD,i64,sa,aB,lm,la,lc,ln];omega)) only[go_sem,simprocAttr,a0,a1,a2,a3,a4]|((first|rw[aO]|rw[aH]|rw[aI]|rw[aM]|rw[aN]|rw[aJ]|rw[aG]|rw[aL]|skip);split)))
  ·simp only[k0]
   (repeat'(first|simp -implicitDefEqProofs (disch:=first|assumption|omega|(simp only[aE,aF,aD,i64,sa,aB,lm,la,lc,ln];omega)) only[go_sem,simprocAttr,a0,a1,a2,a3,a4,a5,e1,e2,e4,e8,e16]|((first|rw[aO]|rw[aH]|rw[aI]|rw[aM]|rw[aN]|rw[aJ]|rw[aG]|rw[aL]|skip);split)))
   all_goals simp_all
 ·have k0:decide (x.fOp=19)=false:=decide_eq_false c0
  simp only[k0]
  (repeat'(first|simp -implicitDefEqProofs (disch:=first|assumption|omega|(simp only[aE,aF,aD,i64,sa,aB,lm,la,lc,ln];omega)) only[go_sem,simprocAttr,a0,a1,a2,a3,a4,a5,e1,e2,e4,e8,e16]|((first|rw[aO]|rw[aH]|rw[aI]|rw[aM]|rw[aN]|rw[aJ]|rw[aG]|rw[aL]|skip);split)))
  all_goals simp_all
def qH(m:Int)(t:ZA):Bool:=decide (t.fOp=8)&&decide (t.fN=m)
theorem tL(v0:List ZA)(m:Int)(hl:v0.length≤1048576):∀(Bl:List ZA) (j:Int),v0.drop j.toNat=Bl→0≤j →
  loopW tab [0,1,5] iD {env:=upd (upd (upd emp 5 (some (I j))) 1 (some (I m))) 0 (some (.d (.r (v0.map ZA.r)))),heap:=emp,fr:=0,next:=0}=if aU (qH m) j Bl= -1 then some (.ext 0,{env:=emp,heap:=emp,fr:=0,next:=0}) else some (.ret,{env:=upd emp 4 (some (I (aU (qH m) j Bl))),heap:=emp,fr:=0,next:=0})
 |[],j,hd,hj=>by
  unfold loopW
  conv=>lhs;arg 1;unfold iD
  have h1:=dR hd hj
  simp only[aU,if_true]
  (repeat'(first|simp -implicitDefEqProofs (disch:=first|assumption|omega|(simp only[aE,aF,aD,i64,sa,aB,lm,la,lc,ln];omega)) only[go_sem,simprocAttr]|((first|rw[aO]|rw[aH]|rw[aI]|rw[aM]|rw[aN]|rw[aJ]|rw[aG]|rw[aL]|skip);split)))
 |t::Bl,j,hd,hj=>by
  unfold loopW
  conv=>lhs;arg 1;unfold iD
  have h1:=cE hd hj
  have h5:=h1.2.1
  have h2:=j4 ZA.r h1.1
  simp only[ZA.r] at h2
  have ih:=tL v0 m hl Bl (j+1) h1.2.2.1 (by omega)
  rw[aU]
  by_cases c1:t.fOp=8
  ·by_cases c2:t.fN=m
   ·have hp:qH m t=true:=by simp[qH,c1,c2]
    rw[if_pos hp,if_neg (by omega)]
    (repeat'(first|simp -implicitDefEqProofs (disch:=first|assumption|omega|(simp only[aE,aF,aD,i64,sa,aB,lm,la,lc,ln];omega)) only[go_sem,simprocAttr,h2]|((first|rw[aO]|rw[aH]|rw[aI]|rw[aM]|rw[aN]|rw[aJ]|rw[aG]|rw[aL]|skip);split)))
   ·have hp:¬qH m t=true:=by simp[qH,c2]
    rw[if_neg hp,←ih]
    (repeat'(first|simp -implicitDefEqProofs (disch:=first|assumption|omega|(simp only[aE,aF,aD,i64,sa,aB,lm,la,lc,ln];omega)) only[go_sem,simprocAttr,h2]|((first|rw[aO]|rw[aH]|rw[aI]|rw[aM]|rw[aN]|rw[aJ]|rw[aG]|rw[aL]|skip);split)))
  ·have hp:¬qH m t=true:=by simp[qH,c1]
   rw[if_neg hp,←ih]
   (repeat'(first|simp -implicitDefEqProofs (disch:=first|assumption|omega|(simp only[aE,aF,aD,i64,sa,aB,lm,la,lc,ln];omega)) only[go_sem,simprocAttr,h2]|((first|rw[aO]|rw[aH]|rw[aI]|rw[aM]|rw[aN]|rw[aJ]|rw[aG]|rw[aL]|skip);split)))
theorem sW(v0:List ZA)(m:Int)(hl:v0.length≤1048576):call tab gW [.d (.r (v0.map ZA.r)),I m]=some (I (aU (qH m) 0 v0)):=by
 rw[aQ Gn _ rfl,vW]
 have h0:=tL v0 m hl v0 0 rfl (by omega)
 by_cases hp:aU (qH m) 0 v0= -1
 ·rw[if_pos hp] at h0
  (repeat'(first|simp -implicitDefEqProofs (disch:=first|assumption|omega|(simp only[aE,aF,aD,i64,sa,aB,lm,la,lc,ln];omega)) only[go_sem,simprocAttr,h0,hp]|((first|rw[aO]|rw[aH]|rw[aI]|rw[aM]|rw[aN]|rw[aJ]|rw[aG]|rw[aL]|skip);split)))
 ·rw[if_neg hp] at h0
  (repeat'(first|simp -implicitDefEqProofs (disch:=first|assumption|omega|(simp only[aE,aF,aD,i64,sa,aB,lm,la,lc,ln];omega)) only[go_sem,simprocAttr,h0]|((first|rw[aO]|rw[aH]|rw[aI]|rw[aM]|rw[aN]|rw[aJ]|rw[aG]|rw[aL]|skip);split)))
set_option maxRecDepth 8000
set_option maxHeartbeats 4000000
def fE(code:List ZA)(m:Int):Int:=aU (qH m) 0 code
def yR(u:ZB)(j:Int)(t:ZA):Bool:=O9 t u.fRegs&& !((decide (t.fOp=8)&&(!decide (fE u.fCode t.fN=j) || !inB t.fN 0 900))||((decide (t.fOp=9)||decide (t.fOp=10))&&decide (fE u.fCode t.fN<0)))
def i8(u:ZB):Int→List ZA→Bool
 |_,[]=>true
 |j,t::r=>yR u j t&&i8 u (j+1) r
abbrev vpU(u:ZB):X:= .vp [Str u.fName,I u.fParams,I u.fRegs,.d (.r (u.fCode.map ZA.r))]
theorem Mx(a b:Int):call tab B1 [I a,I b]=some (I (if a<b then a else b)):=by
 rw[aQ Pu _ rfl,C7]
 (repeat'(first|simp -implicitDefEqProofs (disch:=first|assumption|omega|(simp only[aE,aF,aD,i64,sa,aB,lm,la,lc,ln];omega)) only[go_sem,simprocAttr]|((first|rw[aO]|rw[aH]|rw[aI]|rw[aM]|rw[aN]|rw[aJ]|rw[aG]|rw[aL]|skip);split)))
theorem wZ(u:ZB)(hs:u.sm)(hr:i64 (u.fRegs-1))(hr2:u.fCode.length≤1048576):∀(Bl:List ZA) (j:Int),u.fCode.drop j.toNat=Bl→0≤j →
  loopW tab [1,3,4] j9 {env:=upd (upd (upd emp 4 (some (I j))) 3 (some (I (u.fCode.length:Int)))) 1 (some (vpU u)),heap:=emp,fr:=0,next:=0}=if i8 u j Bl=true then some (.ext 0,{env:=upd (upd emp 3 (some (I (u.fCode.length:Int)))) 1 (some (vpU u)),heap:=emp,fr:=0,next:=0}) else some (.ret,{env:=upd emp 2 (some (B false)),heap:=emp,fr:=0,next:=0})
 |[],j,hd,hj=>by
  unfold loopW
  conv=>lhs;arg 1;unfold j9
  have h1:=dR hd hj
  (repeat'(first|simp -implicitDefEqProofs (disch:=first|assumption|omega|(simp only[aE,aF,aD,i64,sa,aB,lm,la,lc,ln];omega)) only[go_sem,simprocAttr,i8]|((first|rw[aO]|rw[aH]|rw[aI]|rw[aM]|rw[aN]|rw[aJ]|rw[aG]|rw[aL]|skip);split)))
 |t::Bl,j,hd,hj=>by
  unfold loopW
  conv=>lhs;arg 1;unfold j9
  have h1:=cE hd hj
  have h5:=h1.2.1
  have h2:=j4 ZA.r h1.1
  simp only[ZA.r] at h2
  have hsx:=(hs.2.2 t h1.2.2.2.1).2
  have ih:=wZ u hs hr hr2 Bl (j+1) h1.2.2.1 (by omega)
  have a1:=Es t u.fRegs hsx hr
  have a2:call tab gW [.d (.r (u.fCode.map ZA.r)),I t.fN]=some (I (fE u.fCode t.fN)):=sW u.fCode t.fN hr2
  have a3:=cW t.fN 0 900
  rw[i8,yR]
  cases c1:O9 t u.fRegs<;>rw[c1] at a1
  ·(repeat'(first|simp -implicitDefEqProofs (disch:=first|assumption|omega|(simp only[aE,aF,aD,i64,sa,aB,lm,la,lc,ln];omega)) only[go_sem,simprocAttr,h2,a1]|((first|rw[aO]|rw[aH]|rw[aI]|rw[aM]|rw[aN]|rw[aJ]|rw[aG]|rw[aL]|skip);split)))
  ·cases c2:inB t.fN 0 900<;>rw[c2] at a3
   ·(repeat'(first|simp -implicitDefEqProofs (disch:=first|assumption|omega|(simp only[aE,aF,aD,i64,sa,aB,lm,la,lc,ln];omega)) only[go_sem,simprocAttr,h2,a1,a2,a3,ih]|((first|rw[aO]|rw[aH]|rw[aI]|rw[aM]|rw[aN]|rw[aJ]|rw[aG]|rw[aL]|skip);split)))
    all_goals simp_all
   ·(repeat'(first|simp -implicitDefEqProofs (disch:=first|assumption|omega|(simp only[aE,aF,aD,i64,sa,aB,lm,la,lc,ln];omega)) only[go_sem,simprocAttr,h2,a1,a2,a3,ih]|((first|rw[aO]|rw[aH]|rw[aI]|rw[aM]|rw[aN]|rw[aJ]|rw[aG]|rw[aL]|skip);split)))
    all_goals simp_all
def zjg(l:List ZA):Bool:=match l.getLast? with
 |some t=>decide (t.fOp=12)||decide (t.fOp=9)||decide (t.fOp=28)
 |none=>false
def lG(u:ZB):Bool:=inB u.fRegs 0 250&&inB u.fParams 0 (if 4<u.fRegs then 4 else u.fRegs)&&inB u.fCode.length 1 900&&i8 u 0 u.fCode&&zjg u.fCode
theorem Vv{l:List ZA}(h:1≤l.length):∃t,l.getLast? = some t∧(l.map ZA.r)[((l.length:Int)-1).toNat]? = some t.r∧t∈l:=by
 have h1:l≠[]:=by intro e;rw[e] at h;simp at h
 refine⟨l.getLast h1,List.getLast?_eq_some_getLast h1,?_,List.getLast_mem h1⟩
 rw[List.getElem?_map,show((l.length:Int)-1).toNat=l.length-1 by omega,←List.getLast?_eq_getElem?,List.getLast?_eq_some_getLast h1]
 rfl
theorem l8(u:ZB)(hs:u.sm):call tab kZ [u.x]=some (B (lG u)):=by
 rw[aQ My _ rfl,Ay,lG]
 have b1:=cW u.fRegs 0 250
 have b2:=Mx 4 u.fRegs
 have b3:=cW u.fParams 0 (if 4<u.fRegs then 4 else u.fRegs)
 have b4:=cW u.fCode.length 1 900
 have hl:=hs.2.1
 cases c1:inB u.fRegs 0 250<;>rw[c1] at b1
 ·(repeat'(first|simp -implicitDefEqProofs (disch:=first|assumption|omega|(simp only[aE,aF,aD,i64,sa,aB,lm,la,lc,ln];omega)) only[go_sem,simprocAttr,b1]|((first|rw[aO]|rw[aH]|rw[aI]|rw[aM]|rw[aN]|rw[aJ]|rw[aG]|rw[aL]|skip);split)))
 cases c2:inB u.fParams 0 (if 4<u.fRegs then 4 else u.fRegs)<;>rw[c2] at b3
 ·generalize (if 4<u.fRegs then(4:Int) else u.fRegs)=mn at *
  (repeat'(first|simp -implicitDefEqProofs (disch:=first|assumption|omega|(simp only[aE,aF,aD,i64,sa,aB,lm,la,lc,ln];omega)) only[go_sem,simprocAttr,b1,b2,b3]|((first|rw[aO]|rw[aH]|rw[aI]|rw[aM]|rw[aN]|rw[aJ]|rw[aG]|rw[aL]|skip);split)))
 cases c3:inB u.fCode.length 1 900<;>rw[c3] at b4
 ·generalize (if 4<u.fRegs then(4:Int) else u.fRegs)=mn at *
  (repeat'(first|simp -implicitDefEqProofs (disch:=first|assumption|omega|(simp only[aE,aF,aD,i64,sa,aB,lm,la,lc,ln];omega)) only[go_sem,simprocAttr,b1,b2,b3,b4]|((first|rw[aO]|rw[aH]|rw[aI]|rw[aM]|rw[aN]|rw[aJ]|rw[aG]|rw[aL]|skip);split)))
 have g1:0≤u.fRegs∧u.fRegs≤250:=by simpa[inB] using c1
 have g3:1≤(u.fCode.length:Int)∧(u.fCode.length:Int)≤900:=by simpa[inB] using c3
 have h0:=wZ u hs ⟨by omega,by omega⟩ hl u.fCode 0 rfl (by omega)
 obtain⟨t,ht,ht2,_⟩:=Vv (l:=u.fCode) (by omega)
 simp only[ZA.r] at ht2
 simp only[zjg,ht]
 generalize (if 4<u.fRegs then(4:Int) else u.fRegs)=mn at *
 cases c4:i8 u 0 u.fCode<;>simp only[c4,Bool.false_eq_true,if_true,if_false] at h0
 ·(repeat'(first|simp -implicitDefEqProofs (disch:=first|assumption|omega|(simp only[aE,aF,aD,i64,sa,aB,lm,la,lc,ln];omega)) only[go_sem,simprocAttr,b1,b2,b3,b4,h0]|((first|rw[aO]|rw[aH]|rw[aI]|rw[aM]|rw[aN]|rw[aJ]|rw[aG]|rw[aL]|skip);split)))
 ·(repeat'(first|simp -implicitDefEqProofs (disch:=first|assumption|omega|(simp only[aE,aF,aD,i64,sa,aB,lm,la,lc,ln];omega)) only[go_sem,simprocAttr,b1,b2,b3,b4,h0,ht2]|((first|rw[aO]|rw[aH]|rw[aI]|rw[aM]|rw[aN]|rw[aJ]|rw[aG]|rw[aL]|skip);split)))
  all_goals simp_all
set_option maxRecDepth 8000
set_option maxHeartbeats 4000000
theorem tD(f:Nat)(p:ZA→Bool)(h:Heap)(fr:Nat)(hh:bA fr h=h)(xs:List ZA)(hx:xs.length≤140737488351232)(kc:Nat)(h1:1≤fr)(hf:∀x∈xs,evCW tab f [x.x,.ptr (0,kc) [] 0 0] h (fr+1)=some (B (p x),h)):∀(Bl:List ZA) (j:Int),xs.drop j.toNat=Bl→0≤j →
  loopW tab [0,1,7,8] aS {env:=upd (upd (upd (upd emp 8 (some (I j))) 7 (some (I (xs.length:Int)))) 1 (some (.clo f [.ptr (0,kc) [] 0 0]))) 0 (some (.d (.r (xs.map (ZA.r))))),heap:=h,fr:=fr,next:=0}=if aU p j Bl= -1 then some (.ext 0,{env:=emp,heap:=h,fr:=fr,next:=0}) else some (.ret,{env:=upd emp 4 (some (I (aU p j Bl))),heap:=h,fr:=fr,next:=0})
 |[],j,hd,hj=>by
  unfold loopW
  conv=>lhs;arg 1;unfold aS
  have:=dR hd hj
  simp only[aU,if_true]
  (repeat'(first|simp -implicitDefEqProofs (disch:=first|assumption|omega|(simp only[aE,aF,aD,i64,sa,aB,lm,la,lc,ln];omega)) only[go_sem,simprocAttr,hh,show ¬0=fr from by omega]|((first|rw[aO]|rw[aH]|rw[aI]|rw[aM]|rw[aN]|rw[aJ]|rw[aG]|rw[aL]|skip);split)))
 |x::Bl,j,hd,hj=>by
  unfold loopW
  conv=>lhs;arg 1;unfold aS
  have h4:=(cE hd hj).2.1
  have ih:=tD f p h fr hh xs hx kc h1 hf Bl (j+1) (cE hd hj).2.2.1 (by omega)
  have h2:=j4 (ZA.r) (cE hd hj).1
  simp only[ZA.r] at h2
  have h3:=hf x (cE hd hj).2.2.2.1
  rw[aU]
  by_cases hp:p x=true
  ·rw[if_pos hp,if_neg (by omega)]
   (repeat'(first|simp -implicitDefEqProofs (disch:=first|assumption|omega|(simp only[aE,aF,aD,i64,sa,aB,lm,la,lc,ln];omega)) only[go_sem,simprocAttr,h2,show ¬0=fr from by omega,h3,hh]|((first|rw[aO]|rw[aH]|rw[aI]|rw[aM]|rw[aN]|rw[aJ]|rw[aG]|rw[aL]|skip);split)))
  ·rw[if_neg hp,←ih]
   (repeat'(first|simp -implicitDefEqProofs (disch:=first|assumption|omega|(simp only[aE,aF,aD,i64,sa,aB,lm,la,lc,ln];omega)) only[go_sem,simprocAttr,h2,show ¬0=fr from by omega,h3,hh]|((first|rw[aO]|rw[aH]|rw[aI]|rw[aM]|rw[aN]|rw[aJ]|rw[aG]|rw[aL]|skip);split)))
theorem tH(f:Nat)(p:ZA→Bool)(h:Heap)(fr:Nat)(hh:bA fr h=h)(xs:List ZA)(hx:xs.length≤140737488351232)(kc:Nat)(h1:1≤fr)(hf:∀x∈xs,evCW tab f [x.x,.ptr (0,kc) [] 0 0] h (fr+1)=some (B (p x),h)):evCW tab aZ [.d (.r (xs.map (ZA.r))),.clo f [.ptr (0,kc) [] 0 0]] h fr=some (I (aU p 0 xs),h):=by
 rw[bW cL _ _ _ rfl,bG]
 have h0:=tD f p h fr hh xs hx kc h1 hf xs 0 rfl (by omega)
 by_cases hp:aU p 0 xs= -1
 ·rw[if_pos hp] at h0
  (repeat'(first|simp -implicitDefEqProofs (disch:=first|assumption|omega|(simp only[aE,aF,aD,i64,sa,aB,lm,la,lc,ln];omega)) only[go_sem,simprocAttr,hh,h0,hp,show ¬0=fr from by omega]|((first|rw[aO]|rw[aH]|rw[aI]|rw[aM]|rw[aN]|rw[aJ]|rw[aG]|rw[aL]|skip);split)))
 ·rw[if_neg hp] at h0
  (repeat'(first|simp -implicitDefEqProofs (disch:=first|assumption|omega|(simp only[aE,aF,aD,i64,sa,aB,lm,la,lc,ln];omega)) only[go_sem,simprocAttr,hh,h0,hp,show ¬0=fr from by omega]|((first|rw[aO]|rw[aH]|rw[aI]|rw[aM]|rw[aN]|rw[aJ]|rw[aG]|rw[aL]|skip);split)))
theorem sU(f:Nat)(p:Int→Bool)(h:Heap)(fr:Nat)(hh:bA fr h=h)(xs:List Int)(hx:xs.length≤140737488351232)(kc:Nat)(k:Nat)(h1:1≤fr)(hk:h (0,k)=some (.s 1 (xs.map (fun n=>[DI n]))))(hf:∀x∈xs,evCW tab f [I x,.ptr (0,kc) [] 0 0] h (fr+1)=some (B (p x),h)):∀(Bl:List Int) (j:Int),xs.drop j.toNat=Bl→0≤j →
  loopW tab [0,1,7,8] cN {env:=upd (upd (upd (upd emp 8 (some (I j))) 7 (some (I (xs.length:Int)))) 1 (some (.clo f [.ptr (0,kc) [] 0 0]))) 0 (some (.ref (0,k) [])),heap:=h,fr:=fr,next:=0}=if aU p j Bl= -1 then some (.ext 0,{env:=emp,heap:=h,fr:=fr,next:=0}) else some (.ret,{env:=upd emp 4 (some (I (aU p j Bl))),heap:=h,fr:=fr,next:=0})
 |[],j,hd,hj=>by
  unfold loopW
  conv=>lhs;arg 1;unfold cN
  have:=dR hd hj
  simp only[aU,if_true]
  (repeat'(first|simp -implicitDefEqProofs (disch:=first|assumption|omega|(simp only[aE,aF,aD,i64,sa,aB,lm,la,lc,ln];omega)) only[go_sem,simprocAttr,hh,show ¬0=fr from by omega]|((first|rw[aO]|rw[aH]|rw[aI]|rw[aM]|rw[aN]|rw[aJ]|rw[aG]|rw[aL]|skip);split)))
 |x::Bl,j,hd,hj=>by
  unfold loopW
  conv=>lhs;arg 1;unfold cN
  have h4:=(cE hd hj).2.1
  have ih:=sU f p h fr hh xs hx kc k h1 hk hf Bl (j+1) (cE hd hj).2.2.1 (by omega)
  have h2:=j4 (fun n=>[DI n]) (cE hd hj).1
  have h3:=hf x (cE hd hj).2.2.2.1
  rw[aU]
  by_cases hp:p x=true
  ·rw[if_pos hp,if_neg (by omega)]
   (repeat'(first|simp -implicitDefEqProofs (disch:=first|assumption|omega|(simp only[aE,aF,aD,i64,sa,aB,lm,la,lc,ln];omega)) only[go_sem,simprocAttr,h2,hk,show ¬0=fr from by omega,h3,hh]|((first|rw[aO]|rw[aH]|rw[aI]|rw[aM]|rw[aN]|rw[aJ]|rw[aG]|rw[aL]|skip);split)))
  ·rw[if_neg hp,←ih]
   (repeat'(first|simp -implicitDefEqProofs (disch:=first|assumption|omega|(simp only[aE,aF,aD,i64,sa,aB,lm,la,lc,ln];omega)) only[go_sem,simprocAttr,h2,hk,show ¬0=fr from by omega,h3,hh]|((first|rw[aO]|rw[aH]|rw[aI]|rw[aM]|rw[aN]|rw[aJ]|rw[aG]|rw[aL]|skip);split)))
theorem tJ(f:Nat)(p:Int→Bool)(h:Heap)(fr:Nat)(hh:bA fr h=h)(xs:List Int)(hx:xs.length≤140737488351232)(kc:Nat)(k:Nat)(h1:1≤fr)(hk:h (0,k)=some (.s 1 (xs.map (fun n=>[DI n]))))(hf:∀x∈xs,evCW tab f [I x,.ptr (0,kc) [] 0 0] h (fr+1)=some (B (p x),h)):evCW tab eZ [.ref (0,k) [],.clo f [.ptr (0,kc) [] 0 0]] h fr=some (I (aU p 0 xs),h):=by
 rw[bW pH _ _ _ rfl,iR]
 have h0:=sU f p h fr hh xs hx kc k h1 hk hf xs 0 rfl (by omega)
 by_cases hp:aU p 0 xs= -1
 ·rw[if_pos hp] at h0
  (repeat'(first|simp -implicitDefEqProofs (disch:=first|assumption|omega|(simp only[aE,aF,aD,i64,sa,aB,lm,la,lc,ln];omega)) only[go_sem,simprocAttr,hh,h0,hp,hk,show ¬0=fr from by omega]|((first|rw[aO]|rw[aH]|rw[aI]|rw[aM]|rw[aN]|rw[aJ]|rw[aG]|rw[aL]|skip);split)))
 ·rw[if_neg hp] at h0
  (repeat'(first|simp -implicitDefEqProofs (disch:=first|assumption|omega|(simp only[aE,aF,aD,i64,sa,aB,lm,la,lc,ln];omega)) only[go_sem,simprocAttr,hh,h0,hp,hk,show ¬0=fr from by omega]|((first|rw[aO]|rw[aH]|rw[aI]|rw[aM]|rw[aN]|rw[aJ]|rw[aG]|rw[aL]|skip);split)))
theorem qE(f:Nat)(p:Int→Bool)(h:Heap)(fr:Nat)(hh:bA fr h=h)(hh':bA (fr+1) h=h)(xs:List Int)(hx:xs.length≤140737488351232)(kc:Nat)(k:Nat)(h1:1≤fr)(hk:h (0,k)=some (.s 1 (xs.map (fun n=>[DI n]))))(hf:∀x∈xs,evCW tab f [I x,.ptr (0,kc) [] 0 0] h (fr+2)=some (B (p x),h)):evCW tab dT [.ref (0,k) [],.clo f [.ptr (0,kc) [] 0 0]] h fr=some (B (xs.any p),h):=by
 rw[bW nH _ _ _ rfl,fW]
 have h0:=tJ f p h (fr+1) hh' xs hx kc k (by omega) hk hf
 rw[qM p 0 (by omega)]
 (repeat'(first|simp -implicitDefEqProofs (disch:=first|assumption|omega|(simp only[aE,aF,aD,i64,sa,aB,lm,la,lc,ln];omega)) only[go_sem,simprocAttr,hh,h0,hk,show ¬0=fr from by omega]|((first|rw[aO]|rw[aH]|rw[aI]|rw[aM]|rw[aN]|rw[aJ]|rw[aG]|rw[aL]|skip);split)))
set_option maxRecDepth 8000
set_option maxHeartbeats 4000000
def zWR:List ByteArray:=[noS,⟨#[68,78]⟩,⟨#[68,65]⟩,⟨#[68,65,66]⟩,⟨#[68,65,66]⟩,⟨#[68,65,66]⟩,⟨#[68,65,66]⟩,⟨#[68,65,66]⟩,⟨#[78]⟩,⟨#[78]⟩,⟨#[65,78]⟩,⟨#[68,83,88]⟩,⟨#[65]⟩,⟨#[65]⟩,⟨#[83,88]⟩,⟨#[68,65]⟩,⟨#[65,66]⟩,⟨#[68,65]⟩,⟨#[65]⟩,⟨#[68,66,78,88]⟩,⟨#[68,65]⟩,⟨#[65,66]⟩,⟨#[68,65,66,88]⟩,⟨#[68]⟩,⟨#[68,83]⟩,⟨#[65]⟩,⟨#[65,66]⟩,⟨#[65,66]⟩,⟨#[65]⟩]
def mE(op:Int):ByteArray:=if 1≤op∧op≤28 then(zWR[op.toNat]?).getD noS else noS
theorem C6(op:Int):call tab zT [I op]=some (Str (mE op)):=by
 rw[aQ Ub _ rfl,Fn]
 by_cases h:1≤op∧op≤28
 ·obtain⟨h1,h2⟩:=h
  rw[mE,if_pos ⟨h1,h2⟩]
  rcases Ng h1 h2 with rfl|rfl|rfl|rfl|rfl|rfl|rfl|rfl|rfl|rfl|rfl|rfl|rfl|rfl|rfl|rfl|rfl|rfl|rfl|rfl|rfl|rfl|rfl|rfl|rfl|rfl|rfl|rfl<;>simp -implicitDefEqProofs (disch:=first|assumption|omega|(simp only[aE,aF,aD,i64,sa,aB,lm,la,lc,ln];omega)) only[go_sem,simprocAttr,zWR]
 ·rw[mE,if_neg h]
  simp -implicitDefEqProofs (disch:=first|assumption|omega|(simp only[aE,aF,aD,i64,sa,aB,lm,la,lc,ln];omega)) only[go_sem,simprocAttr]
abbrev U8(c:Int):X:= .d (.v (.int .u8 c))
theorem Bc(bs:List UInt8)(hl:bs.length≤1048576)(c:Int):∀(Bl:List UInt8) (j:Int),bs.drop j.toNat=Bl→0≤j →
  loopW tab [0,1,7,8] c7 {env:=upd (upd (upd (upd emp 8 (some (I j))) 7 (some (I (bs.length:Int)))) 1 (some (U8 c))) 0 (some (.d (.r (bs.map fun x=>[D.v (.int .u8 x.toNat)])))),heap:=emp,fr:=0,next:=0}=if aU (fun x:UInt8=>decide (c=x.toNat)) j Bl= -1 then some (.ext 0,{env:=emp,heap:=emp,fr:=0,next:=0}) else some (.ret,{env:=upd emp 4 (some (I (aU (fun x:UInt8=>decide (c=x.toNat)) j Bl))),heap:=emp,fr:=0,next:=0})
 |[],j,hd,hj=>by
  unfold loopW
  conv=>lhs;arg 1;unfold c7
  have h1:=dR hd hj
  simp only[aU,if_true]
  (repeat'(first|simp -implicitDefEqProofs (disch:=first|assumption|omega|(simp only[aE,aF,aD,i64,sa,aB,lm,la,lc,ln];omega)) only[go_sem,simprocAttr]|((first|rw[aO]|rw[aH]|rw[aI]|rw[aM]|rw[aN]|rw[aJ]|rw[aG]|rw[aL]|skip);split)))
 |x::Bl,j,hd,hj=>by
  unfold loopW
  conv=>lhs;arg 1;unfold c7
  have h1:=cE hd hj
  have h5:=h1.2.1
  have h2:=j4 (fun x:UInt8=>[D.v (.int .u8 x.toNat)]) h1.1
  have ih:=Bc bs hl c Bl (j+1) h1.2.2.1 (by omega)
  rw[aU]
  by_cases hp:c=x.toNat
  ·have k:decide (c=(x.toNat:Int))=true:=decide_eq_true hp
   simp only[k,if_true]
   rw[if_neg (by omega)]
   (repeat'(first|simp -implicitDefEqProofs (disch:=first|assumption|omega|(simp only[aE,aF,aD,i64,sa,aB,lm,la,lc,ln];omega)) only[go_sem,simprocAttr,h2]|((first|rw[aO]|rw[aH]|rw[aI]|rw[aM]|rw[aN]|rw[aJ]|rw[aG]|rw[aL]|skip);split)))
  ·have k:decide (c=(x.toNat:Int))=false:=decide_eq_false hp
   simp only[k,Bool.false_eq_true,if_false]
   rw[←ih]
   (repeat'(first|simp -implicitDefEqProofs (disch:=first|assumption|omega|(simp only[aE,aF,aD,i64,sa,aB,lm,la,lc,ln];omega)) only[go_sem,simprocAttr,h2]|((first|rw[aO]|rw[aH]|rw[aI]|rw[aM]|rw[aN]|rw[aJ]|rw[aG]|rw[aL]|skip);split)))
theorem L8(op c:Int):call tab cP [I op,U8 c]=some (B (decide (0≤aU (fun x:UInt8=>decide (c=x.toNat)) 0 (mE op).data.toList))):=by
 have hs:(mE op).size≤4:=by
  unfold mE
  split
  ·rename_i h
   rcases Ng h.1 h.2 with rfl|rfl|rfl|rfl|rfl|rfl|rfl|rfl|rfl|rfl|rfl|rfl|rfl|rfl|rfl|rfl|rfl|rfl|rfl|rfl|rfl|rfl|rfl|rfl|rfl|rfl|rfl|rfl<;>decide
  ·decide
 have hl:(mE op).data.toList.length≤4:=by rw[Array.length_toList];exact hs
 have h0:=Bc (mE op).data.toList (by omega) c (mE op).data.toList 0 rfl (by omega)
 have h1:call tab fY [.d (.r ((mE op).data.toList.map fun x=>[D.v (.int .u8 x.toNat)])),U8 c]=some (I (aU (fun x:UInt8=>decide (c=x.toNat)) 0 (mE op).data.toList)):=by
  rw[aQ r7 _ rfl,j6]
  by_cases hp:aU (fun x:UInt8=>decide (c=x.toNat)) 0 (mE op).data.toList= -1
  ·rw[if_pos hp] at h0
   (repeat'(first|simp -implicitDefEqProofs (disch:=first|assumption|omega|(simp only[aE,aF,aD,i64,sa,aB,lm,la,lc,ln];omega)) only[go_sem,simprocAttr,h0,hp]|((first|rw[aO]|rw[aH]|rw[aI]|rw[aM]|rw[aN]|rw[aJ]|rw[aG]|rw[aL]|skip);split)))
  ·rw[if_neg hp] at h0
   (repeat'(first|simp -implicitDefEqProofs (disch:=first|assumption|omega|(simp only[aE,aF,aD,i64,sa,aB,lm,la,lc,ln];omega)) only[go_sem,simprocAttr,h0]|((first|rw[aO]|rw[aH]|rw[aI]|rw[aM]|rw[aN]|rw[aJ]|rw[aG]|rw[aL]|skip);split)))
 have h2:call tab eI [.d (.r ((mE op).data.toList.map fun x=>[D.v (.int .u8 x.toNat)])),U8 c]=some (B (decide (0≤aU (fun x:UInt8=>decide (c=x.toNat)) 0 (mE op).data.toList))):=by
  rw[aQ oS _ rfl,iB]
  (repeat'(first|simp -implicitDefEqProofs (disch:=first|assumption|omega|(simp only[aE,aF,aD,i64,sa,aB,lm,la,lc,ln];omega)) only[go_sem,simprocAttr,h1]|((first|rw[aO]|rw[aH]|rw[aI]|rw[aM]|rw[aN]|rw[aJ]|rw[aG]|rw[aL]|skip);split)))
 rw[aQ Q3 _ rfl,Cv]
 (repeat'(first|simp -implicitDefEqProofs (disch:=first|assumption|omega|(simp only[aE,aF,aD,i64,sa,aB,lm,la,lc,ln];omega)) only[go_sem,simprocAttr,C6,B2,h2]|((first|rw[aO]|rw[aH]|rw[aI]|rw[aM]|rw[aN]|rw[aJ]|rw[aG]|rw[aL]|skip);split)))
theorem zzi{op:Int}:∀p∈[((68:Int),(1:Int)),(65,2),(66,4),(78,8),(83,16),(88,32)],decide (0≤aU (fun x:UInt8=>decide (p.1=x.toNat)) 0 (mE op).data.toList)=zVO (Cd op) p.2:=by
 by_cases h:1≤op∧op≤28
 ·rcases Ng h.1 h.2 with rfl|rfl|rfl|rfl|rfl|rfl|rfl|rfl|rfl|rfl|rfl|rfl|rfl|rfl|rfl|rfl|rfl|rfl|rfl|rfl|rfl|rfl|rfl|rfl|rfl|rfl|rfl|rfl<;>decide
 ·rw[mE,if_neg h,Cd,if_neg h]
  decide
theorem bX(x:ZA)(p:Int×Int)(hp:p∈[((68:Int),(1:Int)),(65,2),(66,4),(78,8),(83,16),(88,32)]):call tab cP [I x.fOp,U8 p.1]=some (B (hb x p.2)):=by
 rw[L8,zzi p hp]
 rfl
theorem zxG{x:ZA}(h:x.fOp=19):hb x 1=true∧hb x 2=false∧hb x 4=true∧hb x 32=true:=by
 unfold hb
 rw[h]
 decide
theorem vP(x:ZA):call tab lF [x.x]=some (.d (.s 1 (aP (aY x)))):=by
 rw[aQ F0 _ rfl,yB,aY]
 have a1:=bX x (68,1) (by simp)
 by_cases c0:x.fOp=19
 ·rw[(zxG c0).1,if_pos rfl,if_pos c0]
  (repeat'(first|simp -implicitDefEqProofs (disch:=first|assumption|omega|(simp only[aE,aF,aD,i64,sa,aB,lm,la,lc,ln];omega)) only[go_sem,simprocAttr,aP,mc,mn]|((first|rw[aO]|rw[aH]|rw[aI]|rw[aM]|rw[aN]|rw[aJ]|rw[aG]|rw[aL]|skip);split)))
 ·rw[if_neg c0]
  cases c1:hb x 1<;>rw[c1] at a1<;>(repeat'(first|simp -implicitDefEqProofs (disch:=first|assumption|omega|(simp only[aE,aF,aD,i64,sa,aB,lm,la,lc,ln];omega)) only[go_sem,simprocAttr,aP,mc,mn,a1]|((first|rw[aO]|rw[aH]|rw[aI]|rw[aM]|rw[aN]|rw[aJ]|rw[aG]|rw[aL]|skip);split)))
theorem vG(x:ZA)(hl:x.fArgs.length≤1048576)(h19:x.fOp=19):∀(Bl:List Int) (j:Nat) (A:List Int),x.fArgs.drop j=Bl→A.length≤j →
  loopW tab [1,3,11,12,13] mW {env:=upd (upd (upd (upd (upd emp 13 (some (I (j:Int)))) 12 (some (I (x.fArgs.length:Int)))) 11 (some (.d (.r (aP x.fArgs))))) 3 (some (.ref (0,0) []))) 1 (some (.vp [I x.fOp,I x.fD,I x.fA,I x.fB,I x.fN,Str x.fS,.d (.r (aP x.fArgs))])),heap:=upd emp (0,0) (some (.s 1 (aP A))),fr:=0,next:=1}=some (.ext 0,{env:=upd emp 3 (some (.ref (0,0) [])),heap:=upd emp (0,0) (some (.s 1 (aP (A++iG x j Bl)))),fr:=0,next:=1})
 |[],j,A,hd,hA=>by
  have hd2:x.fArgs.drop ((j:Int)).toNat=[]:=by simpa using hd
  have hj:(0:Int)≤j:=by omega
  unfold loopW
  conv=>lhs;arg 1;unfold mW
  have h1:=dR hd2 hj
  (repeat'(first|simp -implicitDefEqProofs (disch:=first|assumption|omega|(simp only[aE,aF,aD,i64,sa,aB,lm,la,lc,ln];omega)) only[go_sem,simprocAttr,iG,zqe]|((first|rw[aO]|rw[aH]|rw[aI]|rw[aM]|rw[aN]|rw[aJ]|rw[aG]|rw[aL]|skip);split)))
 |y::Bl,j,A,hd,hA=>by
  have hd2:x.fArgs.drop ((j:Int)).toNat=y::Bl:=by simpa using hd
  have hj:(0:Int)≤j:=by omega
  unfold loopW
  conv=>lhs;arg 1;unfold mW
  have h1:=cE hd2 hj
  have h5:=h1.2.1
  have h2:=j4 (fun n=>[DI n]) h1.1
  simp only[Int.toNat_natCast] at h2
  have h3:x.fArgs.drop (j+1)=Bl:=by have:=h1.2.2.1;rwa [show((j:Int)+1).toNat=j+1 by omega] at this
  have m1:((j:Int)).tmod 3=((j % 3:Nat):Int):=by have:=z6 (n:=(j:Int)) (by omega) 3;simpa using this
  have ih1:=vG x hl h19 Bl (j+1) (A++[y]) h3 (by simp;omega)
  have ih2:=vG x hl h19 Bl (j+1) A h3 (by omega)
  rw[show((j+1:Nat):Int)=(j:Int)+1 by omega] at ih1 ih2
  rw[iG,←List.append_assoc]
  simp only[List.map_append,mc,mn] at ih1 ih2 ⊢
  have k0:decide (x.fOp=19)=true:=decide_eq_true h19
  simp only[k0,Bool.not_true,Bool.false_or,Cz]
  rcases (by omega:j % 3=0∨j % 3=1∨j % 3=2) with c1|c1|c1
  ·simp only[c1] at m1 ⊢
   (repeat'(first|simp -implicitDefEqProofs (disch:=first|assumption|omega|(simp only[aE,aF,aD,i64,sa,aB,lm,la,lc,ln];omega)) only[go_sem,simprocAttr,h2,m1,ih2]|((first|rw[aO]|rw[aH]|rw[aI]|rw[aM]|rw[aN]|rw[aJ]|rw[aG]|rw[aL]|skip);split)))
  ·simp only[c1] at m1 ⊢
   (repeat'(first|simp -implicitDefEqProofs (disch:=first|assumption|omega|(simp only[aE,aF,aD,i64,sa,aB,lm,la,lc,ln];omega)) only[go_sem,simprocAttr,h2,m1,ih1]|((first|rw[aO]|rw[aH]|rw[aI]|rw[aM]|rw[aN]|rw[aJ]|rw[aG]|rw[aL]|skip);split)))
  ·simp only[c1] at m1 ⊢
   have hj2:j-2<x.fArgs.length:=by omega
   obtain⟨v,hv,hv2⟩:=zKJ x.fArgs (j:=(j:Int)-2) (by omega) (by omega)
   rw[show((j:Int)-2).toNat=j-2 by omega] at hv2
   by_cases c2:v=2
   ·subst c2
    simp only[hv2]
    (repeat'(first|simp -implicitDefEqProofs (disch:=first|assumption|omega|(simp only[aE,aF,aD,i64,sa,aB,lm,la,lc,ln];omega)) only[go_sem,simprocAttr,h2,m1,hv,ih1]|((first|rw[aO]|rw[aH]|rw[aI]|rw[aM]|rw[aN]|rw[aJ]|rw[aG]|rw[aL]|skip);split)))
   ·have:¬(some v=some (2:Int)):=by simpa using c2
    simp only[hv2,this]
    (repeat'(first|simp -implicitDefEqProofs (disch:=first|assumption|omega|(simp only[aE,aF,aD,i64,sa,aB,lm,la,lc,ln];omega)) only[go_sem,simprocAttr,h2,m1,hv,c2,ih2]|((first|rw[aO]|rw[aH]|rw[aI]|rw[aM]|rw[aN]|rw[aJ]|rw[aG]|rw[aL]|skip);split)))
theorem Nt(x:ZA)(h:¬x.fOp=19):∀(q:Nat) (l:List Int),iG x q l=l
 |_,[]=>rfl
 |q,y::ys=>by
  rw[iG,Nt x h (q+1) ys]
  simp[h]
theorem Kv(l:List Int):(aP l).map (fun el=>el.map D.toR)=aP l:=by
 simp[D.toR]
theorem Dr(x:ZA)(hl:x.fArgs.length≤1048576):call tab z7 [x.x]=some (.d (.s 1 (aP (dB x)))):=by
 rw[aQ Uq _ rfl,Fl,dB]
 have a1:=bX x (65,2) (by simp)
 have a2:=bX x (66,4) (by simp)
 have a3:=bX x (88,32) (by simp)
 by_cases c0:x.fOp=19
 ·obtain⟨k1,k2,k3,k4⟩:=zxG c0
  have k0:decide (x.fOp=19)=true:=decide_eq_true c0
  have h0:=vG x hl c0 x.fArgs 0 [] rfl (by simp)
  simp only[Int.cast_ofNat_Int,mn,zqf] at h0
  simp only[k0,k2,k3,k4,Bool.not_true,Cc,Bool.false_eq_true,if_false,if_true,zqf]
  (repeat'(first|simp -implicitDefEqProofs (disch:=first|assumption|omega|(simp only[aE,aF,aD,i64,sa,aB,lm,la,lc,ln];omega)) only[go_sem,simprocAttr,h0]|((first|rw[aO]|rw[aH]|rw[aI]|rw[aM]|rw[aN]|rw[aJ]|rw[aG]|rw[aL]|skip);split)))
 ·have k0:decide (x.fOp=19)=false:=decide_eq_false c0
  rw[Nt x c0]
  simp only[k0,Bool.not_false,bat]
  have hh:=Kv x.fArgs
  have hal:=P0 x.fArgs
  cases c2:hb x 2<;>cases c4:hb x 4<;>cases c32:hb x 32<;>rw[c2] at a1<;>rw[c4] at a2<;>rw[c32] at a3<;>simp only[Bool.false_eq_true,if_false,if_true,zqf,zqe,List.cons_append]<;>(repeat'(first|simp -implicitDefEqProofs (disch:=first|assumption|omega|(simp only[aE,aF,aD,i64,sa,aB,lm,la,lc,ln];omega)) only[go_sem,simprocAttr,a1,a2,a3,aP,mc,mn,hh,hal]|((first|rw[aO]|rw[aH]|rw[aI]|rw[aM]|rw[aN]|rw[aJ]|rw[aG]|rw[aL]|skip);split)))
set_option maxRecDepth 8000
set_option maxHeartbeats 4000000
def Pm:List Int→Bool
 |a::_::d::r=>inB a 1 2&& !(decide (a=1)&& !decide (d=0))&&Pm r
 |_=>true
theorem zZI:∀(l:List Int),l.length % 3=0→Pm l=B0 l
 |[],_=>rfl
 |[_],h=>by simp at h
 |[_,_],h=>by simp at h
 |a::b::d::r,h=>by
  rw[Pm,B0,zZI r (by simp only[lc] at h;omega)]
abbrev vpT(x:ZA):X:= .vp [I x.fOp,I x.fD,I x.fA,I x.fB,I x.fN,Str x.fS,.d (.r (aP x.fArgs))]
theorem yE(x:ZA)(hl:x.fArgs.length≤1048576):∀(k:Nat) (Bl:List Int) (j:Int),Bl.length≤k→x.fArgs.drop j.toNat=Bl→0≤j→j≤1048580 →
  loopW tab [2,5] j8 {env:=upd (upd emp 5 (some (I j))) 2 (some (vpT x)),heap:=emp,fr:=0,next:=0}=if Pm Bl=true then some (.ext 1,{env:=upd emp 2 (some (vpT x)),heap:=emp,fr:=0,next:=0}) else some (.ret,{env:=upd emp 4 (some (B false)),heap:=emp,fr:=0,next:=0})
 |_,[],j,hk,hd,hj,hj2=>by
  unfold loopW
  conv=>lhs;arg 1;unfold j8
  have h1:=dR hd hj
  simp only[Pm,if_true]
  (repeat'(first|simp -implicitDefEqProofs (disch:=first|assumption|omega|(simp only[aE,aF,aD,i64,sa,aB,lm,la,lc,ln];omega)) only[go_sem,simprocAttr]|((first|rw[aO]|rw[aH]|rw[aI]|rw[aM]|rw[aN]|rw[aJ]|rw[aG]|rw[aL]|skip);split)))
 |0,_::_,j,hk,hd,hj,hj2=>by simp at hk
 |k+1,a::Bl,j,hk,hd,hj,hj2=>by
  unfold loopW
  conv=>lhs;arg 1;unfold j8
  have h1:=cE hd hj
  have h5:=h1.2.1
  have h2:=j4 (fun n=>[DI n]) h1.1
  have hi:=cO a 1 2
  have hlen:=h1.2.2.2.2
  match Bl,h1,hlen with
  |[],h1,hlen =>
   simp only[ln] at hlen
   simp only[Pm,if_true]
   (repeat'(first|simp -implicitDefEqProofs (disch:=first|assumption|omega|(simp only[aE,aF,aD,i64,sa,aB,lm,la,lc,ln];omega)) only[go_sem,simprocAttr,h2]|((first|rw[aO]|rw[aH]|rw[aI]|rw[aM]|rw[aN]|rw[aJ]|rw[aG]|rw[aL]|skip);split)))
  |[b],h1,hlen =>
   simp only[lc,ln] at hlen
   simp only[Pm,if_true]
   (repeat'(first|simp -implicitDefEqProofs (disch:=first|assumption|omega|(simp only[aE,aF,aD,i64,sa,aB,lm,la,lc,ln];omega)) only[go_sem,simprocAttr,h2]|((first|rw[aO]|rw[aH]|rw[aI]|rw[aM]|rw[aN]|rw[aJ]|rw[aG]|rw[aL]|skip);split)))
  |b::d::Bl,h1,hlen =>
   simp only[lc] at hlen
   have hd3:x.fArgs.drop (j+3).toNat=Bl:=by
    have:=congrArg (List.drop 2) h1.2.2.1
    rw[List.drop_drop] at this
    simp only[List.drop_succ_cons,List.drop_zero] at this
    rw[←this]
    congr 1;omega
   have ih:=yE x hl k Bl (j+3) (by simp only[lc] at hk;omega) hd3 (by omega) (by omega)
   obtain⟨v,hv,hv2⟩:=zKJ x.fArgs (j:=j+2) (by omega) (by omega)
   have hvd:v=d:=by
    have h3:=congrArg (fun l=>l[1]?) h1.2.2.1
    simp only[List.getElem?_drop,List.getElem?_cons_succ,List.getElem?_cons_zero] at h3
    rw[show(j+1).toNat+1=(j+2).toNat by omega,hv2] at h3
    simpa using h3
   subst hvd
   rw[Pm]
   cases c:inB a 1 2<;>rw[c] at hi<;>simp only[bta,bfa]<;>(repeat'(first|simp -implicitDefEqProofs (disch:=first|assumption|omega|(simp only[aE,aF,aD,i64,sa,aB,lm,la,lc,ln];omega)) only[go_sem,simprocAttr,h2,hi,hv,ih]|((first|rw[aO]|rw[aH]|rw[aI]|rw[aM]|rw[aN]|rw[aJ]|rw[aG]|rw[aL]|skip);split)))
theorem z8A{x:ZA}(h:¬x.fOp=19)(h2:¬x.fOp=22):hb x 32=decide (x.fOp=11∨x.fOp=14):=by
 unfold hb
 generalize x.fOp=op at *
 by_cases h3:1≤op∧op≤28
 ·rcases Ng h3.1 h3.2 with rfl|rfl|rfl|rfl|rfl|rfl|rfl|rfl|rfl|rfl|rfl|rfl|rfl|rfl|rfl|rfl|rfl|rfl|rfl|rfl|rfl|rfl|rfl|rfl|rfl|rfl|rfl|rfl<;>first|decide|exact absurd rfl h|exact absurd rfl h2
 ·have e:decide (op=11∨op=14)=false:=decide_eq_false (by omega)
  rw[e,Cd,if_neg h3]
  decide
theorem H5(x:ZA)(m:Int)(hl:x.fArgs.length≤1048576):call tab xX [x.x,I m]=some (B (qY x&&(!decide (x.fOp=19)||inB x.fN 0 1))):=by
 rw[aQ Lv _ rfl,Bh,qY]
 have h0:=yE x hl x.fArgs.length x.fArgs 0 (Nat.le_refl _) rfl (by omega) (by omega)
 have a1:=bX x (88,32) (by simp)
 have a2:=cO x.fArgs.length 3 9
 have a3:=cO x.fN 0 1
 have m1:((x.fArgs.length:Int)).tmod 3=((x.fArgs.length % 3:Nat):Int):=by have:=z6 (n:=(x.fArgs.length:Int)) (by omega) 3;simpa using this
 by_cases c0:x.fOp=19
 ·have k0:decide (x.fOp=19)=true:=decide_eq_true c0
  rw[if_pos c0]
  simp only[k0,Bool.not_true,Bool.false_or]
  by_cases c3:x.fArgs.length % 3=0
  ·rw[zZI _ c3] at h0
   rw[c3] at m1
   have e:(decide ((x.fArgs.length:Int)=3)||decide ((x.fArgs.length:Int)=6)||decide ((x.fArgs.length:Int)=9))=inB x.fArgs.length 3 9:=by
    rw[Bool.eq_iff_iff];simp[inB];omega
   rw[e]
   cases ct:B0 x.fArgs<;>simp only[ct,Bool.false_eq_true,if_true,if_false] at h0
   ·(repeat'(first|simp -implicitDefEqProofs (disch:=first|assumption|omega|(simp only[aE,aF,aD,i64,sa,aB,lm,la,lc,ln];omega)) only[go_sem,simprocAttr,h0]|((first|rw[aO]|rw[aH]|rw[aI]|rw[aM]|rw[aN]|rw[aJ]|rw[aG]|rw[aL]|skip);split)))
   ·cases c4:inB x.fArgs.length 3 9<;>rw[c4] at a2
    ·(repeat'(first|simp -implicitDefEqProofs (disch:=first|assumption|omega|(simp only[aE,aF,aD,i64,sa,aB,lm,la,lc,ln];omega)) only[go_sem,simprocAttr,h0,m1,a2]|((first|rw[aO]|rw[aH]|rw[aI]|rw[aM]|rw[aN]|rw[aJ]|rw[aG]|rw[aL]|skip);split)))
    ·cases c5:inB x.fN 0 1<;>rw[c5] at a3<;>(repeat'(first|simp -implicitDefEqProofs (disch:=first|assumption|omega|(simp only[aE,aF,aD,i64,sa,aB,lm,la,lc,ln];omega)) only[go_sem,simprocAttr,h0,m1,a2,a3]|((first|rw[aO]|rw[aH]|rw[aI]|rw[aM]|rw[aN]|rw[aJ]|rw[aG]|rw[aL]|skip);split)))
  ·have e:(decide ((x.fArgs.length:Int)=3)||decide ((x.fArgs.length:Int)=6)||decide ((x.fArgs.length:Int)=9))=false:=by
    rw[Bool.eq_false_iff];simp;omega
   rw[e]
   have c6:¬((x.fArgs.length % 3:Nat):Int)=0:=by omega
   generalize ((x.fArgs.length % 3:Nat):Int)=q at m1 c6
   cases ct:Pm x.fArgs<;>simp only[ct,Bool.false_eq_true,if_true,if_false] at h0<;>(repeat'(first|simp -implicitDefEqProofs (disch:=first|assumption|omega|(simp only[aE,aF,aD,i64,sa,aB,lm,la,lc,ln];omega)) only[go_sem,simprocAttr,h0,m1]|((first|rw[aO]|rw[aH]|rw[aI]|rw[aM]|rw[aN]|rw[aJ]|rw[aG]|rw[aL]|skip);split)))
   all_goals simp
 ·have k0:decide (x.fOp=19)=false:=decide_eq_false c0
  rw[if_neg c0]
  simp only[k0,Bool.not_false,Bool.true_or,bat]
  by_cases c1:x.fOp=22
  ·rw[if_pos c1]
   (repeat'(first|simp -implicitDefEqProofs (disch:=first|assumption|omega|(simp only[aE,aF,aD,i64,sa,aB,lm,la,lc,ln];omega)) only[go_sem,simprocAttr]|((first|rw[aO]|rw[aH]|rw[aI]|rw[aM]|rw[aN]|rw[aJ]|rw[aG]|rw[aL]|skip);split)))
  ·rw[if_neg c1]
   rw[z8A c0 c1] at a1
   by_cases c2:x.fOp=11∨x.fOp=14
   ·rw[if_pos c2]
    rw[decide_eq_true c2] at a1
    (repeat'(first|simp -implicitDefEqProofs (disch:=first|assumption|omega|(simp only[aE,aF,aD,i64,sa,aB,lm,la,lc,ln];omega)) only[go_sem,simprocAttr,a1]|((first|rw[aO]|rw[aH]|rw[aI]|rw[aM]|rw[aN]|rw[aJ]|rw[aG]|rw[aL]|skip);split)))
   ·rw[if_neg c2]
    rw[decide_eq_false c2] at a1
    (repeat'(first|simp -implicitDefEqProofs (disch:=first|assumption|omega|(simp only[aE,aF,aD,i64,sa,aB,lm,la,lc,ln];omega)) only[go_sem,simprocAttr,a1]|((first|rw[aO]|rw[aH]|rw[aI]|rw[aM]|rw[aN]|rw[aJ]|rw[aG]|rw[aL]|skip);split)))
theorem zws(op:Int):decide (mE op=⟨#[]⟩)= !inB op 1 28:=by
 by_cases h:1≤op∧op≤28
 ·have e:inB op 1 28=true:=by simp[inB,h.1,h.2]
  rw[e]
  rcases Ng h.1 h.2 with rfl|rfl|rfl|rfl|rfl|rfl|rfl|rfl|rfl|rfl|rfl|rfl|rfl|rfl|rfl|rfl|rfl|rfl|rfl|rfl|rfl|rfl|rfl|rfl|rfl|rfl|rfl|rfl<;>decide
 ·have e:inB op 1 28=false:=by simp only[inB,←Bool.decide_and];exact decide_eq_false h
  rw[e,mE,if_neg h]
  decide
theorem Gy(r m:Int)(hm:i64 (m-1))(k:Nat)(h:Heap)(fr:Nat)(h1:1≤fr)(hk:h (0,k)=some (.s 1 [[DI m]]))(hh:bA fr h=h):evCW tab gD [I r,.ptr (0,k) [] 0 0] h fr=some (B (!inB r 0 (m-1)),h):=by
 rw[bW Ki _ _ _ rfl,zH]
 (repeat'(first|simp -implicitDefEqProofs (disch:=first|assumption|omega|(simp only[aE,aF,aD,i64,sa,aB,lm,la,lc,ln];omega)) only[go_sem,simprocAttr,cO,hk,hh]|((first|rw[aO]|rw[aH]|rw[aI]|rw[aM]|rw[aN]|rw[aJ]|rw[aG]|rw[aL]|skip);split)))
theorem zzE(k:Nat)(h:Heap)(x:Option D):bA 2 (upd h (0,k) x)=upd (bA 2 h) (0,k) x:=zz8 1 k h x
theorem zVB(k:Nat)(h:Heap)(x:Option D):bA 3 (upd h (0,k) x)=upd (bA 3 h) (0,k) x:=zz8 2 k h x
theorem K9(x:ZA)(m:Int)(hl:x.fArgs.length≤1048576)(hm:i64 (m-1)):call tab Bx [x.x,I m]=some (B (O9 x m)):=by
 rw[aQ Ra _ rfl,Dy,O9]
 have a0:=C6 x.fOp
 have e0:=zws x.fOp
 have a1:=Nb x.fN
 have a2:=H5 x m hl
 have b1:=bX x (68,1) (by simp)
 have b2:=bX x (65,2) (by simp)
 have b4:=bX x (66,4) (by simp)
 have b8:=bX x (78,8) (by simp)
 have b16:=bX x (83,16) (by simp)
 have s1:=sT x
 have s2:=s7 x
 have hal:=P0 (dB x)
 cases c1:inB x.fOp 1 28<;>rw[c1] at e0
 ·(repeat'(first|simp -implicitDefEqProofs (disch:=first|assumption|omega|(simp only[aE,aF,aD,i64,sa,aB,lm,la,lc,ln];omega)) only[go_sem,simprocAttr,a0,e0]|((first|rw[aO]|rw[aH]|rw[aI]|rw[aM]|rw[aN]|rw[aJ]|rw[aG]|rw[aL]|skip);split)))
 cases c5:zV3 x.fN<;>rw[c5] at a1
 ·(repeat'(first|simp -implicitDefEqProofs (disch:=first|assumption|omega|(simp only[aE,aF,aD,i64,sa,aB,lm,la,lc,ln];omega)) only[go_sem,simprocAttr,a0,e0,a1]|((first|rw[aO]|rw[aH]|rw[aI]|rw[aM]|rw[aN]|rw[aJ]|rw[aG]|rw[aL]|skip);split)))
  all_goals simp
 cases c2:(qY x&&(!decide (x.fOp=19)||inB x.fN 0 1))<;>rw[c2] at a2
 ·have e:(true&&qY x&&yY x m&&(!decide (x.fOp=19)||inB x.fN 0 1))=false:=by
   revert c2;cases qY x<;>cases yY x m<;>cases (!decide (x.fOp=19)||inB x.fN 0 1)<;>simp
  rw[e]
  (repeat'(first|simp -implicitDefEqProofs (disch:=first|assumption|omega|(simp only[aE,aF,aD,i64,sa,aB,lm,la,lc,ln];omega)) only[go_sem,simprocAttr,a0,e0,a1,a2]|((first|rw[aO]|rw[aH]|rw[aI]|rw[aM]|rw[aN]|rw[aJ]|rw[aG]|rw[aL]|skip);split)))
 ·have e:(true&&qY x&&yY x m&&(!decide (x.fOp=19)||inB x.fN 0 1))=yY x m:=by
   rw[bE] at c2
   rw[c2.1,c2.2];simp
  rw[e]
  have h0:=fun (j k:Nat) (h:Heap) (hk:h (0,k)=some (.s 1 [[DI m]])) (hj:h (0,j)=some (.s 1 (aP (aY x++dB x)))) (h1:bA 1 h=h) (h2:bA 2 h=h) (h3:bA 3 h=h)=>qE gD (fun r=> !inB r 0 (m-1)) h 1 h1 h2 (aY x++dB x) (by simp;omega) k j (by omega) hj (fun r _=>Gy r m hm k h 3 (by omega) hk h3)
  rw[zQ2,←yY] at h0
  simp only[aP,List.map_append] at h0
  have h1:=h0 2432 32 (upd (upd (upd (upd (upd (upd emp (0,32) (some (.s 1 [[DI m]]))) (0,2336) (some (.s 1 (aP (aY x))))) (0,2400) (some (.s 1 (aP (dB x))))) (0,2336) none) (0,2400) none) (0,2432) (some (.s 1 (aP (aY x)++aP (dB x))))) (by simp[upd]) (by simp[upd]) (by simp only[Oz,kV]) (by simp only[zzE,kV]) (by simp only[zVB,kV])
  simp only[aP] at h1
  clear h0
  (repeat'(first|simp -implicitDefEqProofs (disch:=first|assumption|omega|(simp only[aE,aF,aD,i64,sa,aB,lm,la,lc,ln];omega)) only[go_sem,simprocAttr,a0,e0,a1,a2,b1,b2,b4,b8,b16,vP x,Dr x hl,hal,aP,h1]|((first|rw[aO]|rw[aH]|rw[aI]|rw[aM]|rw[aN]|rw[aJ]|rw[aG]|rw[aL]|skip);split)))
  all_goals(clear h1;simp_all)
set_option maxRecDepth 8000
set_option maxHeartbeats 4000000
theorem C5(t:ZA)(m:Int)(k:Nat)(h:Heap)(fr:Nat)(h1:1≤fr)(hk:h (0,k)=some (.s 1 [[DI m]]))(hh:bA fr h=h):evCW tab lO [t.x,.ptr (0,k) [] 0 0] h fr=some (B (qH m t),h):=by
 rw[bW Ei _ _ _ rfl,tI,qH]
 (repeat'(first|simp -implicitDefEqProofs (disch:=first|assumption|omega|(simp only[aE,aF,aD,i64,sa,aB,lm,la,lc,ln];omega)) only[go_sem,simprocAttr,hk,hh]|((first|rw[aO]|rw[aH]|rw[aI]|rw[aM]|rw[aN]|rw[aJ]|rw[aG]|rw[aL]|skip);split)))
theorem wM(v0:List ZA)(m:Int)(hl:v0.length≤1048576):call tab i6 [.d (.r (v0.map ZA.r)),I m]=some (I (fE v0 m)):=by
 rw[aQ Ke _ rfl,zC,fE]
 have h0:=tH lO (qH m) (upd emp (0,0) (some (.s 1 [[DI m]]))) 1 (by simp only[Oz,kV]) v0 (by omega) 0 (by omega) (fun t _=>C5 t m 0 _ 2 (by omega) (by simp[upd]) (by simp only[zzE,kV]))
 (repeat'(first|simp -implicitDefEqProofs (disch:=first|assumption|omega|(simp only[aE,aF,aD,i64,sa,aB,lm,la,lc,ln];omega)) only[go_sem,simprocAttr,h0]|((first|rw[aO]|rw[aH]|rw[aI]|rw[aM]|rw[aN]|rw[aJ]|rw[aG]|rw[aL]|skip);split)))
theorem Ck(op:Int):call tab oU [I op]=some (B (decide (op=12)||decide (op=9)||decide (op=28))):=by
 rw[aQ Tm _ rfl,Fh]
 (repeat'(first|simp -implicitDefEqProofs (disch:=first|assumption|omega|(simp only[aE,aF,aD,i64,sa,aB,lm,la,lc,ln];omega)) only[go_sem,simprocAttr]|((first|rw[aO]|rw[aH]|rw[aI]|rw[aM]|rw[aN]|rw[aJ]|rw[aG]|rw[aL]|skip);split)))
theorem xJ(u:ZB)(hs:u.sm)(hr:i64 (u.fRegs-1))(hr2:u.fCode.length≤1048576):∀(Bl:List ZA) (j:Int),u.fCode.drop j.toNat=Bl→0≤j →
  loopW tab [1,26,27,28] kE {env:=upd (upd (upd (upd emp 28 (some (I j))) 27 (some (I (u.fCode.length:Int)))) 26 (some (.d (.r (u.fCode.map ZA.r))))) 1 (some (vpU u)),heap:=emp,fr:=0,next:=0}=if i8 u j Bl=true then some (.ext 0,{env:=upd emp 1 (some (vpU u)),heap:=emp,fr:=0,next:=0}) else some (.ret,{env:=upd emp 2 (some (B false)),heap:=emp,fr:=0,next:=0})
 |[],j,hd,hj=>by
  unfold loopW
  conv=>lhs;arg 1;unfold kE
  have h1:=dR hd hj
  (repeat'(first|simp -implicitDefEqProofs (disch:=first|assumption|omega|(simp only[aE,aF,aD,i64,sa,aB,lm,la,lc,ln];omega)) only[go_sem,simprocAttr,i8]|((first|rw[aO]|rw[aH]|rw[aI]|rw[aM]|rw[aN]|rw[aJ]|rw[aG]|rw[aL]|skip);split)))
 |t::Bl,j,hd,hj=>by
  unfold loopW
  conv=>lhs;arg 1;unfold kE
  have h1:=cE hd hj
  have h5:=h1.2.1
  have h2:=j4 ZA.r h1.1
  simp only[ZA.r] at h2
  have hsx:=(hs.2.2 t h1.2.2.2.1).2
  have ih:=xJ u hs hr hr2 Bl (j+1) h1.2.2.1 (by omega)
  have a1:=K9 t u.fRegs hsx hr
  have a2:=wM u.fCode t.fN hr2
  have a3:=cO t.fN 0 900
  rw[i8,yR]
  cases c1:O9 t u.fRegs<;>rw[c1] at a1
  ·(repeat'(first|simp -implicitDefEqProofs (disch:=first|assumption|omega|(simp only[aE,aF,aD,i64,sa,aB,lm,la,lc,ln];omega)) only[go_sem,simprocAttr,h2,a1]|((first|rw[aO]|rw[aH]|rw[aI]|rw[aM]|rw[aN]|rw[aJ]|rw[aG]|rw[aL]|skip);split)))
  ·cases c2:inB t.fN 0 900<;>rw[c2] at a3
   ·(repeat'(first|simp -implicitDefEqProofs (disch:=first|assumption|omega|(simp only[aE,aF,aD,i64,sa,aB,lm,la,lc,ln];omega)) only[go_sem,simprocAttr,h2,a1,a2,a3,ih]|((first|rw[aO]|rw[aH]|rw[aI]|rw[aM]|rw[aN]|rw[aJ]|rw[aG]|rw[aL]|skip);split)))
    all_goals(clear ih;simp_all)
    all_goals omega
   ·(repeat'(first|simp -implicitDefEqProofs (disch:=first|assumption|omega|(simp only[aE,aF,aD,i64,sa,aB,lm,la,lc,ln];omega)) only[go_sem,simprocAttr,h2,a1,a2,a3,ih]|((first|rw[aO]|rw[aH]|rw[aI]|rw[aM]|rw[aN]|rw[aJ]|rw[aG]|rw[aL]|skip);split)))
    all_goals(clear ih;simp_all)
    all_goals omega
theorem lZ(u:ZB)(hs:u.sm):call tab lA [u.x]=some (B (lG u)):=by
 rw[aQ Ml _ rfl,Bg,lG]
 have b1:=cO u.fRegs 0 250
 have b3:=cO u.fParams 0 (if 4<u.fRegs then 4 else u.fRegs)
 have b5:(if u.fRegs<4 then u.fRegs else 4)=(if 4<u.fRegs then(4:Int) else u.fRegs):=by split<;>split<;>omega
 have b4:=cO u.fCode.length 1 900
 have hl:=hs.2.1
 cases c1:inB u.fRegs 0 250<;>rw[c1] at b1
 ·(repeat'(first|simp -implicitDefEqProofs (disch:=first|assumption|omega|(simp only[aE,aF,aD,i64,sa,aB,lm,la,lc,ln];omega)) only[go_sem,simprocAttr,b1]|((first|rw[aO]|rw[aH]|rw[aI]|rw[aM]|rw[aN]|rw[aJ]|rw[aG]|rw[aL]|skip);split)))
 cases c2:inB u.fParams 0 (if 4<u.fRegs then 4 else u.fRegs)<;>rw[c2] at b3
 ·generalize (if 4<u.fRegs then(4:Int) else u.fRegs)=mn at *
  (repeat'(first|simp -implicitDefEqProofs (disch:=first|assumption|omega|(simp only[aE,aF,aD,i64,sa,aB,lm,la,lc,ln];omega)) only[go_sem,simprocAttr,b1,b5,b3]|((first|rw[aO]|rw[aH]|rw[aI]|rw[aM]|rw[aN]|rw[aJ]|rw[aG]|rw[aL]|skip);split)))
 cases c3:inB u.fCode.length 1 900<;>rw[c3] at b4
 ·generalize (if 4<u.fRegs then(4:Int) else u.fRegs)=mn at *
  (repeat'(first|simp -implicitDefEqProofs (disch:=first|assumption|omega|(simp only[aE,aF,aD,i64,sa,aB,lm,la,lc,ln];omega)) only[go_sem,simprocAttr,b1,b5,b3,b4]|((first|rw[aO]|rw[aH]|rw[aI]|rw[aM]|rw[aN]|rw[aJ]|rw[aG]|rw[aL]|skip);split)))
 have g1:0≤u.fRegs∧u.fRegs≤250:=by simpa[inB] using c1
 have g3:1≤(u.fCode.length:Int)∧(u.fCode.length:Int)≤900:=by simpa[inB] using c3
 have h0:=xJ u hs ⟨by omega,by omega⟩ hl u.fCode 0 rfl (by omega)
 obtain⟨t,ht,ht2,_⟩:=Vv (l:=u.fCode) (by omega)
 have ht3:=Ck t.fOp
 simp only[ZA.r] at ht2
 simp only[zjg,ht]
 generalize (if 4<u.fRegs then(4:Int) else u.fRegs)=mn at *
 cases c4:i8 u 0 u.fCode<;>simp only[c4,Bool.false_eq_true,if_true,if_false] at h0
 ·(repeat'(first|simp -implicitDefEqProofs (disch:=first|assumption|omega|(simp only[aE,aF,aD,i64,sa,aB,lm,la,lc,ln];omega)) only[go_sem,simprocAttr,b1,b5,b3,b4,h0]|((first|rw[aO]|rw[aH]|rw[aI]|rw[aM]|rw[aN]|rw[aJ]|rw[aG]|rw[aL]|skip);split)))
 ·(repeat'(first|simp -implicitDefEqProofs (disch:=first|assumption|omega|(simp only[aE,aF,aD,i64,sa,aB,lm,la,lc,ln];omega)) only[go_sem,simprocAttr,b1,b5,b3,b4,h0,ht2,ht3]|((first|rw[aO]|rw[aH]|rw[aI]|rw[aM]|rw[aN]|rw[aJ]|rw[aG]|rw[aL]|skip);split)))
end Go.Ev.G
