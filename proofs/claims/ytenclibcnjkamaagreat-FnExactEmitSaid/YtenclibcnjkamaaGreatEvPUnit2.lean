import Derived.Test.YtenclibcnjkamaaGreatEvQUnit
import Derived.Test.YtenclibcnjkamaaGreatEvPMach
set_option linter.all false
namespace Go.Ev.G
set_option maxRecDepth 8000
set_option maxHeartbeats 4000000
def zYq:List Int:=[0,9,3,7,7,7,7,7,8,8,10,49,2,2,48,3,6,3,2,45,3,6,39,1,17,2,6,6,2]
def fL(op:Int):Int:=if 1≤op∧op≤28 then(zYq[op.toNat]?).getD 0 else 0
theorem Lz{op:Int}(h:1≤op)(h2:op≤28):op=1∨op=2∨op=3∨op=4∨op=5∨op=6∨op=7∨op=8∨op=9∨op=10∨op=11∨op=12∨op=13∨op=14∨op=15∨op=16∨op=17∨op=18∨op=19∨op=20∨op=21∨op=22∨op=23∨op=24∨op=25∨op=26∨op=27∨op=28:=by omega
theorem dX(op:Int):call tab pB [I op]=some (I (fL op)):=by
 rw[aY Oy _ rfl,Cd]
 have h3:=dU op 1 28
 by_cases h:1≤op∧op≤28
 ·obtain⟨h1,h2⟩:=h
  have h4:inB op 1 28=true:=by simp[inB,h1,h2]
  rw[h4] at h3
  rw[fL,if_pos ⟨h1,h2⟩]
  rcases Lz h1 h2 with rfl|rfl|rfl|rfl|rfl|rfl|rfl|rfl|rfl|rfl|rfl|rfl|rfl|rfl|rfl|rfl|rfl|rfl|rfl|rfl|rfl|rfl|rfl|rfl|rfl|rfl|rfl|rfl<;>simp -implicitDefEqProofs (disch:=first|assumption|omega|(simp only[aE,aM,aF,i64,sa,aD,lm,la,lc,ln];omega)) only[go_sem,simprocAttr,h3,zYq]
 ·have h4:inB op 1 28=false:=by simp only[inB,←Bool.decide_and];exact decide_eq_false h
  rw[h4] at h3
  rw[fL,if_neg h]
  simp -implicitDefEqProofs (disch:=first|assumption|omega|(simp only[aE,aM,aF,i64,sa,aD,lm,la,lc,ln];omega)) only[go_sem,simprocAttr,h3]
def hb(x:ZC)(m:Int):Bool:=iY (fL x.fOp) m
theorem K3(x:ZC)(m:Int):decide (bits .and .i64 (fL x.fOp) m=0)= !hb x m:=by simp[hb,iY]
def aZ(x:ZC):List Int:=(if hb x 1=true then [x.fD] else [])++(if x.fOp=19 then [x.fB] else [])
theorem qU(x:ZC):call tab q6 [x.x]=some (.d (.s 1 (aG (aZ x)))):=by
 rw[aY Wr _ rfl,Hy,aZ]
 have e:=K3 x 1
 (repeat'(first|simp -implicitDefEqProofs (disch:=first|assumption|omega|(simp only[aE,aM,aF,i64,sa,aD,lm,la,lc,ln];omega)) only[go_sem,simprocAttr,dX,e,mc,mn]|((first|rw[aQ]|rw[aK]|rw[aI]|rw[aO]|rw[aN]|rw[aH]|rw[aJ]|rw[aP]|skip);split)))
def zXg(args:List Int)(i:Nat):Bool:=decide (i % 3=1)||(decide (i % 3=2)&&decide (args[i-2]? = some 2))
def vF(x:ZC):Nat→List Int→List Int
 |_,[]=>[]
 |q,y::ys=>(if (!decide (x.fOp=19)||zXg x.fArgs q)=true then [y] else [])++vF x (q+1) ys
theorem xB(x:ZC)(hl:x.fArgs.length≤1048576)(h32:hb x 32=true):∀(Bl:List Int) (j:Nat) (A:List Int),x.fArgs.drop j=Bl→A.length≤j+2 →
  loopW tab [1,3,4,5] jZ {env:=upd (upd (upd (upd emp 5 (some (I (j:Int)))) 4 (some (I (fL x.fOp)))) 3 (some (.ref (0,0) []))) 1 (some (.vp [I x.fOp,I x.fD,I x.fA,I x.fB,I x.fN,Str x.fS,.d (.r (aG x.fArgs))])),heap:=upd emp (0,0) (some (.s 1 (aG A))),fr:=0,next:=1}=some (.ext 0,{env:=upd emp 3 (some (.ref (0,0) [])),heap:=upd emp (0,0) (some (.s 1 (aG (A++vF x j Bl)))),fr:=0,next:=1})
 |[],j,A,hd,hA=>by
  have hd2:x.fArgs.drop ((j:Int)).toNat=[]:=by simpa using hd
  have hj:(0:Int)≤j:=by omega
  unfold loopW
  conv=>lhs;arg 1;unfold jZ
  have h1:=cZ hd2 hj
  (repeat'(first|simp -implicitDefEqProofs (disch:=first|assumption|omega|(simp only[aE,aM,aF,i64,sa,aD,lm,la,lc,ln];omega)) only[go_sem,simprocAttr,vF,List.append_nil]|((first|rw[aQ]|rw[aK]|rw[aI]|rw[aO]|rw[aN]|rw[aH]|rw[aJ]|rw[aP]|skip);split)))
 |y::Bl,j,A,hd,hA=>by
  have hd2:x.fArgs.drop ((j:Int)).toNat=y::Bl:=by simpa using hd
  have hj:(0:Int)≤j:=by omega
  unfold loopW
  conv=>lhs;arg 1;unfold jZ
  have h1:=cA hd2 hj
  have h5:=h1.2.1
  have h2:=gC (fun n=>[DI n]) h1.1
  simp only[Int.toNat_natCast] at h2
  have h3:x.fArgs.drop (j+1)=Bl:=by have:=h1.2.2.1;rwa [show((j:Int)+1).toNat=j+1 by omega] at this
  have e:=K3 x 32
  have m1:((j:Int)).tmod 3=((j % 3:Nat):Int):=by have:=sW (n:=(j:Int)) (by omega) 3;simpa using this
  have ih1:=xB x hl h32 Bl (j+1) (A++[y]) h3 (by simp;omega)
  have ih2:=xB x hl h32 Bl (j+1) A h3 (by omega)
  rw[show((j+1:Nat):Int)=(j:Int)+1 by omega] at ih1 ih2
  rw[vF,←List.append_assoc]
  simp only[List.map_append,mc,mn] at ih1 ih2 ⊢
  by_cases c0:x.fOp=19
  ·have k0:decide (x.fOp=19)=true:=decide_eq_true c0
   simp only[k0,Bool.not_true,Bool.false_or,zXg]
   rcases (by omega:j % 3=0∨j % 3=1∨j % 3=2) with c1|c1|c1
   ·simp only[c1] at m1 ⊢
    (repeat'(first|simp -implicitDefEqProofs (disch:=first|assumption|omega|(simp only[aE,aM,aF,i64,sa,aD,lm,la,lc,ln];omega)) only[go_sem,simprocAttr,h2,e,h32,m1,ih2]|((first|rw[aQ]|rw[aK]|rw[aI]|rw[aO]|rw[aN]|rw[aH]|rw[aJ]|rw[aP]|skip);split)))
   ·simp only[c1] at m1 ⊢
    (repeat'(first|simp -implicitDefEqProofs (disch:=first|assumption|omega|(simp only[aE,aM,aF,i64,sa,aD,lm,la,lc,ln];omega)) only[go_sem,simprocAttr,h2,e,h32,m1,ih1]|((first|rw[aQ]|rw[aK]|rw[aI]|rw[aO]|rw[aN]|rw[aH]|rw[aJ]|rw[aP]|skip);split)))
   ·simp only[c1] at m1 ⊢
    have hj2:j-2<x.fArgs.length:=by omega
    obtain⟨v,hv,hv2⟩:=zKS x.fArgs (j:=(j:Int)-2) (by omega) (by omega)
    rw[show((j:Int)-2).toNat=j-2 by omega] at hv2
    by_cases c2:v=2
    ·subst c2
     simp only[hv2]
     (repeat'(first|simp -implicitDefEqProofs (disch:=first|assumption|omega|(simp only[aE,aM,aF,i64,sa,aD,lm,la,lc,ln];omega)) only[go_sem,simprocAttr,h2,e,h32,m1,hv,ih1]|((first|rw[aQ]|rw[aK]|rw[aI]|rw[aO]|rw[aN]|rw[aH]|rw[aJ]|rw[aP]|skip);split)))
    ·have:¬(some v=some (2:Int)):=by simpa using c2
     simp only[hv2,this]
     (repeat'(first|simp -implicitDefEqProofs (disch:=first|assumption|omega|(simp only[aE,aM,aF,i64,sa,aD,lm,la,lc,ln];omega)) only[go_sem,simprocAttr,h2,e,h32,m1,hv,c2,ih2]|((first|rw[aQ]|rw[aK]|rw[aI]|rw[aO]|rw[aN]|rw[aH]|rw[aJ]|rw[aP]|skip);split)))
  ·have k0:decide (x.fOp=19)=false:=decide_eq_false c0
   simp only[k0,Bool.not_false,Bool.true_or,if_true]
   (repeat'(first|simp -implicitDefEqProofs (disch:=first|assumption|omega|(simp only[aE,aM,aF,i64,sa,aD,lm,la,lc,ln];omega)) only[go_sem,simprocAttr,h2,e,h32,ih1]|((first|rw[aQ]|rw[aK]|rw[aI]|rw[aO]|rw[aN]|rw[aH]|rw[aJ]|rw[aP]|skip);split)))
def a8(x:ZC):List Int:=(if hb x 2=true then [x.fA] else [])++((if (hb x 4&& !decide (x.fOp=19))=true then [x.fB] else [])++(if hb x 32=true then vF x 0 x.fArgs else []))
theorem Ot(x:ZC)(hl:x.fArgs.length≤1048576)(h32:¬hb x 32=true)(w:List (List D)) :
  loopW tab [1,3,4,5] jZ {env:=upd (upd (upd (upd emp 5 (some (I 0))) 4 (some (I (fL x.fOp)))) 3 (some (.ref (0,0) []))) 1 (some (.vp [I x.fOp,I x.fD,I x.fA,I x.fB,I x.fN,Str x.fS,.d (.r (aG x.fArgs))])),heap:=upd emp (0,0) (some (.s 1 w)),fr:=0,next:=1}=some (.ext 0,{env:=upd emp 3 (some (.ref (0,0) [])),heap:=upd emp (0,0) (some (.s 1 w)),fr:=0,next:=1}):=by
 unfold loopW
 conv=>lhs;arg 1;unfold jZ
 have e:=K3 x 32
 (repeat'(first|simp -implicitDefEqProofs (disch:=first|assumption|omega|(simp only[aE,aM,aF,i64,sa,aD,lm,la,lc,ln];omega)) only[go_sem,simprocAttr,e]|((first|rw[aQ]|rw[aK]|rw[aI]|rw[aO]|rw[aN]|rw[aH]|rw[aJ]|rw[aP]|skip);split)))
theorem w9(x:ZC)(hl:x.fArgs.length≤1048576):call tab vE [x.x]=some (.d (.s 1 (aG (a8 x)))):=by
 rw[aY T4 _ rfl,Hm,a8]
 have e2:=K3 x 2
 have e4:=K3 x 4
 have e32:=K3 x 32
 by_cases c:hb x 32=true
 ·have ih:=fun A hA=>xB x hl c x.fArgs 0 A rfl hA
  simp only[Int.cast_ofNat_Int,aG,List.map_append] at ih
  have i0:=ih [] (by simp)
  have i1:=fun a=>ih [a] (by simp)
  have i2:=fun a b=>ih [a,b] (by simp)
  simp only[mc,mn,List.nil_append,List.cons_append] at i0 i1 i2
  simp only[c,if_true]
  cases c2:hb x 2<;>cases c4:hb x 4<;>simp only[c2,c4,bfa,bta,Bool.false_eq_true,if_true,if_false] at e2 e4 ⊢
  ·(repeat'(first|simp -implicitDefEqProofs (disch:=first|assumption|omega|(simp only[aE,aM,aF,i64,sa,aD,lm,la,lc,ln];omega)) only[go_sem,simprocAttr,dX,e2,e4,c,i0,mc,mn,aG]|((first|rw[aQ]|rw[aK]|rw[aI]|rw[aO]|rw[aN]|rw[aH]|rw[aJ]|rw[aP]|skip);split)))
  ·by_cases c5:x.fOp=19
   ·(repeat'(first|simp -implicitDefEqProofs (disch:=first|assumption|omega|(simp only[aE,aM,aF,i64,sa,aD,lm,la,lc,ln];omega)) only[go_sem,simprocAttr,dX,e2,e4,c,i0,mc,mn,aG]|((first|rw[aQ]|rw[aK]|rw[aI]|rw[aO]|rw[aN]|rw[aH]|rw[aJ]|rw[aP]|skip);split)))
   ·(repeat'(first|simp -implicitDefEqProofs (disch:=first|assumption|omega|(simp only[aE,aM,aF,i64,sa,aD,lm,la,lc,ln];omega)) only[go_sem,simprocAttr,dX,e2,e4,c,i1,mc,mn,aG]|((first|rw[aQ]|rw[aK]|rw[aI]|rw[aO]|rw[aN]|rw[aH]|rw[aJ]|rw[aP]|skip);split)))
  ·(repeat'(first|simp -implicitDefEqProofs (disch:=first|assumption|omega|(simp only[aE,aM,aF,i64,sa,aD,lm,la,lc,ln];omega)) only[go_sem,simprocAttr,dX,e2,e4,c,i1,mc,mn,aG]|((first|rw[aQ]|rw[aK]|rw[aI]|rw[aO]|rw[aN]|rw[aH]|rw[aJ]|rw[aP]|skip);split)))
  ·by_cases c5:x.fOp=19
   ·(repeat'(first|simp -implicitDefEqProofs (disch:=first|assumption|omega|(simp only[aE,aM,aF,i64,sa,aD,lm,la,lc,ln];omega)) only[go_sem,simprocAttr,dX,e2,e4,c,i1,mc,mn,aG]|((first|rw[aQ]|rw[aK]|rw[aI]|rw[aO]|rw[aN]|rw[aH]|rw[aJ]|rw[aP]|skip);split)))
   ·(repeat'(first|simp -implicitDefEqProofs (disch:=first|assumption|omega|(simp only[aE,aM,aF,i64,sa,aD,lm,la,lc,ln];omega)) only[go_sem,simprocAttr,dX,e2,e4,c,i2,mc,mn,aG]|((first|rw[aQ]|rw[aK]|rw[aI]|rw[aO]|rw[aN]|rw[aH]|rw[aJ]|rw[aP]|skip);split)))
 ·have i0:=Ot x hl c
  simp only[c,Bool.false_eq_true,if_false,List.append_nil]
  cases c2:hb x 2<;>cases c4:hb x 4<;>simp only[c2,c4,bfa,bta,Bool.false_eq_true,if_true,if_false] at e2 e4 ⊢ <;> (repeat'(first|simp -implicitDefEqProofs (disch:=first|assumption|omega|(simp only[aE,aM,aF,i64,sa,aD,lm,la,lc,ln];omega)) only[go_sem,simprocAttr,dX,e2,e4,i0,mc,mn,aG]|((first|rw[aQ]|rw[aK]|rw[aI]|rw[aO]|rw[aN]|rw[aH]|rw[aJ]|rw[aP]|skip);split)))
def Aa(x:ZC)(m:Int):Bool:=(aZ x++a8 x).all fun r=>inB r 0 (m-1)
theorem xX(m:Int)(hm:i64 (m-1))(v5:List Int)(hl:v5.length≤2097152):∀(Bl:List Int) (j:Int),v5.drop j.toNat=Bl→0≤j →
  loopW tab [1,5,6] lP {env:=upd (upd (upd emp 6 (some (I j))) 5 (some (.ref (0,0) []))) 1 (some (I m)),heap:=upd emp (0,0) (some (.s 1 (aG v5))),fr:=0,next:=1}=if (Bl.all fun r=>inB r 0 (m-1))=true then some (.ext 0,{env:=emp,heap:=emp,fr:=0,next:=0}) else some (.ret,{env:=upd emp 4 (some (B false)),heap:=emp,fr:=0,next:=0})
 |[],j,hd,hj=>by
  unfold loopW
  conv=>lhs;arg 1;unfold lP
  have h1:=cZ hd hj
  (repeat'(first|simp -implicitDefEqProofs (disch:=first|assumption|omega|(simp only[aE,aM,aF,i64,sa,aD,lm,la,lc,ln];omega)) only[go_sem,simprocAttr]|((first|rw[aQ]|rw[aK]|rw[aI]|rw[aO]|rw[aN]|rw[aH]|rw[aJ]|rw[aP]|skip);split)))
 |y::Bl,j,hd,hj=>by
  unfold loopW
  conv=>lhs;arg 1;unfold lP
  have h1:=cA hd hj
  have h5:=h1.2.1
  have h2:=gC (fun n=>[DI n]) h1.1
  have ih:=xX m hm v5 hl Bl (j+1) h1.2.2.1 (by omega)
  have hi:=dU y 0 (m-1)
  rw[List.all_cons]
  cases c:inB y 0 (m-1)<;>rw[c] at hi<;>(repeat'(first|simp -implicitDefEqProofs (disch:=first|assumption|omega|(simp only[aE,aM,aF,i64,sa,aD,lm,la,lc,ln];omega)) only[go_sem,simprocAttr,h2,hi,ih]|((first|rw[aQ]|rw[aK]|rw[aI]|rw[aO]|rw[aN]|rw[aH]|rw[aJ]|rw[aP]|skip);split)))
theorem m7(x:ZC):(aZ x).length≤2:=by
 unfold aZ
 split<;>split<;>simp
theorem Pz(x:ZC):∀(q:Nat) (l:List Int),(vF x q l).length≤l.length
 |_,[]=>by simp[vF]
 |q,y::ys=>by
  have:=Pz x (q+1) ys
  rw[vF]
  split<;>simp<;>omega
theorem oM(x:ZC):(a8 x).length≤x.fArgs.length+2:=by
 unfold a8
 have:=Pz x 0 x.fArgs
 split<;>split<;>split<;>simp<;>omega
theorem Sr(l:List Int):((l.map fun n=>[DI n]).all fun el=>el.length==1)=true:=by simp
theorem H7(x:ZC)(m:Int)(hl:x.fArgs.length≤1048576)(hm:i64 (m-1)):call tab wO [x.x,I m]=some (B (Aa x m)):=by
 rw[aY Ki _ rfl,Am,Aa]
 have h1:=m7 x
 have h2:=oM x
 have h0:=xX m hm (aZ x++a8 x) (by simp;omega) (aZ x++a8 x) 0 rfl (by omega)
 simp only[aG,List.map_append] at h0
 cases c:(aZ x++a8 x).all fun r=>inB r 0 (m-1)<;>simp only[c,Bool.false_eq_true,if_true,if_false] at h0<;>(repeat'(first|simp -implicitDefEqProofs (disch:=first|assumption|omega|(simp only[aE,aM,aF,i64,sa,aD,lm,la,lc,ln];omega)) only[go_sem,simprocAttr,qU x,w9 x hl,h0,aG,Sr]|((first|rw[aQ]|rw[aK]|rw[aI]|rw[aO]|rw[aN]|rw[aH]|rw[aJ]|rw[aP]|skip);split)))
def Db:List Int→Bool
 |[]=>true
 |[a]=>inB a 1 2
 |[a,_]=>inB a 1 2
 |a::_::d::r=>inB a 1 2&& !(decide (a=1)&& !decide (d=0))&&Db r
theorem xZ(x:ZC)(hl:x.fArgs.length≤1048576):∀(k:Nat) (Bl:List Int) (j:Int),Bl.length≤k→x.fArgs.drop j.toNat=Bl→0≤j→j≤1048580 →
  loopW tab [1,3,4] lI {env:=upd (upd (upd emp 4 (some (I j))) 3 (some (I (x.fArgs.length:Int)))) 1 (some (.vp [I x.fOp,I x.fD,I x.fA,I x.fB,I x.fN,Str x.fS,.d (.r (aG x.fArgs))])),heap:=emp,fr:=0,next:=0}=if Db Bl=true then some (.ext 1,{env:=upd emp 3 (some (I (x.fArgs.length:Int))),heap:=emp,fr:=0,next:=0}) else some (.ret,{env:=upd emp 2 (some (B false)),heap:=emp,fr:=0,next:=0})
 |_,[],j,hk,hd,hj,hj2=>by
  unfold loopW
  conv=>lhs;arg 1;unfold lI
  have h1:=cZ hd hj
  (repeat'(first|simp -implicitDefEqProofs (disch:=first|assumption|omega|(simp only[aE,aM,aF,i64,sa,aD,lm,la,lc,ln];omega)) only[go_sem,simprocAttr,Db]|((first|rw[aQ]|rw[aK]|rw[aI]|rw[aO]|rw[aN]|rw[aH]|rw[aJ]|rw[aP]|skip);split)))
 |0,_::_,j,hk,hd,hj,hj2=>by simp at hk
 |k+1,a::Bl,j,hk,hd,hj,hj2=>by
  unfold loopW
  conv=>lhs;arg 1;unfold lI
  have h1:=cA hd hj
  have h5:=h1.2.1
  have h2:=gC (fun n=>[DI n]) h1.1
  have hi:=dU a 1 2
  have hlen:=h1.2.2.2.2
  have hd3:x.fArgs.drop (j+3).toNat=Bl.drop 2:=by
   have:=congrArg (List.drop 2) h1.2.2.1
   rw[List.drop_drop] at this
   rw[←this]
   congr 1;omega
  have ih:=xZ x hl k (Bl.drop 2) (j+3) (by simp only[lc] at hk;simp;omega) hd3 (by omega) (by omega)
  cases c:inB a 1 2<;>rw[c] at hi
  ·have e:Db (a::Bl)=false:=by
    cases Bl with
    |nil=>simp[Db,c]
    |cons b Bl=>cases Bl<;>simp[Db,c]
   rw[e]
   (repeat'(first|simp -implicitDefEqProofs (disch:=first|assumption|omega|(simp only[aE,aM,aF,i64,sa,aD,lm,la,lc,ln];omega)) only[go_sem,simprocAttr,h2,hi]|((first|rw[aQ]|rw[aK]|rw[aI]|rw[aO]|rw[aN]|rw[aH]|rw[aJ]|rw[aP]|skip);split)))
  ·match Bl,h1,hlen,hd3,ih with
   |[],h1,hlen,hd3,ih =>
    simp only[ln] at hlen
    simp only[List.drop_nil,Db,if_true] at ih
    simp only[Db,c,if_true]
    (repeat'(first|simp -implicitDefEqProofs (disch:=first|assumption|omega|(simp only[aE,aM,aF,i64,sa,aD,lm,la,lc,ln];omega)) only[go_sem,simprocAttr,h2,hi,ih]|((first|rw[aQ]|rw[aK]|rw[aI]|rw[aO]|rw[aN]|rw[aH]|rw[aJ]|rw[aP]|skip);split)))
   |[b],h1,hlen,hd3,ih =>
    simp only[lc,ln] at hlen
    simp only[List.drop_succ_cons,List.drop_nil,Db,if_true] at ih
    simp only[Db,c,if_true]
    (repeat'(first|simp -implicitDefEqProofs (disch:=first|assumption|omega|(simp only[aE,aM,aF,i64,sa,aD,lm,la,lc,ln];omega)) only[go_sem,simprocAttr,h2,hi,ih]|((first|rw[aQ]|rw[aK]|rw[aI]|rw[aO]|rw[aN]|rw[aH]|rw[aJ]|rw[aP]|skip);split)))
   |b::d::Bl,h1,hlen,hd3,ih =>
    simp only[lc] at hlen
    simp only[List.drop_succ_cons,List.drop_zero] at ih
    simp only[Db,c,bta]
    obtain⟨v,hv,hv2⟩:=zKS x.fArgs (j:=j+2) (by omega) (by omega)
    have hvd:v=d:=by
     have h3:=congrArg (fun l=>l[1]?) h1.2.2.1
     simp only[List.getElem?_drop,List.getElem?_cons_succ,List.getElem?_cons_zero] at h3
     rw[show(j+1).toNat+1=(j+2).toNat by omega,hv2] at h3
     simpa using h3
    subst hvd
    (repeat'(first|simp -implicitDefEqProofs (disch:=first|assumption|omega|(simp only[aE,aM,aF,i64,sa,aD,lm,la,lc,ln];omega)) only[go_sem,simprocAttr,h2,hi,hv,ih]|((first|rw[aQ]|rw[aK]|rw[aI]|rw[aO]|rw[aN]|rw[aH]|rw[aJ]|rw[aP]|skip);split)))
def eA(x:ZC):Bool:=if x.fOp=19 then Db x.fArgs&&(decide ((x.fArgs.length:Int)=3)||decide ((x.fArgs.length:Int)=6)||decide ((x.fArgs.length:Int)=9)) else if x.fOp=22 then decide ((x.fArgs.length:Int)=1) else if x.fOp=11∨x.fOp=14 then decide ((x.fArgs.length:Int)≤4) else decide ((x.fArgs.length:Int)=0)
theorem Ia(x:ZC)(hl:x.fArgs.length≤1048576):call tab w8 [x.x]=some (B (eA x)):=by
 rw[aY L0 _ rfl,A4,eA]
 have h0:=xZ x hl x.fArgs.length x.fArgs 0 (Nat.le_refl _) rfl (by omega) (by omega)
 (repeat'(first|simp -implicitDefEqProofs (disch:=first|assumption|omega|(simp only[aE,aM,aF,i64,sa,aD,lm,la,lc,ln];omega)) only[go_sem,simprocAttr,h0]|((first|rw[aQ]|rw[aK]|rw[aI]|rw[aO]|rw[aN]|rw[aH]|rw[aJ]|rw[aP]|skip);split)))
 all_goals clear h0
 all_goals simp_all
def Nq(x:ZC)(m:Int):Bool:=inB x.fOp 1 28&&eA x&&Aa x m&&(!decide (x.fOp=19)||inB x.fN 0 1)&&zQZ x.fN&&(hb x 1||decide (x.fD=0))&&(hb x 2||decide (x.fA=0))&&(hb x 4||decide (x.fB=0))&&(hb x 8||decide (x.fN=0))&&(hb x 16||decide (x.fS=⟨#[]⟩))
theorem Gs(x:ZC)(m:Int)(hl:x.fArgs.length≤1048576)(hm:i64 (m-1)):call tab tS [x.x,I m]=some (B (Nq x m)):=by
 rw[aY Iy _ rfl,x7,Nq]
 have a0:=dX x.fOp
 have a1:=dU x.fOp 1 28
 have a2:=Ia x hl
 have a3:=H7 x m hl hm
 have a4:=dU x.fN 0 1
 have a5:=Of x.fN
 have e1:=K3 x 1
 have e2:=K3 x 2
 have e4:=K3 x 4
 have e8:=K3 x 8
 have e16:=K3 x 16
 cases c1:inB x.fOp 1 28<;>rw[c1] at a1
 ·(repeat'(first|simp -implicitDefEqProofs (disch:=first|assumption|omega|(simp only[aE,aM,aF,i64,sa,aD,lm,la,lc,ln];omega)) only[go_sem,simprocAttr,a0,a1]|((first|rw[aQ]|rw[aK]|rw[aI]|rw[aO]|rw[aN]|rw[aH]|rw[aJ]|rw[aP]|skip);split)))
 cases c2:eA x<;>rw[c2] at a2
 ·(repeat'(first|simp -implicitDefEqProofs (disch:=first|assumption|omega|(simp only[aE,aM,aF,i64,sa,aD,lm,la,lc,ln];omega)) only[go_sem,simprocAttr,a0,a1,a2]|((first|rw[aQ]|rw[aK]|rw[aI]|rw[aO]|rw[aN]|rw[aH]|rw[aJ]|rw[aP]|skip);split)))
 cases c3:Aa x m<;>rw[c3] at a3
 ·(repeat'(first|simp -implicitDefEqProofs (disch:=first|assumption|omega|(simp only[aE,aM,aF,i64,sa,aD,lm,la,lc,ln];omega)) only[go_sem,simprocAttr,a0,a1,a2,a3]|((first|rw[aQ]|rw[aK]|rw[aI]|rw[aO]|rw[aN]|rw[aH]|rw[aJ]|rw[aP]|skip);split)))
 have hn:(!decide (x.fOp=19)||inB x.fN 0 1)= !(decide (x.fOp=19)&& !inB x.fN 0 1):=by cases inB x.fN 0 1<;>simp
 rw[hn]
 by_cases c0:x.fOp=19
 ·cases c4:inB x.fN 0 1<;>rw[c4] at a4<;>have k0:decide (x.fOp=19)=true:=decide_eq_true c0
  ·simp only[k0]
   (repeat'(first|simp -implicitDefEqProofs (disch:=first|assumption|omega|(simp only[aE,aM,aF,i64,sa,aD,lm,la,lc,ln];omega)) only[go_sem,simprocAttr,a0,a1,a2,a3,a4]|((first|rw[aQ]|rw[aK]|rw[aI]|rw[aO]|rw[aN]|rw[aH]|rw[aJ]|rw[aP]|skip);split)))
  ·simp only[k0]
   (repeat'(first|simp -implicitDefEqProofs (disch:=first|assumption|omega|(simp only[aE,aM,aF,i64,sa,aD,lm,la,lc,ln];omega)) only[go_sem,simprocAttr,a0,a1,a2,a3,a4,a5,e1,e2,e4,e8,e16]|((first|rw[aQ]|rw[aK]|rw[aI]|rw[aO]|rw[aN]|rw[aH]|rw[aJ]|rw[aP]|skip);split)))
   all_goals simp_all
 ·have k0:decide (x.fOp=19)=false:=decide_eq_false c0
  simp only[k0]
  (repeat'(first|simp -implicitDefEqProofs (disch:=first|assumption|omega|(simp only[aE,aM,aF,i64,sa,aD,lm,la,lc,ln];omega)) only[go_sem,simprocAttr,a0,a1,a2,a3,a4,a5,e1,e2,e4,e8,e16]|((first|rw[aQ]|rw[aK]|rw[aI]|rw[aO]|rw[aN]|rw[aH]|rw[aJ]|rw[aP]|skip);split)))
  all_goals simp_all
def B6(m:Int)(t:ZC):Bool:=decide (t.fOp=8)&&decide (t.fN=m)
theorem wG(v0:List ZC)(m:Int)(hl:v0.length≤1048576):∀(Bl:List ZC) (j:Int),v0.drop j.toNat=Bl→0≤j →
  loopW tab [0,1,5] kA {env:=upd (upd (upd emp 5 (some (I j))) 1 (some (I m))) 0 (some (.d (.r (v0.map ZC.r)))),heap:=emp,fr:=0,next:=0}=if bC (B6 m) j Bl= -1 then some (.ext 0,{env:=emp,heap:=emp,fr:=0,next:=0}) else some (.ret,{env:=upd emp 4 (some (I (bC (B6 m) j Bl))),heap:=emp,fr:=0,next:=0})
 |[],j,hd,hj=>by
  unfold loopW
  conv=>lhs;arg 1;unfold kA
  have h1:=cZ hd hj
  simp only[bC,if_true]
  (repeat'(first|simp -implicitDefEqProofs (disch:=first|assumption|omega|(simp only[aE,aM,aF,i64,sa,aD,lm,la,lc,ln];omega)) only[go_sem,simprocAttr]|((first|rw[aQ]|rw[aK]|rw[aI]|rw[aO]|rw[aN]|rw[aH]|rw[aJ]|rw[aP]|skip);split)))
 |t::Bl,j,hd,hj=>by
  unfold loopW
  conv=>lhs;arg 1;unfold kA
  have h1:=cA hd hj
  have h5:=h1.2.1
  have h2:=gC ZC.r h1.1
  simp only[ZC.r] at h2
  have ih:=wG v0 m hl Bl (j+1) h1.2.2.1 (by omega)
  rw[bC]
  by_cases c1:t.fOp=8
  ·by_cases c2:t.fN=m
   ·have hp:B6 m t=true:=by simp[B6,c1,c2]
    rw[if_pos hp,if_neg (by omega)]
    (repeat'(first|simp -implicitDefEqProofs (disch:=first|assumption|omega|(simp only[aE,aM,aF,i64,sa,aD,lm,la,lc,ln];omega)) only[go_sem,simprocAttr,h2]|((first|rw[aQ]|rw[aK]|rw[aI]|rw[aO]|rw[aN]|rw[aH]|rw[aJ]|rw[aP]|skip);split)))
   ·have hp:¬B6 m t=true:=by simp[B6,c2]
    rw[if_neg hp,←ih]
    (repeat'(first|simp -implicitDefEqProofs (disch:=first|assumption|omega|(simp only[aE,aM,aF,i64,sa,aD,lm,la,lc,ln];omega)) only[go_sem,simprocAttr,h2]|((first|rw[aQ]|rw[aK]|rw[aI]|rw[aO]|rw[aN]|rw[aH]|rw[aJ]|rw[aP]|skip);split)))
  ·have hp:¬B6 m t=true:=by simp[B6,c1]
   rw[if_neg hp,←ih]
   (repeat'(first|simp -implicitDefEqProofs (disch:=first|assumption|omega|(simp only[aE,aM,aF,i64,sa,aD,lm,la,lc,ln];omega)) only[go_sem,simprocAttr,h2]|((first|rw[aQ]|rw[aK]|rw[aI]|rw[aO]|rw[aN]|rw[aH]|rw[aJ]|rw[aP]|skip);split)))
theorem wC(v0:List ZC)(m:Int)(hl:v0.length≤1048576):call tab jV [.d (.r (v0.map ZC.r)),I m]=some (I (bC (B6 m) 0 v0)):=by
 rw[aY Ik _ rfl,xW]
 have h0:=wG v0 m hl v0 0 rfl (by omega)
 by_cases hp:bC (B6 m) 0 v0= -1
 ·rw[if_pos hp] at h0
  (repeat'(first|simp -implicitDefEqProofs (disch:=first|assumption|omega|(simp only[aE,aM,aF,i64,sa,aD,lm,la,lc,ln];omega)) only[go_sem,simprocAttr,h0,hp]|((first|rw[aQ]|rw[aK]|rw[aI]|rw[aO]|rw[aN]|rw[aH]|rw[aJ]|rw[aP]|skip);split)))
 ·rw[if_neg hp] at h0
  (repeat'(first|simp -implicitDefEqProofs (disch:=first|assumption|omega|(simp only[aE,aM,aF,i64,sa,aD,lm,la,lc,ln];omega)) only[go_sem,simprocAttr,h0]|((first|rw[aQ]|rw[aK]|rw[aI]|rw[aO]|rw[aN]|rw[aH]|rw[aJ]|rw[aP]|skip);split)))
set_option maxRecDepth 8000
set_option maxHeartbeats 4000000
def kO(code:List ZC)(m:Int):Int:=bC (B6 m) 0 code
def Az(u:ZD)(j:Int)(t:ZC):Bool:=Nq t u.fRegs&& !((decide (t.fOp=8)&&(!decide (kO u.fCode t.fN=j) || !inB t.fN 0 900))||((decide (t.fOp=9)||decide (t.fOp=10))&&decide (kO u.fCode t.fN<0)))
def lO(u:ZD):Int→List ZC→Bool
 |_,[]=>true
 |j,t::r=>Az u j t&&lO u (j+1) r
abbrev vpU(u:ZD):X:= .vp [Str u.fName,I u.fParams,I u.fRegs,.d (.r (u.fCode.map ZC.r))]
theorem N9(a b:Int):call tab Dj [I a,I b]=some (I (if a<b then a else b)):=by
 rw[aY Tb _ rfl,Fk]
 (repeat'(first|simp -implicitDefEqProofs (disch:=first|assumption|omega|(simp only[aE,aM,aF,i64,sa,aD,lm,la,lc,ln];omega)) only[go_sem,simprocAttr]|((first|rw[aQ]|rw[aK]|rw[aI]|rw[aO]|rw[aN]|rw[aH]|rw[aJ]|rw[aP]|skip);split)))
theorem zP(u:ZD)(hs:u.sm)(hr:i64 (u.fRegs-1))(hr2:u.fCode.length≤1048576):∀(Bl:List ZC) (j:Int),u.fCode.drop j.toNat=Bl→0≤j →
  loopW tab [1,3,4] mN {env:=upd (upd (upd emp 4 (some (I j))) 3 (some (I (u.fCode.length:Int)))) 1 (some (vpU u)),heap:=emp,fr:=0,next:=0}=if lO u j Bl=true then some (.ext 0,{env:=upd (upd emp 3 (some (I (u.fCode.length:Int)))) 1 (some (vpU u)),heap:=emp,fr:=0,next:=0}) else some (.ret,{env:=upd emp 2 (some (B false)),heap:=emp,fr:=0,next:=0})
 |[],j,hd,hj=>by
  unfold loopW
  conv=>lhs;arg 1;unfold mN
  have h1:=cZ hd hj
  (repeat'(first|simp -implicitDefEqProofs (disch:=first|assumption|omega|(simp only[aE,aM,aF,i64,sa,aD,lm,la,lc,ln];omega)) only[go_sem,simprocAttr,lO]|((first|rw[aQ]|rw[aK]|rw[aI]|rw[aO]|rw[aN]|rw[aH]|rw[aJ]|rw[aP]|skip);split)))
 |t::Bl,j,hd,hj=>by
  unfold loopW
  conv=>lhs;arg 1;unfold mN
  have h1:=cA hd hj
  have h5:=h1.2.1
  have h2:=gC ZC.r h1.1
  simp only[ZC.r] at h2
  have hsx:=(hs.2.2 t h1.2.2.2.1).2
  have ih:=zP u hs hr hr2 Bl (j+1) h1.2.2.1 (by omega)
  have a1:=Gs t u.fRegs hsx hr
  have a2:call tab jV [.d (.r (u.fCode.map ZC.r)),I t.fN]=some (I (kO u.fCode t.fN)):=wC u.fCode t.fN hr2
  have a3:=dU t.fN 0 900
  rw[lO,Az]
  cases c1:Nq t u.fRegs<;>rw[c1] at a1
  ·(repeat'(first|simp -implicitDefEqProofs (disch:=first|assumption|omega|(simp only[aE,aM,aF,i64,sa,aD,lm,la,lc,ln];omega)) only[go_sem,simprocAttr,h2,a1]|((first|rw[aQ]|rw[aK]|rw[aI]|rw[aO]|rw[aN]|rw[aH]|rw[aJ]|rw[aP]|skip);split)))
  ·cases c2:inB t.fN 0 900<;>rw[c2] at a3
   ·(repeat'(first|simp -implicitDefEqProofs (disch:=first|assumption|omega|(simp only[aE,aM,aF,i64,sa,aD,lm,la,lc,ln];omega)) only[go_sem,simprocAttr,h2,a1,a2,a3,ih]|((first|rw[aQ]|rw[aK]|rw[aI]|rw[aO]|rw[aN]|rw[aH]|rw[aJ]|rw[aP]|skip);split)))
    all_goals simp_all
   ·(repeat'(first|simp -implicitDefEqProofs (disch:=first|assumption|omega|(simp only[aE,aM,aF,i64,sa,aD,lm,la,lc,ln];omega)) only[go_sem,simprocAttr,h2,a1,a2,a3,ih]|((first|rw[aQ]|rw[aK]|rw[aI]|rw[aO]|rw[aN]|rw[aH]|rw[aJ]|rw[aP]|skip);split)))
    all_goals simp_all
def zjJ(l:List ZC):Bool:=match l.getLast? with
 |some t=>decide (t.fOp=12)||decide (t.fOp=9)||decide (t.fOp=28)
 |none=>false
def sX(u:ZD):Bool:=inB u.fRegs 0 250&&inB u.fParams 0 (if 4<u.fRegs then 4 else u.fRegs)&&inB u.fCode.length 1 900&&lO u 0 u.fCode&&zjJ u.fCode
theorem Xi{l:List ZC}(h:1≤l.length):∃t,l.getLast? = some t∧(l.map ZC.r)[((l.length:Int)-1).toNat]? = some t.r∧t∈l:=by
 have h1:l≠[]:=by intro e;rw[e] at h;simp at h
 refine⟨l.getLast h1,List.getLast?_eq_some_getLast h1,?_,List.getLast_mem h1⟩
 rw[List.getElem?_map,show((l.length:Int)-1).toNat=l.length-1 by omega,←List.getLast?_eq_getElem?,List.getLast?_eq_some_getLast h1]
 rfl
theorem Mo(u:ZD)(hs:u.sm):call tab zL [u.x]=some (B (sX u)):=by
 rw[aY Nz _ rfl,Co,sX]
 have b1:=dU u.fRegs 0 250
 have b2:=N9 4 u.fRegs
 have b3:=dU u.fParams 0 (if 4<u.fRegs then 4 else u.fRegs)
 have b4:=dU u.fCode.length 1 900
 have hl:=hs.2.1
 cases c1:inB u.fRegs 0 250<;>rw[c1] at b1
 ·(repeat'(first|simp -implicitDefEqProofs (disch:=first|assumption|omega|(simp only[aE,aM,aF,i64,sa,aD,lm,la,lc,ln];omega)) only[go_sem,simprocAttr,b1]|((first|rw[aQ]|rw[aK]|rw[aI]|rw[aO]|rw[aN]|rw[aH]|rw[aJ]|rw[aP]|skip);split)))
 cases c2:inB u.fParams 0 (if 4<u.fRegs then 4 else u.fRegs)<;>rw[c2] at b3
 ·generalize (if 4<u.fRegs then(4:Int) else u.fRegs)=mn at *
  (repeat'(first|simp -implicitDefEqProofs (disch:=first|assumption|omega|(simp only[aE,aM,aF,i64,sa,aD,lm,la,lc,ln];omega)) only[go_sem,simprocAttr,b1,b2,b3]|((first|rw[aQ]|rw[aK]|rw[aI]|rw[aO]|rw[aN]|rw[aH]|rw[aJ]|rw[aP]|skip);split)))
 cases c3:inB u.fCode.length 1 900<;>rw[c3] at b4
 ·generalize (if 4<u.fRegs then(4:Int) else u.fRegs)=mn at *
  (repeat'(first|simp -implicitDefEqProofs (disch:=first|assumption|omega|(simp only[aE,aM,aF,i64,sa,aD,lm,la,lc,ln];omega)) only[go_sem,simprocAttr,b1,b2,b3,b4]|((first|rw[aQ]|rw[aK]|rw[aI]|rw[aO]|rw[aN]|rw[aH]|rw[aJ]|rw[aP]|skip);split)))
 have g1:0≤u.fRegs∧u.fRegs≤250:=by simpa[inB] using c1
 have g3:1≤(u.fCode.length:Int)∧(u.fCode.length:Int)≤900:=by simpa[inB] using c3
 have h0:=zP u hs ⟨by omega,by omega⟩ hl u.fCode 0 rfl (by omega)
 obtain⟨t,ht,ht2,_⟩:=Xi (l:=u.fCode) (by omega)
 simp only[ZC.r] at ht2
 simp only[zjJ,ht]
 generalize (if 4<u.fRegs then(4:Int) else u.fRegs)=mn at *
 cases c4:lO u 0 u.fCode<;>simp only[c4,Bool.false_eq_true,if_true,if_false] at h0
 ·(repeat'(first|simp -implicitDefEqProofs (disch:=first|assumption|omega|(simp only[aE,aM,aF,i64,sa,aD,lm,la,lc,ln];omega)) only[go_sem,simprocAttr,b1,b2,b3,b4,h0]|((first|rw[aQ]|rw[aK]|rw[aI]|rw[aO]|rw[aN]|rw[aH]|rw[aJ]|rw[aP]|skip);split)))
 ·(repeat'(first|simp -implicitDefEqProofs (disch:=first|assumption|omega|(simp only[aE,aM,aF,i64,sa,aD,lm,la,lc,ln];omega)) only[go_sem,simprocAttr,b1,b2,b3,b4,h0,ht2]|((first|rw[aQ]|rw[aK]|rw[aI]|rw[aO]|rw[aN]|rw[aH]|rw[aJ]|rw[aP]|skip);split)))
  all_goals simp_all
set_option maxRecDepth 8000
set_option maxHeartbeats 4000000
theorem wH(f:Nat)(p:ZC→Bool)(h:Heap)(fr:Nat)(hh:cB fr h=h)(xs:List ZC)(hx:xs.length≤140737488351232)(kc:Nat)(h1:1≤fr)(hf:∀x∈xs,evCW tab f [x.x,.ptr (0,kc) [] 0 0] h (fr+1)=some (B (p x),h)):∀(Bl:List ZC) (j:Int),xs.drop j.toNat=Bl→0≤j →
  loopW tab [0,1,7,8] bI {env:=upd (upd (upd (upd emp 8 (some (I j))) 7 (some (I (xs.length:Int)))) 1 (some (.clo f [.ptr (0,kc) [] 0 0]))) 0 (some (.d (.r (xs.map (ZC.r))))),heap:=h,fr:=fr,next:=0}=if bC p j Bl= -1 then some (.ext 0,{env:=emp,heap:=h,fr:=fr,next:=0}) else some (.ret,{env:=upd emp 4 (some (I (bC p j Bl))),heap:=h,fr:=fr,next:=0})
 |[],j,hd,hj=>by
  unfold loopW
  conv=>lhs;arg 1;unfold bI
  have:=cZ hd hj
  simp only[bC,if_true]
  (repeat'(first|simp -implicitDefEqProofs (disch:=first|assumption|omega|(simp only[aE,aM,aF,i64,sa,aD,lm,la,lc,ln];omega)) only[go_sem,simprocAttr,hh,show ¬0=fr from by omega]|((first|rw[aQ]|rw[aK]|rw[aI]|rw[aO]|rw[aN]|rw[aH]|rw[aJ]|rw[aP]|skip);split)))
 |x::Bl,j,hd,hj=>by
  unfold loopW
  conv=>lhs;arg 1;unfold bI
  have h4:=(cA hd hj).2.1
  have ih:=wH f p h fr hh xs hx kc h1 hf Bl (j+1) (cA hd hj).2.2.1 (by omega)
  have h2:=gC (ZC.r) (cA hd hj).1
  simp only[ZC.r] at h2
  have h3:=hf x (cA hd hj).2.2.2.1
  rw[bC]
  by_cases hp:p x=true
  ·rw[if_pos hp,if_neg (by omega)]
   (repeat'(first|simp -implicitDefEqProofs (disch:=first|assumption|omega|(simp only[aE,aM,aF,i64,sa,aD,lm,la,lc,ln];omega)) only[go_sem,simprocAttr,h2,show ¬0=fr from by omega,h3,hh]|((first|rw[aQ]|rw[aK]|rw[aI]|rw[aO]|rw[aN]|rw[aH]|rw[aJ]|rw[aP]|skip);split)))
  ·rw[if_neg hp,←ih]
   (repeat'(first|simp -implicitDefEqProofs (disch:=first|assumption|omega|(simp only[aE,aM,aF,i64,sa,aD,lm,la,lc,ln];omega)) only[go_sem,simprocAttr,h2,show ¬0=fr from by omega,h3,hh]|((first|rw[aQ]|rw[aK]|rw[aI]|rw[aO]|rw[aN]|rw[aH]|rw[aJ]|rw[aP]|skip);split)))
theorem vS(f:Nat)(p:ZC→Bool)(h:Heap)(fr:Nat)(hh:cB fr h=h)(xs:List ZC)(hx:xs.length≤140737488351232)(kc:Nat)(h1:1≤fr)(hf:∀x∈xs,evCW tab f [x.x,.ptr (0,kc) [] 0 0] h (fr+1)=some (B (p x),h)):evCW tab b9 [.d (.r (xs.map (ZC.r))),.clo f [.ptr (0,kc) [] 0 0]] h fr=some (I (bC p 0 xs),h):=by
 rw[aR eV _ _ _ rfl,dF]
 have h0:=wH f p h fr hh xs hx kc h1 hf xs 0 rfl (by omega)
 by_cases hp:bC p 0 xs= -1
 ·rw[if_pos hp] at h0
  (repeat'(first|simp -implicitDefEqProofs (disch:=first|assumption|omega|(simp only[aE,aM,aF,i64,sa,aD,lm,la,lc,ln];omega)) only[go_sem,simprocAttr,hh,h0,hp,show ¬0=fr from by omega]|((first|rw[aQ]|rw[aK]|rw[aI]|rw[aO]|rw[aN]|rw[aH]|rw[aJ]|rw[aP]|skip);split)))
 ·rw[if_neg hp] at h0
  (repeat'(first|simp -implicitDefEqProofs (disch:=first|assumption|omega|(simp only[aE,aM,aF,i64,sa,aD,lm,la,lc,ln];omega)) only[go_sem,simprocAttr,hh,h0,hp,show ¬0=fr from by omega]|((first|rw[aQ]|rw[aK]|rw[aI]|rw[aO]|rw[aN]|rw[aH]|rw[aJ]|rw[aP]|skip);split)))
theorem v6(f:Nat)(p:Int→Bool)(h:Heap)(fr:Nat)(hh:cB fr h=h)(xs:List Int)(hx:xs.length≤140737488351232)(kc:Nat)(k:Nat)(h1:1≤fr)(hk:h (0,k)=some (.s 1 (xs.map (fun n=>[DI n]))))(hf:∀x∈xs,evCW tab f [I x,.ptr (0,kc) [] 0 0] h (fr+1)=some (B (p x),h)):∀(Bl:List Int) (j:Int),xs.drop j.toNat=Bl→0≤j →
  loopW tab [0,1,7,8] dK {env:=upd (upd (upd (upd emp 8 (some (I j))) 7 (some (I (xs.length:Int)))) 1 (some (.clo f [.ptr (0,kc) [] 0 0]))) 0 (some (.ref (0,k) [])),heap:=h,fr:=fr,next:=0}=if bC p j Bl= -1 then some (.ext 0,{env:=emp,heap:=h,fr:=fr,next:=0}) else some (.ret,{env:=upd emp 4 (some (I (bC p j Bl))),heap:=h,fr:=fr,next:=0})
 |[],j,hd,hj=>by
  unfold loopW
  conv=>lhs;arg 1;unfold dK
  have:=cZ hd hj
  simp only[bC,if_true]
  (repeat'(first|simp -implicitDefEqProofs (disch:=first|assumption|omega|(simp only[aE,aM,aF,i64,sa,aD,lm,la,lc,ln];omega)) only[go_sem,simprocAttr,hh,show ¬0=fr from by omega]|((first|rw[aQ]|rw[aK]|rw[aI]|rw[aO]|rw[aN]|rw[aH]|rw[aJ]|rw[aP]|skip);split)))
 |x::Bl,j,hd,hj=>by
  unfold loopW
  conv=>lhs;arg 1;unfold dK
  have h4:=(cA hd hj).2.1
  have ih:=v6 f p h fr hh xs hx kc k h1 hk hf Bl (j+1) (cA hd hj).2.2.1 (by omega)
  have h2:=gC (fun n=>[DI n]) (cA hd hj).1
  have h3:=hf x (cA hd hj).2.2.2.1
  rw[bC]
  by_cases hp:p x=true
  ·rw[if_pos hp,if_neg (by omega)]
   (repeat'(first|simp -implicitDefEqProofs (disch:=first|assumption|omega|(simp only[aE,aM,aF,i64,sa,aD,lm,la,lc,ln];omega)) only[go_sem,simprocAttr,h2,hk,show ¬0=fr from by omega,h3,hh]|((first|rw[aQ]|rw[aK]|rw[aI]|rw[aO]|rw[aN]|rw[aH]|rw[aJ]|rw[aP]|skip);split)))
  ·rw[if_neg hp,←ih]
   (repeat'(first|simp -implicitDefEqProofs (disch:=first|assumption|omega|(simp only[aE,aM,aF,i64,sa,aD,lm,la,lc,ln];omega)) only[go_sem,simprocAttr,h2,hk,show ¬0=fr from by omega,h3,hh]|((first|rw[aQ]|rw[aK]|rw[aI]|rw[aO]|rw[aN]|rw[aH]|rw[aJ]|rw[aP]|skip);split)))
theorem vQ(f:Nat)(p:Int→Bool)(h:Heap)(fr:Nat)(hh:cB fr h=h)(xs:List Int)(hx:xs.length≤140737488351232)(kc:Nat)(k:Nat)(h1:1≤fr)(hk:h (0,k)=some (.s 1 (xs.map (fun n=>[DI n]))))(hf:∀x∈xs,evCW tab f [I x,.ptr (0,kc) [] 0 0] h (fr+1)=some (B (p x),h)):evCW tab gV [.ref (0,k) [],.clo f [.ptr (0,kc) [] 0 0]] h fr=some (I (bC p 0 xs),h):=by
 rw[aR r6 _ _ _ rfl,kP]
 have h0:=v6 f p h fr hh xs hx kc k h1 hk hf xs 0 rfl (by omega)
 by_cases hp:bC p 0 xs= -1
 ·rw[if_pos hp] at h0
  (repeat'(first|simp -implicitDefEqProofs (disch:=first|assumption|omega|(simp only[aE,aM,aF,i64,sa,aD,lm,la,lc,ln];omega)) only[go_sem,simprocAttr,hh,h0,hp,hk,show ¬0=fr from by omega]|((first|rw[aQ]|rw[aK]|rw[aI]|rw[aO]|rw[aN]|rw[aH]|rw[aJ]|rw[aP]|skip);split)))
 ·rw[if_neg hp] at h0
  (repeat'(first|simp -implicitDefEqProofs (disch:=first|assumption|omega|(simp only[aE,aM,aF,i64,sa,aD,lm,la,lc,ln];omega)) only[go_sem,simprocAttr,hh,h0,hp,hk,show ¬0=fr from by omega]|((first|rw[aQ]|rw[aK]|rw[aI]|rw[aO]|rw[aN]|rw[aH]|rw[aJ]|rw[aP]|skip);split)))
theorem rR(f:Nat)(p:Int→Bool)(h:Heap)(fr:Nat)(hh:cB fr h=h)(hh':cB (fr+1) h=h)(xs:List Int)(hx:xs.length≤140737488351232)(kc:Nat)(k:Nat)(h1:1≤fr)(hk:h (0,k)=some (.s 1 (xs.map (fun n=>[DI n]))))(hf:∀x∈xs,evCW tab f [I x,.ptr (0,kc) [] 0 0] h (fr+2)=some (B (p x),h)):evCW tab fC [.ref (0,k) [],.clo f [.ptr (0,kc) [] 0 0]] h fr=some (B (xs.any p),h):=by
 rw[aR pC _ _ _ rfl,jA]
 have h0:=vQ f p h (fr+1) hh' xs hx kc k (by omega) hk hf
 rw[zY p 0 (by omega)]
 (repeat'(first|simp -implicitDefEqProofs (disch:=first|assumption|omega|(simp only[aE,aM,aF,i64,sa,aD,lm,la,lc,ln];omega)) only[go_sem,simprocAttr,hh,h0,hk,show ¬0=fr from by omega]|((first|rw[aQ]|rw[aK]|rw[aI]|rw[aO]|rw[aN]|rw[aH]|rw[aJ]|rw[aP]|skip);split)))
set_option maxRecDepth 8000
set_option maxHeartbeats 4000000
def zYW:List ByteArray:=[noS,⟨#[68,78]⟩,⟨#[68,65]⟩,⟨#[68,65,66]⟩,⟨#[68,65,66]⟩,⟨#[68,65,66]⟩,⟨#[68,65,66]⟩,⟨#[68,65,66]⟩,⟨#[78]⟩,⟨#[78]⟩,⟨#[65,78]⟩,⟨#[68,83,88]⟩,⟨#[65]⟩,⟨#[65]⟩,⟨#[83,88]⟩,⟨#[68,65]⟩,⟨#[65,66]⟩,⟨#[68,65]⟩,⟨#[65]⟩,⟨#[68,66,78,88]⟩,⟨#[68,65]⟩,⟨#[65,66]⟩,⟨#[68,65,66,88]⟩,⟨#[68]⟩,⟨#[68,83]⟩,⟨#[65]⟩,⟨#[65,66]⟩,⟨#[65,66]⟩,⟨#[65]⟩]
def oF(op:Int):ByteArray:=if 1≤op∧op≤28 then(zYW[op.toNat]?).getD noS else noS
theorem Fp(op:Int):call tab By [I op]=some (Str (oF op)):=by
 rw[aY X3 _ rfl,Hg]
 by_cases h:1≤op∧op≤28
 ·obtain⟨h1,h2⟩:=h
  rw[oF,if_pos ⟨h1,h2⟩]
  rcases Lz h1 h2 with rfl|rfl|rfl|rfl|rfl|rfl|rfl|rfl|rfl|rfl|rfl|rfl|rfl|rfl|rfl|rfl|rfl|rfl|rfl|rfl|rfl|rfl|rfl|rfl|rfl|rfl|rfl|rfl<;>simp -implicitDefEqProofs (disch:=first|assumption|omega|(simp only[aE,aM,aF,i64,sa,aD,lm,la,lc,ln];omega)) only[go_sem,simprocAttr,zYW]
 ·rw[oF,if_neg h]
  simp -implicitDefEqProofs (disch:=first|assumption|omega|(simp only[aE,aM,aF,i64,sa,aD,lm,la,lc,ln];omega)) only[go_sem,simprocAttr]
abbrev U8(c:Int):X:= .d (.v (.int .u8 c))
theorem Cs(bs:List UInt8)(hl:bs.length≤1048576)(c:Int):∀(Bl:List UInt8) (j:Int),bs.drop j.toNat=Bl→0≤j →
  loopW tab [0,1,7,8] dW {env:=upd (upd (upd (upd emp 8 (some (I j))) 7 (some (I (bs.length:Int)))) 1 (some (U8 c))) 0 (some (.d (.r (bs.map fun x=>[D.v (.int .u8 x.toNat)])))),heap:=emp,fr:=0,next:=0}=if bC (fun x:UInt8=>decide (c=x.toNat)) j Bl= -1 then some (.ext 0,{env:=emp,heap:=emp,fr:=0,next:=0}) else some (.ret,{env:=upd emp 4 (some (I (bC (fun x:UInt8=>decide (c=x.toNat)) j Bl))),heap:=emp,fr:=0,next:=0})
 |[],j,hd,hj=>by
  unfold loopW
  conv=>lhs;arg 1;unfold dW
  have h1:=cZ hd hj
  simp only[bC,if_true]
  (repeat'(first|simp -implicitDefEqProofs (disch:=first|assumption|omega|(simp only[aE,aM,aF,i64,sa,aD,lm,la,lc,ln];omega)) only[go_sem,simprocAttr]|((first|rw[aQ]|rw[aK]|rw[aI]|rw[aO]|rw[aN]|rw[aH]|rw[aJ]|rw[aP]|skip);split)))
 |x::Bl,j,hd,hj=>by
  unfold loopW
  conv=>lhs;arg 1;unfold dW
  have h1:=cA hd hj
  have h5:=h1.2.1
  have h2:=gC (fun x:UInt8=>[D.v (.int .u8 x.toNat)]) h1.1
  have ih:=Cs bs hl c Bl (j+1) h1.2.2.1 (by omega)
  rw[bC]
  by_cases hp:c=x.toNat
  ·have k:decide (c=(x.toNat:Int))=true:=decide_eq_true hp
   simp only[k,if_true]
   rw[if_neg (by omega)]
   (repeat'(first|simp -implicitDefEqProofs (disch:=first|assumption|omega|(simp only[aE,aM,aF,i64,sa,aD,lm,la,lc,ln];omega)) only[go_sem,simprocAttr,h2]|((first|rw[aQ]|rw[aK]|rw[aI]|rw[aO]|rw[aN]|rw[aH]|rw[aJ]|rw[aP]|skip);split)))
  ·have k:decide (c=(x.toNat:Int))=false:=decide_eq_false hp
   simp only[k,Bool.false_eq_true,if_false]
   rw[←ih]
   (repeat'(first|simp -implicitDefEqProofs (disch:=first|assumption|omega|(simp only[aE,aM,aF,i64,sa,aD,lm,la,lc,ln];omega)) only[go_sem,simprocAttr,h2]|((first|rw[aQ]|rw[aK]|rw[aI]|rw[aO]|rw[aN]|rw[aH]|rw[aJ]|rw[aP]|skip);split)))
theorem Nk(op c:Int):call tab d7 [I op,U8 c]=some (B (decide (0≤bC (fun x:UInt8=>decide (c=x.toNat)) 0 (oF op).data.toList))):=by
 have hs:(oF op).size≤4:=by
  unfold oF
  split
  ·rename_i h
   rcases Lz h.1 h.2 with rfl|rfl|rfl|rfl|rfl|rfl|rfl|rfl|rfl|rfl|rfl|rfl|rfl|rfl|rfl|rfl|rfl|rfl|rfl|rfl|rfl|rfl|rfl|rfl|rfl|rfl|rfl|rfl<;>decide
  ·decide
 have hl:(oF op).data.toList.length≤4:=by rw[Array.length_toList];exact hs
 have h0:=Cs (oF op).data.toList (by omega) c (oF op).data.toList 0 rfl (by omega)
 have h1:call tab jK [.d (.r ((oF op).data.toList.map fun x=>[D.v (.int .u8 x.toNat)])),U8 c]=some (I (bC (fun x:UInt8=>decide (c=x.toNat)) 0 (oF op).data.toList)):=by
  rw[aY tT _ rfl,l6]
  by_cases hp:bC (fun x:UInt8=>decide (c=x.toNat)) 0 (oF op).data.toList= -1
  ·rw[if_pos hp] at h0
   (repeat'(first|simp -implicitDefEqProofs (disch:=first|assumption|omega|(simp only[aE,aM,aF,i64,sa,aD,lm,la,lc,ln];omega)) only[go_sem,simprocAttr,h0,hp]|((first|rw[aQ]|rw[aK]|rw[aI]|rw[aO]|rw[aN]|rw[aH]|rw[aJ]|rw[aP]|skip);split)))
  ·rw[if_neg hp] at h0
   (repeat'(first|simp -implicitDefEqProofs (disch:=first|assumption|omega|(simp only[aE,aM,aF,i64,sa,aD,lm,la,lc,ln];omega)) only[go_sem,simprocAttr,h0]|((first|rw[aQ]|rw[aK]|rw[aI]|rw[aO]|rw[aN]|rw[aH]|rw[aJ]|rw[aP]|skip);split)))
 have h2:call tab gG [.d (.r ((oF op).data.toList.map fun x=>[D.v (.int .u8 x.toNat)])),U8 c]=some (B (decide (0≤bC (fun x:UInt8=>decide (c=x.toNat)) 0 (oF op).data.toList))):=by
  rw[aY qO _ rfl,kC]
  (repeat'(first|simp -implicitDefEqProofs (disch:=first|assumption|omega|(simp only[aE,aM,aF,i64,sa,aD,lm,la,lc,ln];omega)) only[go_sem,simprocAttr,h1]|((first|rw[aQ]|rw[aK]|rw[aI]|rw[aO]|rw[aN]|rw[aH]|rw[aJ]|rw[aP]|skip);split)))
 rw[aY Sy _ rfl,E1]
 (repeat'(first|simp -implicitDefEqProofs (disch:=first|assumption|omega|(simp only[aE,aM,aF,i64,sa,aD,lm,la,lc,ln];omega)) only[go_sem,simprocAttr,Fp,Dk,h2]|((first|rw[aQ]|rw[aK]|rw[aI]|rw[aO]|rw[aN]|rw[aH]|rw[aJ]|rw[aP]|skip);split)))
theorem zze{op:Int}:∀p∈[((68:Int),(1:Int)),(65,2),(66,4),(78,8),(83,16),(88,32)],decide (0≤bC (fun x:UInt8=>decide (p.1=x.toNat)) 0 (oF op).data.toList)=iY (fL op) p.2:=by
 by_cases h:1≤op∧op≤28
 ·rcases Lz h.1 h.2 with rfl|rfl|rfl|rfl|rfl|rfl|rfl|rfl|rfl|rfl|rfl|rfl|rfl|rfl|rfl|rfl|rfl|rfl|rfl|rfl|rfl|rfl|rfl|rfl|rfl|rfl|rfl|rfl<;>decide
 ·rw[oF,if_neg h,fL,if_neg h]
  decide
theorem dV(x:ZC)(p:Int×Int)(hp:p∈[((68:Int),(1:Int)),(65,2),(66,4),(78,8),(83,16),(88,32)]):call tab d7 [I x.fOp,U8 p.1]=some (B (hb x p.2)):=by
 rw[Nk,zze p hp]
 rfl
theorem z8m{x:ZC}(h:x.fOp=19):hb x 1=true∧hb x 2=false∧hb x 4=true∧hb x 32=true:=by
 unfold hb
 rw[h]
 decide
theorem qV(x:ZC):call tab q9 [x.x]=some (.d (.s 1 (aG (aZ x)))):=by
 rw[aY Uq _ rfl,Hq,aZ]
 have a1:=dV x (68,1) (by simp)
 by_cases c0:x.fOp=19
 ·rw[(z8m c0).1,if_pos rfl,if_pos c0]
  (repeat'(first|simp -implicitDefEqProofs (disch:=first|assumption|omega|(simp only[aE,aM,aF,i64,sa,aD,lm,la,lc,ln];omega)) only[go_sem,simprocAttr,aG,mc,mn]|((first|rw[aQ]|rw[aK]|rw[aI]|rw[aO]|rw[aN]|rw[aH]|rw[aJ]|rw[aP]|skip);split)))
 ·rw[if_neg c0]
  cases c1:hb x 1<;>rw[c1] at a1<;>(repeat'(first|simp -implicitDefEqProofs (disch:=first|assumption|omega|(simp only[aE,aM,aF,i64,sa,aD,lm,la,lc,ln];omega)) only[go_sem,simprocAttr,aG,mc,mn,a1]|((first|rw[aQ]|rw[aK]|rw[aI]|rw[aO]|rw[aN]|rw[aH]|rw[aJ]|rw[aP]|skip);split)))
theorem xC(x:ZC)(hl:x.fArgs.length≤1048576)(h19:x.fOp=19):∀(Bl:List Int) (j:Nat) (A:List Int),x.fArgs.drop j=Bl→A.length≤j →
  loopW tab [1,3,11,12,13] o8 {env:=upd (upd (upd (upd (upd emp 13 (some (I (j:Int)))) 12 (some (I (x.fArgs.length:Int)))) 11 (some (.d (.r (aG x.fArgs))))) 3 (some (.ref (0,0) []))) 1 (some (.vp [I x.fOp,I x.fD,I x.fA,I x.fB,I x.fN,Str x.fS,.d (.r (aG x.fArgs))])),heap:=upd emp (0,0) (some (.s 1 (aG A))),fr:=0,next:=1}=some (.ext 0,{env:=upd emp 3 (some (.ref (0,0) [])),heap:=upd emp (0,0) (some (.s 1 (aG (A++vF x j Bl)))),fr:=0,next:=1})
 |[],j,A,hd,hA=>by
  have hd2:x.fArgs.drop ((j:Int)).toNat=[]:=by simpa using hd
  have hj:(0:Int)≤j:=by omega
  unfold loopW
  conv=>lhs;arg 1;unfold o8
  have h1:=cZ hd2 hj
  (repeat'(first|simp -implicitDefEqProofs (disch:=first|assumption|omega|(simp only[aE,aM,aF,i64,sa,aD,lm,la,lc,ln];omega)) only[go_sem,simprocAttr,vF,List.append_nil]|((first|rw[aQ]|rw[aK]|rw[aI]|rw[aO]|rw[aN]|rw[aH]|rw[aJ]|rw[aP]|skip);split)))
 |y::Bl,j,A,hd,hA=>by
  have hd2:x.fArgs.drop ((j:Int)).toNat=y::Bl:=by simpa using hd
  have hj:(0:Int)≤j:=by omega
  unfold loopW
  conv=>lhs;arg 1;unfold o8
  have h1:=cA hd2 hj
  have h5:=h1.2.1
  have h2:=gC (fun n=>[DI n]) h1.1
  simp only[Int.toNat_natCast] at h2
  have h3:x.fArgs.drop (j+1)=Bl:=by have:=h1.2.2.1;rwa [show((j:Int)+1).toNat=j+1 by omega] at this
  have m1:((j:Int)).tmod 3=((j % 3:Nat):Int):=by have:=sW (n:=(j:Int)) (by omega) 3;simpa using this
  have ih1:=xC x hl h19 Bl (j+1) (A++[y]) h3 (by simp;omega)
  have ih2:=xC x hl h19 Bl (j+1) A h3 (by omega)
  rw[show((j+1:Nat):Int)=(j:Int)+1 by omega] at ih1 ih2
  rw[vF,←List.append_assoc]
  simp only[List.map_append,mc,mn] at ih1 ih2 ⊢
  have k0:decide (x.fOp=19)=true:=decide_eq_true h19
  simp only[k0,Bool.not_true,Bool.false_or,zXg]
  rcases (by omega:j % 3=0∨j % 3=1∨j % 3=2) with c1|c1|c1
  ·simp only[c1] at m1 ⊢
   (repeat'(first|simp -implicitDefEqProofs (disch:=first|assumption|omega|(simp only[aE,aM,aF,i64,sa,aD,lm,la,lc,ln];omega)) only[go_sem,simprocAttr,h2,m1,ih2]|((first|rw[aQ]|rw[aK]|rw[aI]|rw[aO]|rw[aN]|rw[aH]|rw[aJ]|rw[aP]|skip);split)))
  ·simp only[c1] at m1 ⊢
   (repeat'(first|simp -implicitDefEqProofs (disch:=first|assumption|omega|(simp only[aE,aM,aF,i64,sa,aD,lm,la,lc,ln];omega)) only[go_sem,simprocAttr,h2,m1,ih1]|((first|rw[aQ]|rw[aK]|rw[aI]|rw[aO]|rw[aN]|rw[aH]|rw[aJ]|rw[aP]|skip);split)))
  ·simp only[c1] at m1 ⊢
   have hj2:j-2<x.fArgs.length:=by omega
   obtain⟨v,hv,hv2⟩:=zKS x.fArgs (j:=(j:Int)-2) (by omega) (by omega)
   rw[show((j:Int)-2).toNat=j-2 by omega] at hv2
   by_cases c2:v=2
   ·subst c2
    simp only[hv2]
    (repeat'(first|simp -implicitDefEqProofs (disch:=first|assumption|omega|(simp only[aE,aM,aF,i64,sa,aD,lm,la,lc,ln];omega)) only[go_sem,simprocAttr,h2,m1,hv,ih1]|((first|rw[aQ]|rw[aK]|rw[aI]|rw[aO]|rw[aN]|rw[aH]|rw[aJ]|rw[aP]|skip);split)))
   ·have:¬(some v=some (2:Int)):=by simpa using c2
    simp only[hv2,this]
    (repeat'(first|simp -implicitDefEqProofs (disch:=first|assumption|omega|(simp only[aE,aM,aF,i64,sa,aD,lm,la,lc,ln];omega)) only[go_sem,simprocAttr,h2,m1,hv,c2,ih2]|((first|rw[aQ]|rw[aK]|rw[aI]|rw[aO]|rw[aN]|rw[aH]|rw[aJ]|rw[aP]|skip);split)))
theorem Bz(x:ZC)(h:¬x.fOp=19):∀(q:Nat) (l:List Int),vF x q l=l
 |_,[]=>rfl
 |q,y::ys=>by
  rw[vF,Bz x h (q+1) ys]
  simp[h]
theorem Ai(l:List Int):(aG l).map (fun el=>el.map D.toR)=aG l:=by
 simp[D.toR]
theorem wP(x:ZC)(hl:x.fArgs.length≤1048576):call tab vM [x.x]=some (.d (.s 1 (aG (a8 x)))):=by
 rw[aY V4 _ rfl,Hi,a8]
 have a1:=dV x (65,2) (by simp)
 have a2:=dV x (66,4) (by simp)
 have a3:=dV x (88,32) (by simp)
 by_cases c0:x.fOp=19
 ·obtain⟨k1,k2,k3,k4⟩:=z8m c0
  have k0:decide (x.fOp=19)=true:=decide_eq_true c0
  have h0:=xC x hl c0 x.fArgs 0 [] rfl (by simp)
  simp only[Int.cast_ofNat_Int,mn,List.nil_append] at h0
  simp only[k0,k2,k3,k4,Bool.not_true,zqP,Bool.false_eq_true,if_false,if_true,List.nil_append]
  (repeat'(first|simp -implicitDefEqProofs (disch:=first|assumption|omega|(simp only[aE,aM,aF,i64,sa,aD,lm,la,lc,ln];omega)) only[go_sem,simprocAttr,h0]|((first|rw[aQ]|rw[aK]|rw[aI]|rw[aO]|rw[aN]|rw[aH]|rw[aJ]|rw[aP]|skip);split)))
 ·have k0:decide (x.fOp=19)=false:=decide_eq_false c0
  rw[Bz x c0]
  simp only[k0,Bool.not_false,bat]
  have hh:=Ai x.fArgs
  have hal:=Sr x.fArgs
  cases c2:hb x 2<;>cases c4:hb x 4<;>cases c32:hb x 32<;>rw[c2] at a1<;>rw[c4] at a2<;>rw[c32] at a3<;>simp only[Bool.false_eq_true,if_false,if_true,List.nil_append,List.append_nil,List.cons_append]<;>(repeat'(first|simp -implicitDefEqProofs (disch:=first|assumption|omega|(simp only[aE,aM,aF,i64,sa,aD,lm,la,lc,ln];omega)) only[go_sem,simprocAttr,a1,a2,a3,aG,mc,mn,hh,hal]|((first|rw[aQ]|rw[aK]|rw[aI]|rw[aO]|rw[aN]|rw[aH]|rw[aJ]|rw[aP]|skip);split)))
set_option maxRecDepth 8000
set_option maxHeartbeats 4000000
def Tu:List Int→Bool
 |a::_::d::r=>inB a 1 2&& !(decide (a=1)&& !decide (d=0))&&Tu r
 |_=>true
theorem zQa:∀(l:List Int),l.length % 3=0→Tu l=Db l
 |[],_=>rfl
 |[_],h=>by simp at h
 |[_,_],h=>by simp at h
 |a::b::d::r,h=>by
  rw[Tu,Db,zQa r (by simp only[lc] at h;omega)]
abbrev vpT(x:ZC):X:= .vp [I x.fOp,I x.fD,I x.fA,I x.fB,I x.fN,Str x.fS,.d (.r (aG x.fArgs))]
theorem zE(x:ZC)(hl:x.fArgs.length≤1048576):∀(k:Nat) (Bl:List Int) (j:Int),Bl.length≤k→x.fArgs.drop j.toNat=Bl→0≤j→j≤1048580 →
  loopW tab [2,5] mF {env:=upd (upd emp 5 (some (I j))) 2 (some (vpT x)),heap:=emp,fr:=0,next:=0}=if Tu Bl=true then some (.ext 1,{env:=upd emp 2 (some (vpT x)),heap:=emp,fr:=0,next:=0}) else some (.ret,{env:=upd emp 4 (some (B false)),heap:=emp,fr:=0,next:=0})
 |_,[],j,hk,hd,hj,hj2=>by
  unfold loopW
  conv=>lhs;arg 1;unfold mF
  have h1:=cZ hd hj
  simp only[Tu,if_true]
  (repeat'(first|simp -implicitDefEqProofs (disch:=first|assumption|omega|(simp only[aE,aM,aF,i64,sa,aD,lm,la,lc,ln];omega)) only[go_sem,simprocAttr]|((first|rw[aQ]|rw[aK]|rw[aI]|rw[aO]|rw[aN]|rw[aH]|rw[aJ]|rw[aP]|skip);split)))
 |0,_::_,j,hk,hd,hj,hj2=>by simp at hk
 |k+1,a::Bl,j,hk,hd,hj,hj2=>by
  unfold loopW
  conv=>lhs;arg 1;unfold mF
  have h1:=cA hd hj
  have h5:=h1.2.1
  have h2:=gC (fun n=>[DI n]) h1.1
  have hi:=dM a 1 2
  have hlen:=h1.2.2.2.2
  match Bl,h1,hlen with
  |[],h1,hlen =>
   simp only[ln] at hlen
   simp only[Tu,if_true]
   (repeat'(first|simp -implicitDefEqProofs (disch:=first|assumption|omega|(simp only[aE,aM,aF,i64,sa,aD,lm,la,lc,ln];omega)) only[go_sem,simprocAttr,h2]|((first|rw[aQ]|rw[aK]|rw[aI]|rw[aO]|rw[aN]|rw[aH]|rw[aJ]|rw[aP]|skip);split)))
  |[b],h1,hlen =>
   simp only[lc,ln] at hlen
   simp only[Tu,if_true]
   (repeat'(first|simp -implicitDefEqProofs (disch:=first|assumption|omega|(simp only[aE,aM,aF,i64,sa,aD,lm,la,lc,ln];omega)) only[go_sem,simprocAttr,h2]|((first|rw[aQ]|rw[aK]|rw[aI]|rw[aO]|rw[aN]|rw[aH]|rw[aJ]|rw[aP]|skip);split)))
  |b::d::Bl,h1,hlen =>
   simp only[lc] at hlen
   have hd3:x.fArgs.drop (j+3).toNat=Bl:=by
    have:=congrArg (List.drop 2) h1.2.2.1
    rw[List.drop_drop] at this
    simp only[List.drop_succ_cons,List.drop_zero] at this
    rw[←this]
    congr 1;omega
   have ih:=zE x hl k Bl (j+3) (by simp only[lc] at hk;omega) hd3 (by omega) (by omega)
   obtain⟨v,hv,hv2⟩:=zKS x.fArgs (j:=j+2) (by omega) (by omega)
   have hvd:v=d:=by
    have h3:=congrArg (fun l=>l[1]?) h1.2.2.1
    simp only[List.getElem?_drop,List.getElem?_cons_succ,List.getElem?_cons_zero] at h3
    rw[show(j+1).toNat+1=(j+2).toNat by omega,hv2] at h3
    simpa using h3
   subst hvd
   rw[Tu]
   cases c:inB a 1 2<;>rw[c] at hi<;>simp only[bta,bfa]<;>(repeat'(first|simp -implicitDefEqProofs (disch:=first|assumption|omega|(simp only[aE,aM,aF,i64,sa,aD,lm,la,lc,ln];omega)) only[go_sem,simprocAttr,h2,hi,hv,ih]|((first|rw[aQ]|rw[aK]|rw[aI]|rw[aO]|rw[aN]|rw[aH]|rw[aJ]|rw[aP]|skip);split)))
theorem z7D{x:ZC}(h:¬x.fOp=19)(h2:¬x.fOp=22):hb x 32=decide (x.fOp=11∨x.fOp=14):=by
 unfold hb
 generalize x.fOp=op at *
 by_cases h3:1≤op∧op≤28
 ·rcases Lz h3.1 h3.2 with rfl|rfl|rfl|rfl|rfl|rfl|rfl|rfl|rfl|rfl|rfl|rfl|rfl|rfl|rfl|rfl|rfl|rfl|rfl|rfl|rfl|rfl|rfl|rfl|rfl|rfl|rfl|rfl<;>first|decide|exact absurd rfl h|exact absurd rfl h2
 ·have e:decide (op=11∨op=14)=false:=decide_eq_false (by omega)
  rw[e,fL,if_neg h3]
  decide
theorem Jz(x:ZC)(m:Int)(hl:x.fArgs.length≤1048576):call tab yX [x.x,I m]=some (B (eA x&&(!decide (x.fOp=19)||inB x.fN 0 1))):=by
 rw[aY Pf _ rfl,C7,eA]
 have h0:=zE x hl x.fArgs.length x.fArgs 0 (Nat.le_refl _) rfl (by omega) (by omega)
 have a1:=dV x (88,32) (by simp)
 have a2:=dM x.fArgs.length 3 9
 have a3:=dM x.fN 0 1
 have m1:((x.fArgs.length:Int)).tmod 3=((x.fArgs.length % 3:Nat):Int):=by have:=sW (n:=(x.fArgs.length:Int)) (by omega) 3;simpa using this
 by_cases c0:x.fOp=19
 ·have k0:decide (x.fOp=19)=true:=decide_eq_true c0
  rw[if_pos c0]
  simp only[k0,Bool.not_true,Bool.false_or]
  by_cases c3:x.fArgs.length % 3=0
  ·rw[zQa _ c3] at h0
   rw[c3] at m1
   have e:(decide ((x.fArgs.length:Int)=3)||decide ((x.fArgs.length:Int)=6)||decide ((x.fArgs.length:Int)=9))=inB x.fArgs.length 3 9:=by
    rw[Bool.eq_iff_iff];simp[inB];omega
   rw[e]
   cases ct:Db x.fArgs<;>simp only[ct,Bool.false_eq_true,if_true,if_false] at h0
   ·(repeat'(first|simp -implicitDefEqProofs (disch:=first|assumption|omega|(simp only[aE,aM,aF,i64,sa,aD,lm,la,lc,ln];omega)) only[go_sem,simprocAttr,h0]|((first|rw[aQ]|rw[aK]|rw[aI]|rw[aO]|rw[aN]|rw[aH]|rw[aJ]|rw[aP]|skip);split)))
   ·cases c4:inB x.fArgs.length 3 9<;>rw[c4] at a2
    ·(repeat'(first|simp -implicitDefEqProofs (disch:=first|assumption|omega|(simp only[aE,aM,aF,i64,sa,aD,lm,la,lc,ln];omega)) only[go_sem,simprocAttr,h0,m1,a2]|((first|rw[aQ]|rw[aK]|rw[aI]|rw[aO]|rw[aN]|rw[aH]|rw[aJ]|rw[aP]|skip);split)))
    ·cases c5:inB x.fN 0 1<;>rw[c5] at a3<;>(repeat'(first|simp -implicitDefEqProofs (disch:=first|assumption|omega|(simp only[aE,aM,aF,i64,sa,aD,lm,la,lc,ln];omega)) only[go_sem,simprocAttr,h0,m1,a2,a3]|((first|rw[aQ]|rw[aK]|rw[aI]|rw[aO]|rw[aN]|rw[aH]|rw[aJ]|rw[aP]|skip);split)))
  ·have e:(decide ((x.fArgs.length:Int)=3)||decide ((x.fArgs.length:Int)=6)||decide ((x.fArgs.length:Int)=9))=false:=by
    rw[Bool.eq_false_iff];simp;omega
   rw[e]
   have c6:¬((x.fArgs.length % 3:Nat):Int)=0:=by omega
   generalize ((x.fArgs.length % 3:Nat):Int)=q at m1 c6
   cases ct:Tu x.fArgs<;>simp only[ct,Bool.false_eq_true,if_true,if_false] at h0<;>(repeat'(first|simp -implicitDefEqProofs (disch:=first|assumption|omega|(simp only[aE,aM,aF,i64,sa,aD,lm,la,lc,ln];omega)) only[go_sem,simprocAttr,h0,m1]|((first|rw[aQ]|rw[aK]|rw[aI]|rw[aO]|rw[aN]|rw[aH]|rw[aJ]|rw[aP]|skip);split)))
   all_goals simp
 ·have k0:decide (x.fOp=19)=false:=decide_eq_false c0
  rw[if_neg c0]
  simp only[k0,Bool.not_false,Bool.true_or,bat]
  by_cases c1:x.fOp=22
  ·rw[if_pos c1]
   (repeat'(first|simp -implicitDefEqProofs (disch:=first|assumption|omega|(simp only[aE,aM,aF,i64,sa,aD,lm,la,lc,ln];omega)) only[go_sem,simprocAttr]|((first|rw[aQ]|rw[aK]|rw[aI]|rw[aO]|rw[aN]|rw[aH]|rw[aJ]|rw[aP]|skip);split)))
  ·rw[if_neg c1]
   rw[z7D c0 c1] at a1
   by_cases c2:x.fOp=11∨x.fOp=14
   ·rw[if_pos c2]
    rw[decide_eq_true c2] at a1
    (repeat'(first|simp -implicitDefEqProofs (disch:=first|assumption|omega|(simp only[aE,aM,aF,i64,sa,aD,lm,la,lc,ln];omega)) only[go_sem,simprocAttr,a1]|((first|rw[aQ]|rw[aK]|rw[aI]|rw[aO]|rw[aN]|rw[aH]|rw[aJ]|rw[aP]|skip);split)))
   ·rw[if_neg c2]
    rw[decide_eq_false c2] at a1
    (repeat'(first|simp -implicitDefEqProofs (disch:=first|assumption|omega|(simp only[aE,aM,aF,i64,sa,aD,lm,la,lc,ln];omega)) only[go_sem,simprocAttr,a1]|((first|rw[aQ]|rw[aK]|rw[aI]|rw[aO]|rw[aN]|rw[aH]|rw[aJ]|rw[aP]|skip);split)))
theorem zKq(op:Int):decide (oF op=⟨#[]⟩)= !inB op 1 28:=by
 by_cases h:1≤op∧op≤28
 ·have e:inB op 1 28=true:=by simp[inB,h.1,h.2]
  rw[e]
  rcases Lz h.1 h.2 with rfl|rfl|rfl|rfl|rfl|rfl|rfl|rfl|rfl|rfl|rfl|rfl|rfl|rfl|rfl|rfl|rfl|rfl|rfl|rfl|rfl|rfl|rfl|rfl|rfl|rfl|rfl|rfl<;>decide
 ·have e:inB op 1 28=false:=by simp only[inB,←Bool.decide_and];exact decide_eq_false h
  rw[e,oF,if_neg h]
  decide
theorem It(r m:Int)(hm:i64 (m-1))(k:Nat)(h:Heap)(fr:Nat)(h1:1≤fr)(hk:h (0,k)=some (.s 1 [[DI m]]))(hh:cB fr h=h):evCW tab jN [I r,.ptr (0,k) [] 0 0] h fr=some (B (!inB r 0 (m-1)),h):=by
 rw[aR Kq _ _ _ rfl,zJ]
 (repeat'(first|simp -implicitDefEqProofs (disch:=first|assumption|omega|(simp only[aE,aM,aF,i64,sa,aD,lm,la,lc,ln];omega)) only[go_sem,simprocAttr,dM,hk,hh]|((first|rw[aQ]|rw[aK]|rw[aI]|rw[aO]|rw[aN]|rw[aH]|rw[aJ]|rw[aP]|skip);split)))
theorem zqk(k:Nat)(h:Heap)(x:Option D):cB 2 (upd h (0,k) x)=upd (cB 2 h) (0,k) x:=zjY 1 k h x
theorem zWP(k:Nat)(h:Heap)(x:Option D):cB 3 (upd h (0,k) x)=upd (cB 3 h) (0,k) x:=zjY 2 k h x
theorem Ns(x:ZC)(m:Int)(hl:x.fArgs.length≤1048576)(hm:i64 (m-1)):call tab Di [x.x,I m]=some (B (Nq x m)):=by
 rw[aY Ta _ rfl,Eg,Nq]
 have a0:=Fp x.fOp
 have e0:=zKq x.fOp
 have a1:=Oo x.fN
 have a2:=Jz x m hl
 have b1:=dV x (68,1) (by simp)
 have b2:=dV x (65,2) (by simp)
 have b4:=dV x (66,4) (by simp)
 have b8:=dV x (78,8) (by simp)
 have b16:=dV x (83,16) (by simp)
 have s1:=m7 x
 have s2:=oM x
 have hal:=Sr (a8 x)
 cases c1:inB x.fOp 1 28<;>rw[c1] at e0
 ·(repeat'(first|simp -implicitDefEqProofs (disch:=first|assumption|omega|(simp only[aE,aM,aF,i64,sa,aD,lm,la,lc,ln];omega)) only[go_sem,simprocAttr,a0,e0]|((first|rw[aQ]|rw[aK]|rw[aI]|rw[aO]|rw[aN]|rw[aH]|rw[aJ]|rw[aP]|skip);split)))
 cases c5:zQZ x.fN<;>rw[c5] at a1
 ·(repeat'(first|simp -implicitDefEqProofs (disch:=first|assumption|omega|(simp only[aE,aM,aF,i64,sa,aD,lm,la,lc,ln];omega)) only[go_sem,simprocAttr,a0,e0,a1]|((first|rw[aQ]|rw[aK]|rw[aI]|rw[aO]|rw[aN]|rw[aH]|rw[aJ]|rw[aP]|skip);split)))
  all_goals simp
 cases c2:(eA x&&(!decide (x.fOp=19)||inB x.fN 0 1))<;>rw[c2] at a2
 ·have e:(true&&eA x&&Aa x m&&(!decide (x.fOp=19)||inB x.fN 0 1))=false:=by
   revert c2;cases eA x<;>cases Aa x m<;>cases (!decide (x.fOp=19)||inB x.fN 0 1)<;>simp
  rw[e]
  (repeat'(first|simp -implicitDefEqProofs (disch:=first|assumption|omega|(simp only[aE,aM,aF,i64,sa,aD,lm,la,lc,ln];omega)) only[go_sem,simprocAttr,a0,e0,a1,a2]|((first|rw[aQ]|rw[aK]|rw[aI]|rw[aO]|rw[aN]|rw[aH]|rw[aJ]|rw[aP]|skip);split)))
 ·have e:(true&&eA x&&Aa x m&&(!decide (x.fOp=19)||inB x.fN 0 1))=Aa x m:=by
   rw[bE] at c2
   rw[c2.1,c2.2];simp
  rw[e]
  have h0:=fun (j k:Nat) (h:Heap) (hk:h (0,k)=some (.s 1 [[DI m]])) (hj:h (0,j)=some (.s 1 (aG (aZ x++a8 x)))) (h1:cB 1 h=h) (h2:cB 2 h=h) (h3:cB 3 h=h)=>rR jN (fun r=> !inB r 0 (m-1)) h 1 h1 h2 (aZ x++a8 x) (by simp;omega) k j (by omega) hj (fun r _=>It r m hm k h 3 (by omega) hk h3)
  rw[zV7,←Aa] at h0
  simp only[aG,List.map_append] at h0
  have h1:=h0 2432 32 (upd (upd (upd (upd (upd (upd emp (0,32) (some (.s 1 [[DI m]]))) (0,2336) (some (.s 1 (aG (aZ x))))) (0,2400) (some (.s 1 (aG (a8 x))))) (0,2336) none) (0,2400) none) (0,2432) (some (.s 1 (aG (aZ x)++aG (a8 x))))) (by simp[upd]) (by simp[upd]) (by simp only[Ry,lC]) (by simp only[zqk,lC]) (by simp only[zWP,lC])
  simp only[aG] at h1
  clear h0
  (repeat'(first|simp -implicitDefEqProofs (disch:=first|assumption|omega|(simp only[aE,aM,aF,i64,sa,aD,lm,la,lc,ln];omega)) only[go_sem,simprocAttr,a0,e0,a1,a2,b1,b2,b4,b8,b16,qV x,wP x hl,hal,aG,h1]|((first|rw[aQ]|rw[aK]|rw[aI]|rw[aO]|rw[aN]|rw[aH]|rw[aJ]|rw[aP]|skip);split)))
  all_goals(clear h1;simp_all)
set_option maxRecDepth 8000
set_option maxHeartbeats 4000000
theorem Er(t:ZC)(m:Int)(k:Nat)(h:Heap)(fr:Nat)(h1:1≤fr)(hk:h (0,k)=some (.s 1 [[DI m]]))(hh:cB fr h=h):evCW tab nL [t.x,.ptr (0,k) [] 0 0] h fr=some (B (B6 m t),h):=by
 rw[aR Hd _ _ _ rfl,vD,B6]
 (repeat'(first|simp -implicitDefEqProofs (disch:=first|assumption|omega|(simp only[aE,aM,aF,i64,sa,aD,lm,la,lc,ln];omega)) only[go_sem,simprocAttr,hk,hh]|((first|rw[aQ]|rw[aK]|rw[aI]|rw[aO]|rw[aN]|rw[aH]|rw[aJ]|rw[aP]|skip);split)))
theorem yJ(v0:List ZC)(m:Int)(hl:v0.length≤1048576):call tab lQ [.d (.r (v0.map ZC.r)),I m]=some (I (kO v0 m)):=by
 rw[aY Mk _ rfl,zU,kO]
 have h0:=vS nL (B6 m) (upd emp (0,0) (some (.s 1 [[DI m]]))) 1 (by simp only[Ry,lC]) v0 (by omega) 0 (by omega) (fun t _=>Er t m 0 _ 2 (by omega) (by simp[upd]) (by simp only[zqk,lC]))
 (repeat'(first|simp -implicitDefEqProofs (disch:=first|assumption|omega|(simp only[aE,aM,aF,i64,sa,aD,lm,la,lc,ln];omega)) only[go_sem,simprocAttr,h0]|((first|rw[aQ]|rw[aK]|rw[aI]|rw[aO]|rw[aN]|rw[aH]|rw[aJ]|rw[aP]|skip);split)))
theorem Rt(op:Int):call tab Ha [I op]=some (B (decide (op=12)||decide (op=9)||decide (op=28))):=by
 rw[aY Xh _ rfl,Hs]
 (repeat'(first|simp -implicitDefEqProofs (disch:=first|assumption|omega|(simp only[aE,aM,aF,i64,sa,aD,lm,la,lc,ln];omega)) only[go_sem,simprocAttr]|((first|rw[aQ]|rw[aK]|rw[aI]|rw[aO]|rw[aN]|rw[aH]|rw[aJ]|rw[aP]|skip);split)))
theorem Ac(u:ZD)(hs:u.sm)(hr:i64 (u.fRegs-1))(hr2:u.fCode.length≤1048576):∀(Bl:List ZC) (j:Int),u.fCode.drop j.toNat=Bl→0≤j →
  loopW tab [1,26,27,28] mJ {env:=upd (upd (upd (upd emp 28 (some (I j))) 27 (some (I (u.fCode.length:Int)))) 26 (some (.d (.r (u.fCode.map ZC.r))))) 1 (some (vpU u)),heap:=emp,fr:=0,next:=0}=if lO u j Bl=true then some (.ext 0,{env:=upd emp 1 (some (vpU u)),heap:=emp,fr:=0,next:=0}) else some (.ret,{env:=upd emp 2 (some (B false)),heap:=emp,fr:=0,next:=0})
 |[],j,hd,hj=>by
  unfold loopW
  conv=>lhs;arg 1;unfold mJ
  have h1:=cZ hd hj
  (repeat'(first|simp -implicitDefEqProofs (disch:=first|assumption|omega|(simp only[aE,aM,aF,i64,sa,aD,lm,la,lc,ln];omega)) only[go_sem,simprocAttr,lO]|((first|rw[aQ]|rw[aK]|rw[aI]|rw[aO]|rw[aN]|rw[aH]|rw[aJ]|rw[aP]|skip);split)))
 |t::Bl,j,hd,hj=>by
  unfold loopW
  conv=>lhs;arg 1;unfold mJ
  have h1:=cA hd hj
  have h5:=h1.2.1
  have h2:=gC ZC.r h1.1
  simp only[ZC.r] at h2
  have hsx:=(hs.2.2 t h1.2.2.2.1).2
  have ih:=Ac u hs hr hr2 Bl (j+1) h1.2.2.1 (by omega)
  have a1:=Ns t u.fRegs hsx hr
  have a2:=yJ u.fCode t.fN hr2
  have a3:=dM t.fN 0 900
  rw[lO,Az]
  cases c1:Nq t u.fRegs<;>rw[c1] at a1
  ·(repeat'(first|simp -implicitDefEqProofs (disch:=first|assumption|omega|(simp only[aE,aM,aF,i64,sa,aD,lm,la,lc,ln];omega)) only[go_sem,simprocAttr,h2,a1]|((first|rw[aQ]|rw[aK]|rw[aI]|rw[aO]|rw[aN]|rw[aH]|rw[aJ]|rw[aP]|skip);split)))
  ·cases c2:inB t.fN 0 900<;>rw[c2] at a3
   ·(repeat'(first|simp -implicitDefEqProofs (disch:=first|assumption|omega|(simp only[aE,aM,aF,i64,sa,aD,lm,la,lc,ln];omega)) only[go_sem,simprocAttr,h2,a1,a2,a3,ih]|((first|rw[aQ]|rw[aK]|rw[aI]|rw[aO]|rw[aN]|rw[aH]|rw[aJ]|rw[aP]|skip);split)))
    all_goals(clear ih;simp_all)
    all_goals omega
   ·(repeat'(first|simp -implicitDefEqProofs (disch:=first|assumption|omega|(simp only[aE,aM,aF,i64,sa,aD,lm,la,lc,ln];omega)) only[go_sem,simprocAttr,h2,a1,a2,a3,ih]|((first|rw[aQ]|rw[aK]|rw[aI]|rw[aO]|rw[aN]|rw[aH]|rw[aJ]|rw[aP]|skip);split)))
    all_goals(clear ih;simp_all)
    all_goals omega
theorem n5(u:ZD)(hs:u.sm):call tab m6 [u.x]=some (B (sX u)):=by
 rw[aY Nc _ rfl,Ch,sX]
 have b1:=dM u.fRegs 0 250
 have b3:=dM u.fParams 0 (if 4<u.fRegs then 4 else u.fRegs)
 have b5:(if u.fRegs<4 then u.fRegs else 4)=(if 4<u.fRegs then(4:Int) else u.fRegs):=by split<;>split<;>omega
 have b4:=dM u.fCode.length 1 900
 have hl:=hs.2.1
 cases c1:inB u.fRegs 0 250<;>rw[c1] at b1
 ·(repeat'(first|simp -implicitDefEqProofs (disch:=first|assumption|omega|(simp only[aE,aM,aF,i64,sa,aD,lm,la,lc,ln];omega)) only[go_sem,simprocAttr,b1]|((first|rw[aQ]|rw[aK]|rw[aI]|rw[aO]|rw[aN]|rw[aH]|rw[aJ]|rw[aP]|skip);split)))
 cases c2:inB u.fParams 0 (if 4<u.fRegs then 4 else u.fRegs)<;>rw[c2] at b3
 ·generalize (if 4<u.fRegs then(4:Int) else u.fRegs)=mn at *
  (repeat'(first|simp -implicitDefEqProofs (disch:=first|assumption|omega|(simp only[aE,aM,aF,i64,sa,aD,lm,la,lc,ln];omega)) only[go_sem,simprocAttr,b1,b5,b3]|((first|rw[aQ]|rw[aK]|rw[aI]|rw[aO]|rw[aN]|rw[aH]|rw[aJ]|rw[aP]|skip);split)))
 cases c3:inB u.fCode.length 1 900<;>rw[c3] at b4
 ·generalize (if 4<u.fRegs then(4:Int) else u.fRegs)=mn at *
  (repeat'(first|simp -implicitDefEqProofs (disch:=first|assumption|omega|(simp only[aE,aM,aF,i64,sa,aD,lm,la,lc,ln];omega)) only[go_sem,simprocAttr,b1,b5,b3,b4]|((first|rw[aQ]|rw[aK]|rw[aI]|rw[aO]|rw[aN]|rw[aH]|rw[aJ]|rw[aP]|skip);split)))
 have g1:0≤u.fRegs∧u.fRegs≤250:=by simpa[inB] using c1
 have g3:1≤(u.fCode.length:Int)∧(u.fCode.length:Int)≤900:=by simpa[inB] using c3
 have h0:=Ac u hs ⟨by omega,by omega⟩ hl u.fCode 0 rfl (by omega)
 obtain⟨t,ht,ht2,_⟩:=Xi (l:=u.fCode) (by omega)
 have ht3:=Rt t.fOp
 simp only[ZC.r] at ht2
 simp only[zjJ,ht]
 generalize (if 4<u.fRegs then(4:Int) else u.fRegs)=mn at *
 cases c4:lO u 0 u.fCode<;>simp only[c4,Bool.false_eq_true,if_true,if_false] at h0
 ·(repeat'(first|simp -implicitDefEqProofs (disch:=first|assumption|omega|(simp only[aE,aM,aF,i64,sa,aD,lm,la,lc,ln];omega)) only[go_sem,simprocAttr,b1,b5,b3,b4,h0]|((first|rw[aQ]|rw[aK]|rw[aI]|rw[aO]|rw[aN]|rw[aH]|rw[aJ]|rw[aP]|skip);split)))
 ·(repeat'(first|simp -implicitDefEqProofs (disch:=first|assumption|omega|(simp only[aE,aM,aF,i64,sa,aD,lm,la,lc,ln];omega)) only[go_sem,simprocAttr,b1,b5,b3,b4,h0,ht2,ht3]|((first|rw[aQ]|rw[aK]|rw[aI]|rw[aO]|rw[aN]|rw[aH]|rw[aJ]|rw[aP]|skip);split)))
end Go.Ev.G
