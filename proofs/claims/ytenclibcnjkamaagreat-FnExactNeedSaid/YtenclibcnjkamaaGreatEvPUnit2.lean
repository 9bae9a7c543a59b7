import Derived.Test.YtenclibcnjkamaaGreatEvQUnit
import Derived.Test.YtenclibcnjkamaaGreatEvPMach
set_option linter.all false
namespace Go.Ev.G
set_option maxRecDepth 8000
set_option maxHeartbeats 4000000
def zKz:List Int:=[0,9,3,7,7,7,7,7,8,8,10,49,2,2,48,3,6,3,2,45,3,6,39,1,17,2,6,6,2]
def Jv(op:Int):Int:=if 1≤op∧op≤28 then(zKz[op.toNat]?).getD 0 else 0
theorem Kb{op:Int}(h:1≤op)(h2:op≤28):op=1∨op=2∨op=3∨op=4∨op=5∨op=6∨op=7∨op=8∨op=9∨op=10∨op=11∨op=12∨op=13∨op=14∨op=15∨op=16∨op=17∨op=18∨op=19∨op=20∨op=21∨op=22∨op=23∨op=24∨op=25∨op=26∨op=27∨op=28:=by omega
theorem dH(op:Int):call tab nG [I op]=some (I (Jv op)):=by
 rw[aS I5 _ rfl,x7]
 have h3:=dP op 1 28
 by_cases h:1≤op∧op≤28
 ·obtain⟨h1,h2⟩:=h
  have h4:inB op 1 28=true:=by simp[inB,h1,h2]
  rw[h4] at h3
  rw[Jv,if_pos ⟨h1,h2⟩]
  rcases Kb h1 h2 with rfl|rfl|rfl|rfl|rfl|rfl|rfl|rfl|rfl|rfl|rfl|rfl|rfl|rfl|rfl|rfl|rfl|rfl|rfl|rfl|rfl|rfl|rfl|rfl|rfl|rfl|rfl|rfl<;>simp -implicitDefEqProofs (disch:=first|assumption|omega|(simp only[aI,aP,aH,i64,sa,aC,lm,la,lc,ln];omega)) only[go_sem,simprocAttr,h3,zKz]
 ·have h4:inB op 1 28=false:=by simp only[inB,←Bool.decide_and];exact decide_eq_false h
  rw[h4] at h3
  rw[Jv,if_neg h]
  simp -implicitDefEqProofs (disch:=first|assumption|omega|(simp only[aI,aP,aH,i64,sa,aC,lm,la,lc,ln];omega)) only[go_sem,simprocAttr,h3]
def hb(x:ZA)(m:Int):Bool:=zVt (Jv x.fOp) m
theorem Hj(x:ZA)(m:Int):decide (bits .and .i64 (Jv x.fOp) m=0)= !hb x m:=by simp[hb,zVt]
def bP(x:ZA):List Int:=(if hb x 1=true then [x.fD] else [])++(if x.fOp=19 then [x.fB] else [])
theorem n7(x:ZA):call tab oL [x.x]=some (.d (.s 1 (aK (bP x)))):=by
 rw[aS Ql _ rfl,C8,bP]
 have e:=Hj x 1
 (repeat'(first|simp -implicitDefEqProofs (disch:=first|assumption|omega|(simp only[aI,aP,aH,i64,sa,aC,lm,la,lc,ln];omega)) only[go_sem,simprocAttr,dH,e,mc,mn]|((first|rw[aM]|rw[aG]|rw[aD]|rw[aL]|rw[aO]|rw[aE]|rw[aF]|rw[aN]|skip);split)))
def zWe(args:List Int)(i:Nat):Bool:=decide (i % 3=1)||(decide (i % 3=2)&&decide (args[i-2]? = some 2))
def rZ(x:ZA):Nat→List Int→List Int
 |_,[]=>[]
 |q,y::ys=>(if (!decide (x.fOp=19)||zWe x.fArgs q)=true then [y] else [])++rZ x (q+1) ys
theorem tR(x:ZA)(hl:x.fArgs.length≤1048576)(h32:hb x 32=true):∀(Bl:List Int) (j:Nat) (A:List Int),x.fArgs.drop j=Bl→A.length≤j+2 →
  loopW tab [1,3,4,5] iD {env:=upd (upd (upd (upd emp 5 (some (I (j:Int)))) 4 (some (I (Jv x.fOp)))) 3 (some (.ref (0,0) []))) 1 (some (.vp [I x.fOp,I x.fD,I x.fA,I x.fB,I x.fN,Str x.fS,.d (.r (aK x.fArgs))])),heap:=upd emp (0,0) (some (.s 1 (aK A))),fr:=0,next:=1}=some (.ext 0,{env:=upd emp 3 (some (.ref (0,0) [])),heap:=upd emp (0,0) (some (.s 1 (aK (A++rZ x j Bl)))),fr:=0,next:=1})
 |[],j,A,hd,hA=>by
  have hd2:x.fArgs.drop ((j:Int)).toNat=[]:=by simpa using hd
  have hj:(0:Int)≤j:=by omega
  unfold loopW
  conv=>lhs;arg 1;unfold iD
  have h1:=cN hd2 hj
  (repeat'(first|simp -implicitDefEqProofs (disch:=first|assumption|omega|(simp only[aI,aP,aH,i64,sa,aC,lm,la,lc,ln];omega)) only[go_sem,simprocAttr,rZ,List.append_nil]|((first|rw[aM]|rw[aG]|rw[aD]|rw[aL]|rw[aO]|rw[aE]|rw[aF]|rw[aN]|skip);split)))
 |y::Bl,j,A,hd,hA=>by
  have hd2:x.fArgs.drop ((j:Int)).toNat=y::Bl:=by simpa using hd
  have hj:(0:Int)≤j:=by omega
  unfold loopW
  conv=>lhs;arg 1;unfold iD
  have h1:=bL hd2 hj
  have h5:=h1.2.1
  have h2:=eM (fun n=>[DI n]) h1.1
  simp only[Int.toNat_natCast] at h2
  have h3:x.fArgs.drop (j+1)=Bl:=by have:=h1.2.2.1;rwa [show((j:Int)+1).toNat=j+1 by omega] at this
  have e:=Hj x 32
  have m1:((j:Int)).tmod 3=((j % 3:Nat):Int):=by have:=Ek (n:=(j:Int)) (by omega) 3;simpa using this
  have ih1:=tR x hl h32 Bl (j+1) (A++[y]) h3 (by simp;omega)
  have ih2:=tR x hl h32 Bl (j+1) A h3 (by omega)
  rw[show((j+1:Nat):Int)=(j:Int)+1 by omega] at ih1 ih2
  rw[rZ,←List.append_assoc]
  simp only[List.map_append,mc,mn] at ih1 ih2 ⊢
  by_cases c0:x.fOp=19
  ·have k0:decide (x.fOp=19)=true:=decide_eq_true c0
   simp only[k0,Bool.not_true,Bool.false_or,zWe]
   rcases (by omega:j % 3=0∨j % 3=1∨j % 3=2) with c1|c1|c1
   ·simp only[c1] at m1 ⊢
    (repeat'(first|simp -implicitDefEqProofs (disch:=first|assumption|omega|(simp only[aI,aP,aH,i64,sa,aC,lm,la,lc,ln];omega)) only[go_sem,simprocAttr,h2,e,h32,m1,ih2]|((first|rw[aM]|rw[aG]|rw[aD]|rw[aL]|rw[aO]|rw[aE]|rw[aF]|rw[aN]|skip);split)))
   ·simp only[c1] at m1 ⊢
    (repeat'(first|simp -implicitDefEqProofs (disch:=first|assumption|omega|(simp only[aI,aP,aH,i64,sa,aC,lm,la,lc,ln];omega)) only[go_sem,simprocAttr,h2,e,h32,m1,ih1]|((first|rw[aM]|rw[aG]|rw[aD]|rw[aL]|rw[aO]|rw[aE]|rw[aF]|rw[aN]|skip);split)))
   ·simp only[c1] at m1 ⊢
    have hj2:j-2<x.fArgs.length:=by omega
    obtain⟨v,hv,hv2⟩:=zQO x.fArgs (j:=(j:Int)-2) (by omega) (by omega)
    rw[show((j:Int)-2).toNat=j-2 by omega] at hv2
    by_cases c2:v=2
    ·subst c2
     simp only[hv2]
     (repeat'(first|simp -implicitDefEqProofs (disch:=first|assumption|omega|(simp only[aI,aP,aH,i64,sa,aC,lm,la,lc,ln];omega)) only[go_sem,simprocAttr,h2,e,h32,m1,hv,ih1]|((first|rw[aM]|rw[aG]|rw[aD]|rw[aL]|rw[aO]|rw[aE]|rw[aF]|rw[aN]|skip);split)))
    ·have:¬(some v=some (2:Int)):=by simpa using c2
     simp only[hv2,this]
     (repeat'(first|simp -implicitDefEqProofs (disch:=first|assumption|omega|(simp only[aI,aP,aH,i64,sa,aC,lm,la,lc,ln];omega)) only[go_sem,simprocAttr,h2,e,h32,m1,hv,c2,ih2]|((first|rw[aM]|rw[aG]|rw[aD]|rw[aL]|rw[aO]|rw[aE]|rw[aF]|rw[aN]|skip);split)))
  ·have k0:decide (x.fOp=19)=false:=decide_eq_false c0
   simp only[k0,Bool.not_false,Bool.true_or,if_true]
   (repeat'(first|simp -implicitDefEqProofs (disch:=first|assumption|omega|(simp only[aI,aP,aH,i64,sa,aC,lm,la,lc,ln];omega)) only[go_sem,simprocAttr,h2,e,h32,ih1]|((first|rw[aM]|rw[aG]|rw[aD]|rw[aL]|rw[aO]|rw[aE]|rw[aF]|rw[aN]|skip);split)))
def cD(x:ZA):List Int:=(if hb x 2=true then [x.fA] else [])++((if (hb x 4&& !decide (x.fOp=19))=true then [x.fB] else [])++(if hb x 32=true then rZ x 0 x.fArgs else []))
theorem Jm(x:ZA)(hl:x.fArgs.length≤1048576)(h32:¬hb x 32=true)(w:List (List D)) :
  loopW tab [1,3,4,5] iD {env:=upd (upd (upd (upd emp 5 (some (I 0))) 4 (some (I (Jv x.fOp)))) 3 (some (.ref (0,0) []))) 1 (some (.vp [I x.fOp,I x.fD,I x.fA,I x.fB,I x.fN,Str x.fS,.d (.r (aK x.fArgs))])),heap:=upd emp (0,0) (some (.s 1 w)),fr:=0,next:=1}=some (.ext 0,{env:=upd emp 3 (some (.ref (0,0) [])),heap:=upd emp (0,0) (some (.s 1 w)),fr:=0,next:=1}):=by
 unfold loopW
 conv=>lhs;arg 1;unfold iD
 have e:=Hj x 32
 (repeat'(first|simp -implicitDefEqProofs (disch:=first|assumption|omega|(simp only[aI,aP,aH,i64,sa,aC,lm,la,lc,ln];omega)) only[go_sem,simprocAttr,e]|((first|rw[aM]|rw[aG]|rw[aD]|rw[aL]|rw[aO]|rw[aE]|rw[aF]|rw[aN]|skip);split)))
theorem tQ(x:ZA)(hl:x.fArgs.length≤1048576):call tab sB [x.x]=some (.d (.s 1 (aK (cD x)))):=by
 rw[aS Sd _ rfl,C3,cD]
 have e2:=Hj x 2
 have e4:=Hj x 4
 have e32:=Hj x 32
 by_cases c:hb x 32=true
 ·have ih:=fun A hA=>tR x hl c x.fArgs 0 A rfl hA
  simp only[Int.cast_ofNat_Int,aK,List.map_append] at ih
  have i0:=ih [] (by simp)
  have i1:=fun a=>ih [a] (by simp)
  have i2:=fun a b=>ih [a,b] (by simp)
  simp only[mc,mn,List.nil_append,List.cons_append] at i0 i1 i2
  simp only[c,if_true]
  cases c2:hb x 2<;>cases c4:hb x 4<;>simp only[c2,c4,bfa,bta,Bool.false_eq_true,if_true,if_false] at e2 e4 ⊢
  ·(repeat'(first|simp -implicitDefEqProofs (disch:=first|assumption|omega|(simp only[aI,aP,aH,i64,sa,aC,lm,la,lc,ln];omega)) only[go_sem,simprocAttr,dH,e2,e4,c,i0,mc,mn,aK]|((first|rw[aM]|rw[aG]|rw[aD]|rw[aL]|rw[aO]|rw[aE]|rw[aF]|rw[aN]|skip);split)))
  ·by_cases c5:x.fOp=19
   ·(repeat'(first|simp -implicitDefEqProofs (disch:=first|assumption|omega|(simp only[aI,aP,aH,i64,sa,aC,lm,la,lc,ln];omega)) only[go_sem,simprocAttr,dH,e2,e4,c,i0,mc,mn,aK]|((first|rw[aM]|rw[aG]|rw[aD]|rw[aL]|rw[aO]|rw[aE]|rw[aF]|rw[aN]|skip);split)))
   ·(repeat'(first|simp -implicitDefEqProofs (disch:=first|assumption|omega|(simp only[aI,aP,aH,i64,sa,aC,lm,la,lc,ln];omega)) only[go_sem,simprocAttr,dH,e2,e4,c,i1,mc,mn,aK]|((first|rw[aM]|rw[aG]|rw[aD]|rw[aL]|rw[aO]|rw[aE]|rw[aF]|rw[aN]|skip);split)))
  ·(repeat'(first|simp -implicitDefEqProofs (disch:=first|assumption|omega|(simp only[aI,aP,aH,i64,sa,aC,lm,la,lc,ln];omega)) only[go_sem,simprocAttr,dH,e2,e4,c,i1,mc,mn,aK]|((first|rw[aM]|rw[aG]|rw[aD]|rw[aL]|rw[aO]|rw[aE]|rw[aF]|rw[aN]|skip);split)))
  ·by_cases c5:x.fOp=19
   ·(repeat'(first|simp -implicitDefEqProofs (disch:=first|assumption|omega|(simp only[aI,aP,aH,i64,sa,aC,lm,la,lc,ln];omega)) only[go_sem,simprocAttr,dH,e2,e4,c,i1,mc,mn,aK]|((first|rw[aM]|rw[aG]|rw[aD]|rw[aL]|rw[aO]|rw[aE]|rw[aF]|rw[aN]|skip);split)))
   ·(repeat'(first|simp -implicitDefEqProofs (disch:=first|assumption|omega|(simp only[aI,aP,aH,i64,sa,aC,lm,la,lc,ln];omega)) only[go_sem,simprocAttr,dH,e2,e4,c,i2,mc,mn,aK]|((first|rw[aM]|rw[aG]|rw[aD]|rw[aL]|rw[aO]|rw[aE]|rw[aF]|rw[aN]|skip);split)))
 ·have i0:=Jm x hl c
  simp only[c,Bool.false_eq_true,if_false,List.append_nil]
  cases c2:hb x 2<;>cases c4:hb x 4<;>simp only[c2,c4,bfa,bta,Bool.false_eq_true,if_true,if_false] at e2 e4 ⊢ <;> (repeat'(first|simp -implicitDefEqProofs (disch:=first|assumption|omega|(simp only[aI,aP,aH,i64,sa,aC,lm,la,lc,ln];omega)) only[go_sem,simprocAttr,dH,e2,e4,i0,mc,mn,aK]|((first|rw[aM]|rw[aG]|rw[aD]|rw[aL]|rw[aO]|rw[aE]|rw[aF]|rw[aN]|skip);split)))
def wN(x:ZA)(m:Int):Bool:=(bP x++cD x).all fun r=>inB r 0 (m-1)
theorem uL(m:Int)(hm:i64 (m-1))(v5:List Int)(hl:v5.length≤2097152):∀(Bl:List Int) (j:Int),v5.drop j.toNat=Bl→0≤j →
  loopW tab [1,5,6] jU {env:=upd (upd (upd emp 6 (some (I j))) 5 (some (.ref (0,0) []))) 1 (some (I m)),heap:=upd emp (0,0) (some (.s 1 (aK v5))),fr:=0,next:=1}=if (Bl.all fun r=>inB r 0 (m-1))=true then some (.ext 0,{env:=emp,heap:=emp,fr:=0,next:=0}) else some (.ret,{env:=upd emp 4 (some (B false)),heap:=emp,fr:=0,next:=0})
 |[],j,hd,hj=>by
  unfold loopW
  conv=>lhs;arg 1;unfold jU
  have h1:=cN hd hj
  (repeat'(first|simp -implicitDefEqProofs (disch:=first|assumption|omega|(simp only[aI,aP,aH,i64,sa,aC,lm,la,lc,ln];omega)) only[go_sem,simprocAttr]|((first|rw[aM]|rw[aG]|rw[aD]|rw[aL]|rw[aO]|rw[aE]|rw[aF]|rw[aN]|skip);split)))
 |y::Bl,j,hd,hj=>by
  unfold loopW
  conv=>lhs;arg 1;unfold jU
  have h1:=bL hd hj
  have h5:=h1.2.1
  have h2:=eM (fun n=>[DI n]) h1.1
  have ih:=uL m hm v5 hl Bl (j+1) h1.2.2.1 (by omega)
  have hi:=dP y 0 (m-1)
  rw[List.all_cons]
  cases c:inB y 0 (m-1)<;>rw[c] at hi<;>(repeat'(first|simp -implicitDefEqProofs (disch:=first|assumption|omega|(simp only[aI,aP,aH,i64,sa,aC,lm,la,lc,ln];omega)) only[go_sem,simprocAttr,h2,hi,ih]|((first|rw[aM]|rw[aG]|rw[aD]|rw[aL]|rw[aO]|rw[aE]|rw[aF]|rw[aN]|skip);split)))
theorem lB(x:ZA):(bP x).length≤2:=by
 unfold bP
 split<;>split<;>simp
theorem Ke(x:ZA):∀(q:Nat) (l:List Int),(rZ x q l).length≤l.length
 |_,[]=>by simp[rZ]
 |q,y::ys=>by
  have:=Ke x (q+1) ys
  rw[rZ]
  split<;>simp<;>omega
theorem mL(x:ZA):(cD x).length≤x.fArgs.length+2:=by
 unfold cD
 have:=Ke x 0 x.fArgs
 split<;>split<;>split<;>simp<;>omega
theorem Ob(l:List Int):((l.map fun n=>[DI n]).all fun el=>el.length==1)=true:=by simp
theorem D7(x:ZA)(m:Int)(hl:x.fArgs.length≤1048576)(hm:i64 (m-1)):call tab s7 [x.x,I m]=some (B (wN x m)):=by
 rw[aS E6 _ rfl,wQ,wN]
 have h1:=lB x
 have h2:=mL x
 have h0:=uL m hm (bP x++cD x) (by simp;omega) (bP x++cD x) 0 rfl (by omega)
 simp only[aK,List.map_append] at h0
 cases c:(bP x++cD x).all fun r=>inB r 0 (m-1)<;>simp only[c,Bool.false_eq_true,if_true,if_false] at h0<;>(repeat'(first|simp -implicitDefEqProofs (disch:=first|assumption|omega|(simp only[aI,aP,aH,i64,sa,aC,lm,la,lc,ln];omega)) only[go_sem,simprocAttr,n7 x,tQ x hl,h0,aK,Ob]|((first|rw[aM]|rw[aG]|rw[aD]|rw[aL]|rw[aO]|rw[aE]|rw[aF]|rw[aN]|skip);split)))
def zY:List Int→Bool
 |[]=>true
 |[a]=>inB a 1 2
 |[a,_]=>inB a 1 2
 |a::_::d::r=>inB a 1 2&& !(decide (a=1)&& !decide (d=0))&&zY r
theorem uS(x:ZA)(hl:x.fArgs.length≤1048576):∀(k:Nat) (Bl:List Int) (j:Int),Bl.length≤k→x.fArgs.drop j.toNat=Bl→0≤j→j≤1048580 →
  loopW tab [1,3,4] jH {env:=upd (upd (upd emp 4 (some (I j))) 3 (some (I (x.fArgs.length:Int)))) 1 (some (.vp [I x.fOp,I x.fD,I x.fA,I x.fB,I x.fN,Str x.fS,.d (.r (aK x.fArgs))])),heap:=emp,fr:=0,next:=0}=if zY Bl=true then some (.ext 1,{env:=upd emp 3 (some (I (x.fArgs.length:Int))),heap:=emp,fr:=0,next:=0}) else some (.ret,{env:=upd emp 2 (some (B false)),heap:=emp,fr:=0,next:=0})
 |_,[],j,hk,hd,hj,hj2=>by
  unfold loopW
  conv=>lhs;arg 1;unfold jH
  have h1:=cN hd hj
  (repeat'(first|simp -implicitDefEqProofs (disch:=first|assumption|omega|(simp only[aI,aP,aH,i64,sa,aC,lm,la,lc,ln];omega)) only[go_sem,simprocAttr,zY]|((first|rw[aM]|rw[aG]|rw[aD]|rw[aL]|rw[aO]|rw[aE]|rw[aF]|rw[aN]|skip);split)))
 |0,_::_,j,hk,hd,hj,hj2=>by simp at hk
 |k+1,a::Bl,j,hk,hd,hj,hj2=>by
  unfold loopW
  conv=>lhs;arg 1;unfold jH
  have h1:=bL hd hj
  have h5:=h1.2.1
  have h2:=eM (fun n=>[DI n]) h1.1
  have hi:=dP a 1 2
  have hlen:=h1.2.2.2.2
  have hd3:x.fArgs.drop (j+3).toNat=Bl.drop 2:=by
   have:=congrArg (List.drop 2) h1.2.2.1
   rw[List.drop_drop] at this
   rw[←this]
   congr 1;omega
  have ih:=uS x hl k (Bl.drop 2) (j+3) (by simp only[lc] at hk;simp;omega) hd3 (by omega) (by omega)
  cases c:inB a 1 2<;>rw[c] at hi
  ·have e:zY (a::Bl)=false:=by
    cases Bl with
    |nil=>simp[zY,c]
    |cons b Bl=>cases Bl<;>simp[zY,c]
   rw[e]
   (repeat'(first|simp -implicitDefEqProofs (disch:=first|assumption|omega|(simp only[aI,aP,aH,i64,sa,aC,lm,la,lc,ln];omega)) only[go_sem,simprocAttr,h2,hi]|((first|rw[aM]|rw[aG]|rw[aD]|rw[aL]|rw[aO]|rw[aE]|rw[aF]|rw[aN]|skip);split)))
  ·match Bl,h1,hlen,hd3,ih with
   |[],h1,hlen,hd3,ih =>
    simp only[ln] at hlen
    simp only[List.drop_nil,zY,if_true] at ih
    simp only[zY,c,if_true]
    (repeat'(first|simp -implicitDefEqProofs (disch:=first|assumption|omega|(simp only[aI,aP,aH,i64,sa,aC,lm,la,lc,ln];omega)) only[go_sem,simprocAttr,h2,hi,ih]|((first|rw[aM]|rw[aG]|rw[aD]|rw[aL]|rw[aO]|rw[aE]|rw[aF]|rw[aN]|skip);split)))
   |[b],h1,hlen,hd3,ih =>
    simp only[lc,ln] at hlen
    simp only[List.drop_succ_cons,List.drop_nil,zY,if_true] at ih
    simp only[zY,c,if_true]
    (repeat'(first|simp -implicitDefEqProofs (disch:=first|assumption|omega|(simp only[aI,aP,aH,i64,sa,aC,lm,la,lc,ln];omega)) only[go_sem,simprocAttr,h2,hi,ih]|((first|rw[aM]|rw[aG]|rw[aD]|rw[aL]|rw[aO]|rw[aE]|rw[aF]|rw[aN]|skip);split)))
   |b::d::Bl,h1,hlen,hd3,ih =>
    simp only[lc] at hlen
    simp only[List.drop_succ_cons,List.drop_zero] at ih
    simp only[zY,c,bta]
    obtain⟨v,hv,hv2⟩:=zQO x.fArgs (j:=j+2) (by omega) (by omega)
    have hvd:v=d:=by
     have h3:=congrArg (fun l=>l[1]?) h1.2.2.1
     simp only[List.getElem?_drop,List.getElem?_cons_succ,List.getElem?_cons_zero] at h3
     rw[show(j+1).toNat+1=(j+2).toNat by omega,hv2] at h3
     simpa using h3
    subst hvd
    (repeat'(first|simp -implicitDefEqProofs (disch:=first|assumption|omega|(simp only[aI,aP,aH,i64,sa,aC,lm,la,lc,ln];omega)) only[go_sem,simprocAttr,h2,hi,hv,ih]|((first|rw[aM]|rw[aG]|rw[aD]|rw[aL]|rw[aO]|rw[aE]|rw[aF]|rw[aN]|skip);split)))
def x4(x:ZA):Bool:=if x.fOp=19 then zY x.fArgs&&(decide ((x.fArgs.length:Int)=3)||decide ((x.fArgs.length:Int)=6)||decide ((x.fArgs.length:Int)=9)) else if x.fOp=22 then decide ((x.fArgs.length:Int)=1) else if x.fOp=11∨x.fOp=14 then decide ((x.fArgs.length:Int)≤4) else decide ((x.fArgs.length:Int)=0)
theorem Ea(x:ZA)(hl:x.fArgs.length≤1048576):call tab tP [x.x]=some (B (x4 x)):=by
 rw[aS Ia _ rfl,xF,x4]
 have h0:=uS x hl x.fArgs.length x.fArgs 0 (Nat.le_refl _) rfl (by omega) (by omega)
 (repeat'(first|simp -implicitDefEqProofs (disch:=first|assumption|omega|(simp only[aI,aP,aH,i64,sa,aC,lm,la,lc,ln];omega)) only[go_sem,simprocAttr,h0]|((first|rw[aM]|rw[aG]|rw[aD]|rw[aL]|rw[aO]|rw[aE]|rw[aF]|rw[aN]|skip);split)))
 all_goals clear h0
 all_goals simp_all
def P3(x:ZA)(m:Int):Bool:=inB x.fOp 1 28&&x4 x&&wN x m&&(!decide (x.fOp=19)||inB x.fN 0 1)&&zZx x.fN&&(hb x 1||decide (x.fD=0))&&(hb x 2||decide (x.fA=0))&&(hb x 4||decide (x.fB=0))&&(hb x 8||decide (x.fN=0))&&(hb x 16||decide (x.fS=⟨#[]⟩))
theorem Cg(x:ZA)(m:Int)(hl:x.fArgs.length≤1048576)(hm:i64 (m-1)):call tab rI [x.x,I m]=some (B (P3 x m)):=by
 rw[aS Dy _ rfl,uP,P3]
 have a0:=dH x.fOp
 have a1:=dP x.fOp 1 28
 have a2:=Ea x hl
 have a3:=D7 x m hl hm
 have a4:=dP x.fN 0 1
 have a5:=Iy x.fN
 have e1:=Hj x 1
 have e2:=Hj x 2
 have e4:=Hj x 4
 have e8:=Hj x 8
 have e16:=Hj x 16
 cases c1:inB x.fOp 1 28<;>rw[c1] at a1
 ·(repeat'(first|simp -implicitDefEqProofs (disch:=first|assumption|omega|(simp only[aI,aP,aH,i64,sa,aC,lm,la,lc,ln];omega)) only[go_sem,simprocAttr,a0,a1]|((first|rw[aM]|rw[aG]|rw[aD]|rw[aL]|rw[aO]|rw[aE]|rw[aF]|rw[aN]|skip);split)))
 cases c2:x4 x<;>rw[c2] at a2
 ·(repeat'(first|simp -implicitDefEqProofs (disch:=first|assumption|omega|(simp only[aI,aP,aH,i64,sa,aC,lm,la,lc,ln];omega)) only[go_sem,simprocAttr,a0,a1,a2]|((first|rw[aM]|rw[aG]|rw[aD]|rw[aL]|rw[aO]|rw[aE]|rw[aF]|rw[aN]|skip);split)))
 cases c3:wN x m<;>rw[c3] at a3
 ·(repeat'(first|simp -implicitDefEqProofs (disch:=first|assumption|omega|(simp only[aI,aP,aH,i64,sa,aC,lm,la,lc,ln];omega)) only[go_sem,simprocAttr,a0,a1,a2,a3]|((first|rw[aM]|rw[aG]|rw[aD]|rw[aL]|rw[aO]|rw[aE]|rw[aF]|rw[aN]|skip);split)))
 have hn:(!decide (x.fOp=19)||inB x.fN 0 1)= !(decide (x.fOp=19)&& !inB x.fN 0 1):=by cases inB x.fN 0 1<;>simp
 rw[hn]
 by_cases c0:x.fOp=19
 ·cases c4:inB x.fN 0 1<;>rw[c4] at a4<;>have k0:decide (x.fOp=19)=true:=decide_eq_true c0
  ·simp only[k0]
   (repeat'(first|simp -implicitDefEqProofs (disch:=first|assumption|omega|(simp only[aI,aP,aH,i64,sa,aC,lm,la,lc,ln];omega)) only[go_sem,simprocAttr,a0,a1,a2,a3,a4]|((first|rw[aM]|rw[aG]|rw[aD]|rw[aL]|rw[aO]|rw[aE]|rw[aF]|rw[aN]|skip);split)))
  ·simp only[k0]
   (repeat'(first|simp -implicitDefEqProofs (disch:=first|assumption|omega|(simp only[aI,aP,aH,i64,sa,aC,lm,la,lc,ln];omega)) only[go_sem,simprocAttr,a0,a1,a2,a3,a4,a5,e1,e2,e4,e8,e16]|((first|rw[aM]|rw[aG]|rw[aD]|rw[aL]|rw[aO]|rw[aE]|rw[aF]|rw[aN]|skip);split)))
   all_goals simp_all
 ·have k0:decide (x.fOp=19)=false:=decide_eq_false c0
  simp only[k0]
  (repeat'(first|simp -implicitDefEqProofs (disch:=first|assumption|omega|(simp only[aI,aP,aH,i64,sa,aC,lm,la,lc,ln];omega)) only[go_sem,simprocAttr,a0,a1,a2,a3,a4,a5,e1,e2,e4,e8,e16]|((first|rw[aM]|rw[aG]|rw[aD]|rw[aL]|rw[aO]|rw[aE]|rw[aF]|rw[aN]|skip);split)))
  all_goals simp_all
def xZ(m:Int)(t:ZA):Bool:=decide (t.fOp=8)&&decide (t.fN=m)
theorem sX(v0:List ZA)(m:Int)(hl:v0.length≤1048576):∀(Bl:List ZA) (j:Int),v0.drop j.toNat=Bl→0≤j →
  loopW tab [0,1,5] iZ {env:=upd (upd (upd emp 5 (some (I j))) 1 (some (I m))) 0 (some (.d (.r (v0.map ZA.r)))),heap:=emp,fr:=0,next:=0}=if aR (xZ m) j Bl= -1 then some (.ext 0,{env:=emp,heap:=emp,fr:=0,next:=0}) else some (.ret,{env:=upd emp 4 (some (I (aR (xZ m) j Bl))),heap:=emp,fr:=0,next:=0})
 |[],j,hd,hj=>by
  unfold loopW
  conv=>lhs;arg 1;unfold iZ
  have h1:=cN hd hj
  simp only[aR,if_true]
  (repeat'(first|simp -implicitDefEqProofs (disch:=first|assumption|omega|(simp only[aI,aP,aH,i64,sa,aC,lm,la,lc,ln];omega)) only[go_sem,simprocAttr]|((first|rw[aM]|rw[aG]|rw[aD]|rw[aL]|rw[aO]|rw[aE]|rw[aF]|rw[aN]|skip);split)))
 |t::Bl,j,hd,hj=>by
  unfold loopW
  conv=>lhs;arg 1;unfold iZ
  have h1:=bL hd hj
  have h5:=h1.2.1
  have h2:=eM ZA.r h1.1
  simp only[ZA.r] at h2
  have ih:=sX v0 m hl Bl (j+1) h1.2.2.1 (by omega)
  rw[aR]
  by_cases c1:t.fOp=8
  ·by_cases c2:t.fN=m
   ·have hp:xZ m t=true:=by simp[xZ,c1,c2]
    rw[if_pos hp,if_neg (by omega)]
    (repeat'(first|simp -implicitDefEqProofs (disch:=first|assumption|omega|(simp only[aI,aP,aH,i64,sa,aC,lm,la,lc,ln];omega)) only[go_sem,simprocAttr,h2]|((first|rw[aM]|rw[aG]|rw[aD]|rw[aL]|rw[aO]|rw[aE]|rw[aF]|rw[aN]|skip);split)))
   ·have hp:¬xZ m t=true:=by simp[xZ,c2]
    rw[if_neg hp,←ih]
    (repeat'(first|simp -implicitDefEqProofs (disch:=first|assumption|omega|(simp only[aI,aP,aH,i64,sa,aC,lm,la,lc,ln];omega)) only[go_sem,simprocAttr,h2]|((first|rw[aM]|rw[aG]|rw[aD]|rw[aL]|rw[aO]|rw[aE]|rw[aF]|rw[aN]|skip);split)))
  ·have hp:¬xZ m t=true:=by simp[xZ,c1]
   rw[if_neg hp,←ih]
   (repeat'(first|simp -implicitDefEqProofs (disch:=first|assumption|omega|(simp only[aI,aP,aH,i64,sa,aC,lm,la,lc,ln];omega)) only[go_sem,simprocAttr,h2]|((first|rw[aM]|rw[aG]|rw[aD]|rw[aL]|rw[aO]|rw[aE]|rw[aF]|rw[aN]|skip);split)))
theorem rW(v0:List ZA)(m:Int)(hl:v0.length≤1048576):call tab iB [.d (.r (v0.map ZA.r)),I m]=some (I (aR (xZ m) 0 v0)):=by
 rw[aS Ed _ rfl,uN]
 have h0:=sX v0 m hl v0 0 rfl (by omega)
 by_cases hp:aR (xZ m) 0 v0= -1
 ·rw[if_pos hp] at h0
  (repeat'(first|simp -implicitDefEqProofs (disch:=first|assumption|omega|(simp only[aI,aP,aH,i64,sa,aC,lm,la,lc,ln];omega)) only[go_sem,simprocAttr,h0,hp]|((first|rw[aM]|rw[aG]|rw[aD]|rw[aL]|rw[aO]|rw[aE]|rw[aF]|rw[aN]|skip);split)))
 ·rw[if_neg hp] at h0
  (repeat'(first|simp -implicitDefEqProofs (disch:=first|assumption|omega|(simp only[aI,aP,aH,i64,sa,aC,lm,la,lc,ln];omega)) only[go_sem,simprocAttr,h0]|((first|rw[aM]|rw[aG]|rw[aD]|rw[aL]|rw[aO]|rw[aE]|rw[aF]|rw[aN]|skip);split)))
set_option maxRecDepth 8000
set_option maxHeartbeats 4000000
def i4(code:List ZA)(m:Int):Int:=aR (xZ m) 0 code
def zA(u:ZB)(j:Int)(t:ZA):Bool:=P3 t u.fRegs&& !((decide (t.fOp=8)&&(!decide (i4 u.fCode t.fN=j) || !inB t.fN 0 900))||((decide (t.fOp=9)||decide (t.fOp=10))&&decide (i4 u.fCode t.fN<0)))
def jQ(u:ZB):Int→List ZA→Bool
 |_,[]=>true
 |j,t::r=>zA u j t&&jQ u (j+1) r
abbrev vpU(u:ZB):X:= .vp [Str u.fName,I u.fParams,I u.fRegs,.d (.r (u.fCode.map ZA.r))]
theorem Ju(a b:Int):call tab y5 [I a,I b]=some (I (if a<b then a else b)):=by
 rw[aS M4 _ rfl,Ax]
 (repeat'(first|simp -implicitDefEqProofs (disch:=first|assumption|omega|(simp only[aI,aP,aH,i64,sa,aC,lm,la,lc,ln];omega)) only[go_sem,simprocAttr]|((first|rw[aM]|rw[aG]|rw[aD]|rw[aL]|rw[aO]|rw[aE]|rw[aF]|rw[aN]|skip);split)))
theorem wW(u:ZB)(hs:u.sm)(hr:i64 (u.fRegs-1))(hr2:u.fCode.length≤1048576):∀(Bl:List ZA) (j:Int),u.fCode.drop j.toNat=Bl→0≤j →
  loopW tab [1,3,4] kJ {env:=upd (upd (upd emp 4 (some (I j))) 3 (some (I (u.fCode.length:Int)))) 1 (some (vpU u)),heap:=emp,fr:=0,next:=0}=if jQ u j Bl=true then some (.ext 0,{env:=upd (upd emp 3 (some (I (u.fCode.length:Int)))) 1 (some (vpU u)),heap:=emp,fr:=0,next:=0}) else some (.ret,{env:=upd emp 2 (some (B false)),heap:=emp,fr:=0,next:=0})
 |[],j,hd,hj=>by
  unfold loopW
  conv=>lhs;arg 1;unfold kJ
  have h1:=cN hd hj
  (repeat'(first|simp -implicitDefEqProofs (disch:=first|assumption|omega|(simp only[aI,aP,aH,i64,sa,aC,lm,la,lc,ln];omega)) only[go_sem,simprocAttr,jQ]|((first|rw[aM]|rw[aG]|rw[aD]|rw[aL]|rw[aO]|rw[aE]|rw[aF]|rw[aN]|skip);split)))
 |t::Bl,j,hd,hj=>by
  unfold loopW
  conv=>lhs;arg 1;unfold kJ
  have h1:=bL hd hj
  have h5:=h1.2.1
  have h2:=eM ZA.r h1.1
  simp only[ZA.r] at h2
  have hsx:=(hs.2.2 t h1.2.2.2.1).2
  have ih:=wW u hs hr hr2 Bl (j+1) h1.2.2.1 (by omega)
  have a1:=Cg t u.fRegs hsx hr
  have a2:call tab iB [.d (.r (u.fCode.map ZA.r)),I t.fN]=some (I (i4 u.fCode t.fN)):=rW u.fCode t.fN hr2
  have a3:=dP t.fN 0 900
  rw[jQ,zA]
  cases c1:P3 t u.fRegs<;>rw[c1] at a1
  ·(repeat'(first|simp -implicitDefEqProofs (disch:=first|assumption|omega|(simp only[aI,aP,aH,i64,sa,aC,lm,la,lc,ln];omega)) only[go_sem,simprocAttr,h2,a1]|((first|rw[aM]|rw[aG]|rw[aD]|rw[aL]|rw[aO]|rw[aE]|rw[aF]|rw[aN]|skip);split)))
  ·cases c2:inB t.fN 0 900<;>rw[c2] at a3
   ·(repeat'(first|simp -implicitDefEqProofs (disch:=first|assumption|omega|(simp only[aI,aP,aH,i64,sa,aC,lm,la,lc,ln];omega)) only[go_sem,simprocAttr,h2,a1,a2,a3,ih]|((first|rw[aM]|rw[aG]|rw[aD]|rw[aL]|rw[aO]|rw[aE]|rw[aF]|rw[aN]|skip);split)))
    all_goals simp_all
   ·(repeat'(first|simp -implicitDefEqProofs (disch:=first|assumption|omega|(simp only[aI,aP,aH,i64,sa,aC,lm,la,lc,ln];omega)) only[go_sem,simprocAttr,h2,a1,a2,a3,ih]|((first|rw[aM]|rw[aG]|rw[aD]|rw[aL]|rw[aO]|rw[aE]|rw[aF]|rw[aN]|skip);split)))
    all_goals simp_all
def Yi(l:List ZA):Bool:=match l.getLast? with
 |some t=>decide (t.fOp=12)||decide (t.fOp=9)||decide (t.fOp=28)
 |none=>false
def sT(u:ZB):Bool:=inB u.fRegs 0 250&&inB u.fParams 0 (if 4<u.fRegs then 4 else u.fRegs)&&inB u.fCode.length 1 900&&jQ u 0 u.fCode&&Yi u.fCode
theorem Rz{l:List ZA}(h:1≤l.length):∃t,l.getLast? = some t∧(l.map ZA.r)[((l.length:Int)-1).toNat]? = some t.r∧t∈l:=by
 have h1:l≠[]:=by intro e;rw[e] at h;simp at h
 refine⟨l.getLast h1,List.getLast?_eq_some_getLast h1,?_,List.getLast_mem h1⟩
 rw[List.getElem?_map,show((l.length:Int)-1).toNat=l.length-1 by omega,←List.getLast?_eq_getElem?,List.getLast?_eq_some_getLast h1]
 rfl
theorem H1(u:ZB)(hs:u.sm):call tab xH [u.x]=some (B (sT u)):=by
 rw[aS Il _ rfl,yR,sT]
 have b1:=dP u.fRegs 0 250
 have b2:=Ju 4 u.fRegs
 have b3:=dP u.fParams 0 (if 4<u.fRegs then 4 else u.fRegs)
 have b4:=dP u.fCode.length 1 900
 have hl:=hs.2.1
 cases c1:inB u.fRegs 0 250<;>rw[c1] at b1
 ·(repeat'(first|simp -implicitDefEqProofs (disch:=first|assumption|omega|(simp only[aI,aP,aH,i64,sa,aC,lm,la,lc,ln];omega)) only[go_sem,simprocAttr,b1]|((first|rw[aM]|rw[aG]|rw[aD]|rw[aL]|rw[aO]|rw[aE]|rw[aF]|rw[aN]|skip);split)))
 cases c2:inB u.fParams 0 (if 4<u.fRegs then 4 else u.fRegs)<;>rw[c2] at b3
 ·generalize (if 4<u.fRegs then(4:Int) else u.fRegs)=mn at *
  (repeat'(first|simp -implicitDefEqProofs (disch:=first|assumption|omega|(simp only[aI,aP,aH,i64,sa,aC,lm,la,lc,ln];omega)) only[go_sem,simprocAttr,b1,b2,b3]|((first|rw[aM]|rw[aG]|rw[aD]|rw[aL]|rw[aO]|rw[aE]|rw[aF]|rw[aN]|skip);split)))
 cases c3:inB u.fCode.length 1 900<;>rw[c3] at b4
 ·generalize (if 4<u.fRegs then(4:Int) else u.fRegs)=mn at *
  (repeat'(first|simp -implicitDefEqProofs (disch:=first|assumption|omega|(simp only[aI,aP,aH,i64,sa,aC,lm,la,lc,ln];omega)) only[go_sem,simprocAttr,b1,b2,b3,b4]|((first|rw[aM]|rw[aG]|rw[aD]|rw[aL]|rw[aO]|rw[aE]|rw[aF]|rw[aN]|skip);split)))
 have g1:0≤u.fRegs∧u.fRegs≤250:=by simpa[inB] using c1
 have g3:1≤(u.fCode.length:Int)∧(u.fCode.length:Int)≤900:=by simpa[inB] using c3
 have h0:=wW u hs ⟨by omega,by omega⟩ hl u.fCode 0 rfl (by omega)
 obtain⟨t,ht,ht2,_⟩:=Rz (l:=u.fCode) (by omega)
 simp only[ZA.r] at ht2
 simp only[Yi,ht]
 generalize (if 4<u.fRegs then(4:Int) else u.fRegs)=mn at *
 cases c4:jQ u 0 u.fCode<;>simp only[c4,Bool.false_eq_true,if_true,if_false] at h0
 ·(repeat'(first|simp -implicitDefEqProofs (disch:=first|assumption|omega|(simp only[aI,aP,aH,i64,sa,aC,lm,la,lc,ln];omega)) only[go_sem,simprocAttr,b1,b2,b3,b4,h0]|((first|rw[aM]|rw[aG]|rw[aD]|rw[aL]|rw[aO]|rw[aE]|rw[aF]|rw[aN]|skip);split)))
 ·(repeat'(first|simp -implicitDefEqProofs (disch:=first|assumption|omega|(simp only[aI,aP,aH,i64,sa,aC,lm,la,lc,ln];omega)) only[go_sem,simprocAttr,b1,b2,b3,b4,h0,ht2]|((first|rw[aM]|rw[aG]|rw[aD]|rw[aL]|rw[aO]|rw[aE]|rw[aF]|rw[aN]|skip);split)))
  all_goals simp_all
set_option maxRecDepth 8000
set_option maxHeartbeats 4000000
theorem sG(f:Nat)(p:ZA→Bool)(h:Heap)(fr:Nat)(hh:bU fr h=h)(xs:List ZA)(hx:xs.length≤140737488351232)(kc:Nat)(h1:1≤fr)(hf:∀x∈xs,evCW tab f [x.x,.ptr (0,kc) [] 0 0] h (fr+1)=some (B (p x),h)):∀(Bl:List ZA) (j:Int),xs.drop j.toNat=Bl→0≤j →
  loopW tab [0,1,7,8] bQ {env:=upd (upd (upd (upd emp 8 (some (I j))) 7 (some (I (xs.length:Int)))) 1 (some (.clo f [.ptr (0,kc) [] 0 0]))) 0 (some (.d (.r (xs.map (ZA.r))))),heap:=h,fr:=fr,next:=0}=if aR p j Bl= -1 then some (.ext 0,{env:=emp,heap:=h,fr:=fr,next:=0}) else some (.ret,{env:=upd emp 4 (some (I (aR p j Bl))),heap:=h,fr:=fr,next:=0})
 |[],j,hd,hj=>by
  unfold loopW
  conv=>lhs;arg 1;unfold bQ
  have:=cN hd hj
  simp only[aR,if_true]
  (repeat'(first|simp -implicitDefEqProofs (disch:=first|assumption|omega|(simp only[aI,aP,aH,i64,sa,aC,lm,la,lc,ln];omega)) only[go_sem,simprocAttr,hh,show ¬0=fr from by omega]|((first|rw[aM]|rw[aG]|rw[aD]|rw[aL]|rw[aO]|rw[aE]|rw[aF]|rw[aN]|skip);split)))
 |x::Bl,j,hd,hj=>by
  unfold loopW
  conv=>lhs;arg 1;unfold bQ
  have h4:=(bL hd hj).2.1
  have ih:=sG f p h fr hh xs hx kc h1 hf Bl (j+1) (bL hd hj).2.2.1 (by omega)
  have h2:=eM (ZA.r) (bL hd hj).1
  simp only[ZA.r] at h2
  have h3:=hf x (bL hd hj).2.2.2.1
  rw[aR]
  by_cases hp:p x=true
  ·rw[if_pos hp,if_neg (by omega)]
   (repeat'(first|simp -implicitDefEqProofs (disch:=first|assumption|omega|(simp only[aI,aP,aH,i64,sa,aC,lm,la,lc,ln];omega)) only[go_sem,simprocAttr,h2,show ¬0=fr from by omega,h3,hh]|((first|rw[aM]|rw[aG]|rw[aD]|rw[aL]|rw[aO]|rw[aE]|rw[aF]|rw[aN]|skip);split)))
  ·rw[if_neg hp,←ih]
   (repeat'(first|simp -implicitDefEqProofs (disch:=first|assumption|omega|(simp only[aI,aP,aH,i64,sa,aC,lm,la,lc,ln];omega)) only[go_sem,simprocAttr,h2,show ¬0=fr from by omega,h3,hh]|((first|rw[aM]|rw[aG]|rw[aD]|rw[aL]|rw[aO]|rw[aE]|rw[aF]|rw[aN]|skip);split)))
theorem rY(f:Nat)(p:ZA→Bool)(h:Heap)(fr:Nat)(hh:bU fr h=h)(xs:List ZA)(hx:xs.length≤140737488351232)(kc:Nat)(h1:1≤fr)(hf:∀x∈xs,evCW tab f [x.x,.ptr (0,kc) [] 0 0] h (fr+1)=some (B (p x),h)):evCW tab c7 [.d (.r (xs.map (ZA.r))),.clo f [.ptr (0,kc) [] 0 0]] h fr=some (I (aR p 0 xs),h):=by
 rw[dM jY _ _ _ rfl,d7]
 have h0:=sG f p h fr hh xs hx kc h1 hf xs 0 rfl (by omega)
 by_cases hp:aR p 0 xs= -1
 ·rw[if_pos hp] at h0
  (repeat'(first|simp -implicitDefEqProofs (disch:=first|assumption|omega|(simp only[aI,aP,aH,i64,sa,aC,lm,la,lc,ln];omega)) only[go_sem,simprocAttr,hh,h0,hp,show ¬0=fr from by omega]|((first|rw[aM]|rw[aG]|rw[aD]|rw[aL]|rw[aO]|rw[aE]|rw[aF]|rw[aN]|skip);split)))
 ·rw[if_neg hp] at h0
  (repeat'(first|simp -implicitDefEqProofs (disch:=first|assumption|omega|(simp only[aI,aP,aH,i64,sa,aC,lm,la,lc,ln];omega)) only[go_sem,simprocAttr,hh,h0,hp,show ¬0=fr from by omega]|((first|rw[aM]|rw[aG]|rw[aD]|rw[aL]|rw[aO]|rw[aE]|rw[aF]|rw[aN]|skip);split)))
theorem rX(f:Nat)(p:Int→Bool)(h:Heap)(fr:Nat)(hh:bU fr h=h)(xs:List Int)(hx:xs.length≤140737488351232)(kc:Nat)(k:Nat)(h1:1≤fr)(hk:h (0,k)=some (.s 1 (xs.map (fun n=>[DI n]))))(hf:∀x∈xs,evCW tab f [I x,.ptr (0,kc) [] 0 0] h (fr+1)=some (B (p x),h)):∀(Bl:List Int) (j:Int),xs.drop j.toNat=Bl→0≤j →
  loopW tab [0,1,7,8] cY {env:=upd (upd (upd (upd emp 8 (some (I j))) 7 (some (I (xs.length:Int)))) 1 (some (.clo f [.ptr (0,kc) [] 0 0]))) 0 (some (.ref (0,k) [])),heap:=h,fr:=fr,next:=0}=if aR p j Bl= -1 then some (.ext 0,{env:=emp,heap:=h,fr:=fr,next:=0}) else some (.ret,{env:=upd emp 4 (some (I (aR p j Bl))),heap:=h,fr:=fr,next:=0})
 |[],j,hd,hj=>by
  unfold loopW
  conv=>lhs;arg 1;unfold cY
  have:=cN hd hj
  simp only[aR,if_true]
  (repeat'(first|simp -implicitDefEqProofs (disch:=first|assumption|omega|(simp only[aI,aP,aH,i64,sa,aC,lm,la,lc,ln];omega)) only[go_sem,simprocAttr,hh,show ¬0=fr from by omega]|((first|rw[aM]|rw[aG]|rw[aD]|rw[aL]|rw[aO]|rw[aE]|rw[aF]|rw[aN]|skip);split)))
 |x::Bl,j,hd,hj=>by
  unfold loopW
  conv=>lhs;arg 1;unfold cY
  have h4:=(bL hd hj).2.1
  have ih:=rX f p h fr hh xs hx kc k h1 hk hf Bl (j+1) (bL hd hj).2.2.1 (by omega)
  have h2:=eM (fun n=>[DI n]) (bL hd hj).1
  have h3:=hf x (bL hd hj).2.2.2.1
  rw[aR]
  by_cases hp:p x=true
  ·rw[if_pos hp,if_neg (by omega)]
   (repeat'(first|simp -implicitDefEqProofs (disch:=first|assumption|omega|(simp only[aI,aP,aH,i64,sa,aC,lm,la,lc,ln];omega)) only[go_sem,simprocAttr,h2,hk,show ¬0=fr from by omega,h3,hh]|((first|rw[aM]|rw[aG]|rw[aD]|rw[aL]|rw[aO]|rw[aE]|rw[aF]|rw[aN]|skip);split)))
  ·rw[if_neg hp,←ih]
   (repeat'(first|simp -implicitDefEqProofs (disch:=first|assumption|omega|(simp only[aI,aP,aH,i64,sa,aC,lm,la,lc,ln];omega)) only[go_sem,simprocAttr,h2,hk,show ¬0=fr from by omega,h3,hh]|((first|rw[aM]|rw[aG]|rw[aD]|rw[aL]|rw[aO]|rw[aE]|rw[aF]|rw[aN]|skip);split)))
theorem sQ(f:Nat)(p:Int→Bool)(h:Heap)(fr:Nat)(hh:bU fr h=h)(xs:List Int)(hx:xs.length≤140737488351232)(kc:Nat)(k:Nat)(h1:1≤fr)(hk:h (0,k)=some (.s 1 (xs.map (fun n=>[DI n]))))(hf:∀x∈xs,evCW tab f [I x,.ptr (0,kc) [] 0 0] h (fr+1)=some (B (p x),h)):evCW tab fI [.ref (0,k) [],.clo f [.ptr (0,kc) [] 0 0]] h fr=some (I (aR p 0 xs),h):=by
 rw[dM oN _ _ _ rfl,i6]
 have h0:=rX f p h fr hh xs hx kc k h1 hk hf xs 0 rfl (by omega)
 by_cases hp:aR p 0 xs= -1
 ·rw[if_pos hp] at h0
  (repeat'(first|simp -implicitDefEqProofs (disch:=first|assumption|omega|(simp only[aI,aP,aH,i64,sa,aC,lm,la,lc,ln];omega)) only[go_sem,simprocAttr,hh,h0,hp,hk,show ¬0=fr from by omega]|((first|rw[aM]|rw[aG]|rw[aD]|rw[aL]|rw[aO]|rw[aE]|rw[aF]|rw[aN]|skip);split)))
 ·rw[if_neg hp] at h0
  (repeat'(first|simp -implicitDefEqProofs (disch:=first|assumption|omega|(simp only[aI,aP,aH,i64,sa,aC,lm,la,lc,ln];omega)) only[go_sem,simprocAttr,hh,h0,hp,hk,show ¬0=fr from by omega]|((first|rw[aM]|rw[aG]|rw[aD]|rw[aL]|rw[aO]|rw[aE]|rw[aF]|rw[aN]|skip);split)))
theorem pM(f:Nat)(p:Int→Bool)(h:Heap)(fr:Nat)(hh:bU fr h=h)(hh':bU (fr+1) h=h)(xs:List Int)(hx:xs.length≤140737488351232)(kc:Nat)(k:Nat)(h1:1≤fr)(hk:h (0,k)=some (.s 1 (xs.map (fun n=>[DI n]))))(hf:∀x∈xs,evCW tab f [I x,.ptr (0,kc) [] 0 0] h (fr+2)=some (B (p x),h)):evCW tab eH [.ref (0,k) [],.clo f [.ptr (0,kc) [] 0 0]] h fr=some (B (xs.any p),h):=by
 rw[dM m5 _ _ _ rfl,gM]
 have h0:=sQ f p h (fr+1) hh' xs hx kc k (by omega) hk hf
 rw[C9 p 0 (by omega)]
 (repeat'(first|simp -implicitDefEqProofs (disch:=first|assumption|omega|(simp only[aI,aP,aH,i64,sa,aC,lm,la,lc,ln];omega)) only[go_sem,simprocAttr,hh,h0,hk,show ¬0=fr from by omega]|((first|rw[aM]|rw[aG]|rw[aD]|rw[aL]|rw[aO]|rw[aE]|rw[aF]|rw[aN]|skip);split)))
set_option maxRecDepth 8000
set_option maxHeartbeats 4000000
def zKF:List ByteArray:=[noS,⟨#[68,78]⟩,⟨#[68,65]⟩,⟨#[68,65,66]⟩,⟨#[68,65,66]⟩,⟨#[68,65,66]⟩,⟨#[68,65,66]⟩,⟨#[68,65,66]⟩,⟨#[78]⟩,⟨#[78]⟩,⟨#[65,78]⟩,⟨#[68,83,88]⟩,⟨#[65]⟩,⟨#[65]⟩,⟨#[83,88]⟩,⟨#[68,65]⟩,⟨#[65,66]⟩,⟨#[68,65]⟩,⟨#[65]⟩,⟨#[68,66,78,88]⟩,⟨#[68,65]⟩,⟨#[65,66]⟩,⟨#[68,65,66,88]⟩,⟨#[68]⟩,⟨#[68,83]⟩,⟨#[65]⟩,⟨#[65,66]⟩,⟨#[65,66]⟩,⟨#[65]⟩]
def mC(op:Int):ByteArray:=if 1≤op∧op≤28 then(zKF[op.toNat]?).getD noS else noS
theorem A8(op:Int):call tab xS [I op]=some (Str (mC op)):=by
 rw[aS Rk _ rfl,C7]
 by_cases h:1≤op∧op≤28
 ·obtain⟨h1,h2⟩:=h
  rw[mC,if_pos ⟨h1,h2⟩]
  rcases Kb h1 h2 with rfl|rfl|rfl|rfl|rfl|rfl|rfl|rfl|rfl|rfl|rfl|rfl|rfl|rfl|rfl|rfl|rfl|rfl|rfl|rfl|rfl|rfl|rfl|rfl|rfl|rfl|rfl|rfl<;>simp -implicitDefEqProofs (disch:=first|assumption|omega|(simp only[aI,aP,aH,i64,sa,aC,lm,la,lc,ln];omega)) only[go_sem,simprocAttr,zKF]
 ·rw[mC,if_neg h]
  simp -implicitDefEqProofs (disch:=first|assumption|omega|(simp only[aI,aP,aH,i64,sa,aC,lm,la,lc,ln];omega)) only[go_sem,simprocAttr]
abbrev U8(c:Int):X:= .d (.v (.int .u8 c))
theorem yN(bs:List UInt8)(hl:bs.length≤1048576)(c:Int):∀(Bl:List UInt8) (j:Int),bs.drop j.toNat=Bl→0≤j →
  loopW tab [0,1,7,8] dG {env:=upd (upd (upd (upd emp 8 (some (I j))) 7 (some (I (bs.length:Int)))) 1 (some (U8 c))) 0 (some (.d (.r (bs.map fun x=>[D.v (.int .u8 x.toNat)])))),heap:=emp,fr:=0,next:=0}=if aR (fun x:UInt8=>decide (c=x.toNat)) j Bl= -1 then some (.ext 0,{env:=emp,heap:=emp,fr:=0,next:=0}) else some (.ret,{env:=upd emp 4 (some (I (aR (fun x:UInt8=>decide (c=x.toNat)) j Bl))),heap:=emp,fr:=0,next:=0})
 |[],j,hd,hj=>by
  unfold loopW
  conv=>lhs;arg 1;unfold dG
  have h1:=cN hd hj
  simp only[aR,if_true]
  (repeat'(first|simp -implicitDefEqProofs (disch:=first|assumption|omega|(simp only[aI,aP,aH,i64,sa,aC,lm,la,lc,ln];omega)) only[go_sem,simprocAttr]|((first|rw[aM]|rw[aG]|rw[aD]|rw[aL]|rw[aO]|rw[aE]|rw[aF]|rw[aN]|skip);split)))
 |x::Bl,j,hd,hj=>by
  unfold loopW
  conv=>lhs;arg 1;unfold dG
  have h1:=bL hd hj
  have h5:=h1.2.1
  have h2:=eM (fun x:UInt8=>[D.v (.int .u8 x.toNat)]) h1.1
  have ih:=yN bs hl c Bl (j+1) h1.2.2.1 (by omega)
  rw[aR]
  by_cases hp:c=x.toNat
  ·have k:decide (c=(x.toNat:Int))=true:=decide_eq_true hp
   simp only[k,if_true]
   rw[if_neg (by omega)]
   (repeat'(first|simp -implicitDefEqProofs (disch:=first|assumption|omega|(simp only[aI,aP,aH,i64,sa,aC,lm,la,lc,ln];omega)) only[go_sem,simprocAttr,h2]|((first|rw[aM]|rw[aG]|rw[aD]|rw[aL]|rw[aO]|rw[aE]|rw[aF]|rw[aN]|skip);split)))
  ·have k:decide (c=(x.toNat:Int))=false:=decide_eq_false hp
   simp only[k,Bool.false_eq_true,if_false]
   rw[←ih]
   (repeat'(first|simp -implicitDefEqProofs (disch:=first|assumption|omega|(simp only[aI,aP,aH,i64,sa,aC,lm,la,lc,ln];omega)) only[go_sem,simprocAttr,h2]|((first|rw[aM]|rw[aG]|rw[aD]|rw[aL]|rw[aO]|rw[aE]|rw[aF]|rw[aN]|skip);split)))
theorem Jp(op c:Int):call tab dO [I op,U8 c]=some (B (decide (0≤aR (fun x:UInt8=>decide (c=x.toNat)) 0 (mC op).data.toList))):=by
 have hs:(mC op).size≤4:=by
  unfold mC
  split
  ·rename_i h
   rcases Kb h.1 h.2 with rfl|rfl|rfl|rfl|rfl|rfl|rfl|rfl|rfl|rfl|rfl|rfl|rfl|rfl|rfl|rfl|rfl|rfl|rfl|rfl|rfl|rfl|rfl|rfl|rfl|rfl|rfl|rfl<;>decide
  ·decide
 have hl:(mC op).data.toList.length≤4:=by rw[Array.length_toList];exact hs
 have h0:=yN (mC op).data.toList (by omega) c (mC op).data.toList 0 rfl (by omega)
 have h1:call tab gV [.d (.r ((mC op).data.toList.map fun x=>[D.v (.int .u8 x.toNat)])),U8 c]=some (I (aR (fun x:UInt8=>decide (c=x.toNat)) 0 (mC op).data.toList)):=by
  rw[aS rR _ rfl,kC]
  by_cases hp:aR (fun x:UInt8=>decide (c=x.toNat)) 0 (mC op).data.toList= -1
  ·rw[if_pos hp] at h0
   (repeat'(first|simp -implicitDefEqProofs (disch:=first|assumption|omega|(simp only[aI,aP,aH,i64,sa,aC,lm,la,lc,ln];omega)) only[go_sem,simprocAttr,h0,hp]|((first|rw[aM]|rw[aG]|rw[aD]|rw[aL]|rw[aO]|rw[aE]|rw[aF]|rw[aN]|skip);split)))
  ·rw[if_neg hp] at h0
   (repeat'(first|simp -implicitDefEqProofs (disch:=first|assumption|omega|(simp only[aI,aP,aH,i64,sa,aC,lm,la,lc,ln];omega)) only[go_sem,simprocAttr,h0]|((first|rw[aM]|rw[aG]|rw[aD]|rw[aL]|rw[aO]|rw[aE]|rw[aF]|rw[aN]|skip);split)))
 have h2:call tab eY [.d (.r ((mC op).data.toList.map fun x=>[D.v (.int .u8 x.toNat)])),U8 c]=some (B (decide (0≤aR (fun x:UInt8=>decide (c=x.toNat)) 0 (mC op).data.toList))):=by
  rw[aS oB _ rfl,iP]
  (repeat'(first|simp -implicitDefEqProofs (disch:=first|assumption|omega|(simp only[aI,aP,aH,i64,sa,aC,lm,la,lc,ln];omega)) only[go_sem,simprocAttr,h1]|((first|rw[aM]|rw[aG]|rw[aD]|rw[aL]|rw[aO]|rw[aE]|rw[aF]|rw[aN]|skip);split)))
 rw[aS L9 _ rfl,Az]
 (repeat'(first|simp -implicitDefEqProofs (disch:=first|assumption|omega|(simp only[aI,aP,aH,i64,sa,aC,lm,la,lc,ln];omega)) only[go_sem,simprocAttr,A8,zD,h2]|((first|rw[aM]|rw[aG]|rw[aD]|rw[aL]|rw[aO]|rw[aE]|rw[aF]|rw[aN]|skip);split)))
theorem Vf{op:Int}:∀p∈[((68:Int),(1:Int)),(65,2),(66,4),(78,8),(83,16),(88,32)],decide (0≤aR (fun x:UInt8=>decide (p.1=x.toNat)) 0 (mC op).data.toList)=zVt (Jv op) p.2:=by
 by_cases h:1≤op∧op≤28
 ·rcases Kb h.1 h.2 with rfl|rfl|rfl|rfl|rfl|rfl|rfl|rfl|rfl|rfl|rfl|rfl|rfl|rfl|rfl|rfl|rfl|rfl|rfl|rfl|rfl|rfl|rfl|rfl|rfl|rfl|rfl|rfl<;>decide
 ·rw[mC,if_neg h,Jv,if_neg h]
  decide
theorem dD(x:ZA)(p:Int×Int)(hp:p∈[((68:Int),(1:Int)),(65,2),(66,4),(78,8),(83,16),(88,32)]):call tab dO [I x.fOp,U8 p.1]=some (B (hb x p.2)):=by
 rw[Jp,Vf p hp]
 rfl
theorem zWD{x:ZA}(h:x.fOp=19):hb x 1=true∧hb x 2=false∧hb x 4=true∧hb x 32=true:=by
 unfold hb
 rw[h]
 decide
theorem n5(x:ZA):call tab oJ [x.x]=some (.d (.s 1 (aK (bP x)))):=by
 rw[aS Ow _ rfl,C2,bP]
 have a1:=dD x (68,1) (by simp)
 by_cases c0:x.fOp=19
 ·rw[(zWD c0).1,if_pos rfl,if_pos c0]
  (repeat'(first|simp -implicitDefEqProofs (disch:=first|assumption|omega|(simp only[aI,aP,aH,i64,sa,aC,lm,la,lc,ln];omega)) only[go_sem,simprocAttr,aK,mc,mn]|((first|rw[aM]|rw[aG]|rw[aD]|rw[aL]|rw[aO]|rw[aE]|rw[aF]|rw[aN]|skip);split)))
 ·rw[if_neg c0]
  cases c1:hb x 1<;>rw[c1] at a1<;>(repeat'(first|simp -implicitDefEqProofs (disch:=first|assumption|omega|(simp only[aI,aP,aH,i64,sa,aC,lm,la,lc,ln];omega)) only[go_sem,simprocAttr,aK,mc,mn,a1]|((first|rw[aM]|rw[aG]|rw[aD]|rw[aL]|rw[aO]|rw[aE]|rw[aF]|rw[aN]|skip);split)))
theorem uB(x:ZA)(hl:x.fArgs.length≤1048576)(h19:x.fOp=19):∀(Bl:List Int) (j:Nat) (A:List Int),x.fArgs.drop j=Bl→A.length≤j →
  loopW tab [1,3,11,12,13] mV {env:=upd (upd (upd (upd (upd emp 13 (some (I (j:Int)))) 12 (some (I (x.fArgs.length:Int)))) 11 (some (.d (.r (aK x.fArgs))))) 3 (some (.ref (0,0) []))) 1 (some (.vp [I x.fOp,I x.fD,I x.fA,I x.fB,I x.fN,Str x.fS,.d (.r (aK x.fArgs))])),heap:=upd emp (0,0) (some (.s 1 (aK A))),fr:=0,next:=1}=some (.ext 0,{env:=upd emp 3 (some (.ref (0,0) [])),heap:=upd emp (0,0) (some (.s 1 (aK (A++rZ x j Bl)))),fr:=0,next:=1})
 |[],j,A,hd,hA=>by
  have hd2:x.fArgs.drop ((j:Int)).toNat=[]:=by simpa using hd
  have hj:(0:Int)≤j:=by omega
  unfold loopW
  conv=>lhs;arg 1;unfold mV
  have h1:=cN hd2 hj
  (repeat'(first|simp -implicitDefEqProofs (disch:=first|assumption|omega|(simp only[aI,aP,aH,i64,sa,aC,lm,la,lc,ln];omega)) only[go_sem,simprocAttr,rZ,List.append_nil]|((first|rw[aM]|rw[aG]|rw[aD]|rw[aL]|rw[aO]|rw[aE]|rw[aF]|rw[aN]|skip);split)))
 |y::Bl,j,A,hd,hA=>by
  have hd2:x.fArgs.drop ((j:Int)).toNat=y::Bl:=by simpa using hd
  have hj:(0:Int)≤j:=by omega
  unfold loopW
  conv=>lhs;arg 1;unfold mV
  have h1:=bL hd2 hj
  have h5:=h1.2.1
  have h2:=eM (fun n=>[DI n]) h1.1
  simp only[Int.toNat_natCast] at h2
  have h3:x.fArgs.drop (j+1)=Bl:=by have:=h1.2.2.1;rwa [show((j:Int)+1).toNat=j+1 by omega] at this
  have m1:((j:Int)).tmod 3=((j % 3:Nat):Int):=by have:=Ek (n:=(j:Int)) (by omega) 3;simpa using this
  have ih1:=uB x hl h19 Bl (j+1) (A++[y]) h3 (by simp;omega)
  have ih2:=uB x hl h19 Bl (j+1) A h3 (by omega)
  rw[show((j+1:Nat):Int)=(j:Int)+1 by omega] at ih1 ih2
  rw[rZ,←List.append_assoc]
  simp only[List.map_append,mc,mn] at ih1 ih2 ⊢
  have k0:decide (x.fOp=19)=true:=decide_eq_true h19
  simp only[k0,Bool.not_true,Bool.false_or,zWe]
  rcases (by omega:j % 3=0∨j % 3=1∨j % 3=2) with c1|c1|c1
  ·simp only[c1] at m1 ⊢
   (repeat'(first|simp -implicitDefEqProofs (disch:=first|assumption|omega|(simp only[aI,aP,aH,i64,sa,aC,lm,la,lc,ln];omega)) only[go_sem,simprocAttr,h2,m1,ih2]|((first|rw[aM]|rw[aG]|rw[aD]|rw[aL]|rw[aO]|rw[aE]|rw[aF]|rw[aN]|skip);split)))
  ·simp only[c1] at m1 ⊢
   (repeat'(first|simp -implicitDefEqProofs (disch:=first|assumption|omega|(simp only[aI,aP,aH,i64,sa,aC,lm,la,lc,ln];omega)) only[go_sem,simprocAttr,h2,m1,ih1]|((first|rw[aM]|rw[aG]|rw[aD]|rw[aL]|rw[aO]|rw[aE]|rw[aF]|rw[aN]|skip);split)))
  ·simp only[c1] at m1 ⊢
   have hj2:j-2<x.fArgs.length:=by omega
   obtain⟨v,hv,hv2⟩:=zQO x.fArgs (j:=(j:Int)-2) (by omega) (by omega)
   rw[show((j:Int)-2).toNat=j-2 by omega] at hv2
   by_cases c2:v=2
   ·subst c2
    simp only[hv2]
    (repeat'(first|simp -implicitDefEqProofs (disch:=first|assumption|omega|(simp only[aI,aP,aH,i64,sa,aC,lm,la,lc,ln];omega)) only[go_sem,simprocAttr,h2,m1,hv,ih1]|((first|rw[aM]|rw[aG]|rw[aD]|rw[aL]|rw[aO]|rw[aE]|rw[aF]|rw[aN]|skip);split)))
   ·have:¬(some v=some (2:Int)):=by simpa using c2
    simp only[hv2,this]
    (repeat'(first|simp -implicitDefEqProofs (disch:=first|assumption|omega|(simp only[aI,aP,aH,i64,sa,aC,lm,la,lc,ln];omega)) only[go_sem,simprocAttr,h2,m1,hv,c2,ih2]|((first|rw[aM]|rw[aG]|rw[aD]|rw[aL]|rw[aO]|rw[aE]|rw[aF]|rw[aN]|skip);split)))
theorem K5(x:ZA)(h:¬x.fOp=19):∀(q:Nat) (l:List Int),rZ x q l=l
 |_,[]=>rfl
 |q,y::ys=>by
  rw[rZ,K5 x h (q+1) ys]
  simp[h]
theorem wF(l:List Int):(aK l).map (fun el=>el.map D.toR)=aK l:=by
 simp[D.toR]
theorem tB(x:ZA)(hl:x.fArgs.length≤1048576):call tab sL [x.x]=some (.d (.s 1 (aK (cD x)))):=by
 rw[aS Oq _ rfl,C4,cD]
 have a1:=dD x (65,2) (by simp)
 have a2:=dD x (66,4) (by simp)
 have a3:=dD x (88,32) (by simp)
 by_cases c0:x.fOp=19
 ·obtain⟨k1,k2,k3,k4⟩:=zWD c0
  have k0:decide (x.fOp=19)=true:=decide_eq_true c0
  have h0:=uB x hl c0 x.fArgs 0 [] rfl (by simp)
  simp only[Int.cast_ofNat_Int,mn,List.nil_append] at h0
  simp only[k0,k2,k3,k4,Bool.not_true,zzn,Bool.false_eq_true,if_false,if_true,List.nil_append]
  (repeat'(first|simp -implicitDefEqProofs (disch:=first|assumption|omega|(simp only[aI,aP,aH,i64,sa,aC,lm,la,lc,ln];omega)) only[go_sem,simprocAttr,h0]|((first|rw[aM]|rw[aG]|rw[aD]|rw[aL]|rw[aO]|rw[aE]|rw[aF]|rw[aN]|skip);split)))
 ·have k0:decide (x.fOp=19)=false:=decide_eq_false c0
  rw[K5 x c0]
  simp only[k0,Bool.not_false,bat]
  have hh:=wF x.fArgs
  have hal:=Ob x.fArgs
  cases c2:hb x 2<;>cases c4:hb x 4<;>cases c32:hb x 32<;>rw[c2] at a1<;>rw[c4] at a2<;>rw[c32] at a3<;>simp only[Bool.false_eq_true,if_false,if_true,List.nil_append,List.append_nil,List.cons_append]<;>(repeat'(first|simp -implicitDefEqProofs (disch:=first|assumption|omega|(simp only[aI,aP,aH,i64,sa,aC,lm,la,lc,ln];omega)) only[go_sem,simprocAttr,a1,a2,a3,aK,mc,mn,hh,hal]|((first|rw[aM]|rw[aG]|rw[aD]|rw[aL]|rw[aO]|rw[aE]|rw[aF]|rw[aN]|skip);split)))
set_option maxRecDepth 8000
set_option maxHeartbeats 4000000
def Mk:List Int→Bool
 |a::_::d::r=>inB a 1 2&& !(decide (a=1)&& !decide (d=0))&&Mk r
 |_=>true
theorem zyu:∀(l:List Int),l.length % 3=0→Mk l=zY l
 |[],_=>rfl
 |[_],h=>by simp at h
 |[_,_],h=>by simp at h
 |a::b::d::r,h=>by
  rw[Mk,zY,zyu r (by simp only[lc] at h;omega)]
abbrev vpT(x:ZA):X:= .vp [I x.fOp,I x.fD,I x.fA,I x.fB,I x.fN,Str x.fS,.d (.r (aK x.fArgs))]
theorem vT(x:ZA)(hl:x.fArgs.length≤1048576):∀(k:Nat) (Bl:List Int) (j:Int),Bl.length≤k→x.fArgs.drop j.toNat=Bl→0≤j→j≤1048580 →
  loopW tab [2,5] kR {env:=upd (upd emp 5 (some (I j))) 2 (some (vpT x)),heap:=emp,fr:=0,next:=0}=if Mk Bl=true then some (.ext 1,{env:=upd emp 2 (some (vpT x)),heap:=emp,fr:=0,next:=0}) else some (.ret,{env:=upd emp 4 (some (B false)),heap:=emp,fr:=0,next:=0})
 |_,[],j,hk,hd,hj,hj2=>by
  unfold loopW
  conv=>lhs;arg 1;unfold kR
  have h1:=cN hd hj
  simp only[Mk,if_true]
  (repeat'(first|simp -implicitDefEqProofs (disch:=first|assumption|omega|(simp only[aI,aP,aH,i64,sa,aC,lm,la,lc,ln];omega)) only[go_sem,simprocAttr]|((first|rw[aM]|rw[aG]|rw[aD]|rw[aL]|rw[aO]|rw[aE]|rw[aF]|rw[aN]|skip);split)))
 |0,_::_,j,hk,hd,hj,hj2=>by simp at hk
 |k+1,a::Bl,j,hk,hd,hj,hj2=>by
  unfold loopW
  conv=>lhs;arg 1;unfold kR
  have h1:=bL hd hj
  have h5:=h1.2.1
  have h2:=eM (fun n=>[DI n]) h1.1
  have hi:=dI a 1 2
  have hlen:=h1.2.2.2.2
  match Bl,h1,hlen with
  |[],h1,hlen =>
   simp only[ln] at hlen
   simp only[Mk,if_true]
   (repeat'(first|simp -implicitDefEqProofs (disch:=first|assumption|omega|(simp only[aI,aP,aH,i64,sa,aC,lm,la,lc,ln];omega)) only[go_sem,simprocAttr,h2]|((first|rw[aM]|rw[aG]|rw[aD]|rw[aL]|rw[aO]|rw[aE]|rw[aF]|rw[aN]|skip);split)))
  |[b],h1,hlen =>
   simp only[lc,ln] at hlen
   simp only[Mk,if_true]
   (repeat'(first|simp -implicitDefEqProofs (disch:=first|assumption|omega|(simp only[aI,aP,aH,i64,sa,aC,lm,la,lc,ln];omega)) only[go_sem,simprocAttr,h2]|((first|rw[aM]|rw[aG]|rw[aD]|rw[aL]|rw[aO]|rw[aE]|rw[aF]|rw[aN]|skip);split)))
  |b::d::Bl,h1,hlen =>
   simp only[lc] at hlen
   have hd3:x.fArgs.drop (j+3).toNat=Bl:=by
    have:=congrArg (List.drop 2) h1.2.2.1
    rw[List.drop_drop] at this
    simp only[List.drop_succ_cons,List.drop_zero] at this
    rw[←this]
    congr 1;omega
   have ih:=vT x hl k Bl (j+3) (by simp only[lc] at hk;omega) hd3 (by omega) (by omega)
   obtain⟨v,hv,hv2⟩:=zQO x.fArgs (j:=j+2) (by omega) (by omega)
   have hvd:v=d:=by
    have h3:=congrArg (fun l=>l[1]?) h1.2.2.1
    simp only[List.getElem?_drop,List.getElem?_cons_succ,List.getElem?_cons_zero] at h3
    rw[show(j+1).toNat+1=(j+2).toNat by omega,hv2] at h3
    simpa using h3
   subst hvd
   rw[Mk]
   cases c:inB a 1 2<;>rw[c] at hi<;>simp only[bta,bfa]<;>(repeat'(first|simp -implicitDefEqProofs (disch:=first|assumption|omega|(simp only[aI,aP,aH,i64,sa,aC,lm,la,lc,ln];omega)) only[go_sem,simprocAttr,h2,hi,hv,ih]|((first|rw[aM]|rw[aG]|rw[aD]|rw[aL]|rw[aO]|rw[aE]|rw[aF]|rw[aN]|skip);split)))
theorem zYg{x:ZA}(h:¬x.fOp=19)(h2:¬x.fOp=22):hb x 32=decide (x.fOp=11∨x.fOp=14):=by
 unfold hb
 generalize x.fOp=op at *
 by_cases h3:1≤op∧op≤28
 ·rcases Kb h3.1 h3.2 with rfl|rfl|rfl|rfl|rfl|rfl|rfl|rfl|rfl|rfl|rfl|rfl|rfl|rfl|rfl|rfl|rfl|rfl|rfl|rfl|rfl|rfl|rfl|rfl|rfl|rfl|rfl|rfl<;>first|decide|exact absurd rfl h|exact absurd rfl h2
 ·have e:decide (op=11∨op=14)=false:=decide_eq_false (by omega)
  rw[e,Jv,if_neg h3]
  decide
theorem Ga(x:ZA)(m:Int)(hl:x.fArgs.length≤1048576):call tab xJ [x.x,I m]=some (B (x4 x&&(!decide (x.fOp=19)||inB x.fN 0 1))):=by
 rw[aS I4 _ rfl,yT,x4]
 have h0:=vT x hl x.fArgs.length x.fArgs 0 (Nat.le_refl _) rfl (by omega) (by omega)
 have a1:=dD x (88,32) (by simp)
 have a2:=dI x.fArgs.length 3 9
 have a3:=dI x.fN 0 1
 have m1:((x.fArgs.length:Int)).tmod 3=((x.fArgs.length % 3:Nat):Int):=by have:=Ek (n:=(x.fArgs.length:Int)) (by omega) 3;simpa using this
 by_cases c0:x.fOp=19
 ·have k0:decide (x.fOp=19)=true:=decide_eq_true c0
  rw[if_pos c0]
  simp only[k0,Bool.not_true,Bool.false_or]
  by_cases c3:x.fArgs.length % 3=0
  ·rw[zyu _ c3] at h0
   rw[c3] at m1
   have e:(decide ((x.fArgs.length:Int)=3)||decide ((x.fArgs.length:Int)=6)||decide ((x.fArgs.length:Int)=9))=inB x.fArgs.length 3 9:=by
    rw[Bool.eq_iff_iff];simp[inB];omega
   rw[e]
   cases ct:zY x.fArgs<;>simp only[ct,Bool.false_eq_true,if_true,if_false] at h0
   ·(repeat'(first|simp -implicitDefEqProofs (disch:=first|assumption|omega|(simp only[aI,aP,aH,i64,sa,aC,lm,la,lc,ln];omega)) only[go_sem,simprocAttr,h0]|((first|rw[aM]|rw[aG]|rw[aD]|rw[aL]|rw[aO]|rw[aE]|rw[aF]|rw[aN]|skip);split)))
   ·cases c4:inB x.fArgs.length 3 9<;>rw[c4] at a2
    ·(repeat'(first|simp -implicitDefEqProofs (disch:=first|assumption|omega|(simp only[aI,aP,aH,i64,sa,aC,lm,la,lc,ln];omega)) only[go_sem,simprocAttr,h0,m1,a2]|((first|rw[aM]|rw[aG]|rw[aD]|rw[aL]|rw[aO]|rw[aE]|rw[aF]|rw[aN]|skip);split)))
    ·cases c5:inB x.fN 0 1<;>rw[c5] at a3<;>(repeat'(first|simp -implicitDefEqProofs (disch:=first|assumption|omega|(simp only[aI,aP,aH,i64,sa,aC,lm,la,lc,ln];omega)) only[go_sem,simprocAttr,h0,m1,a2,a3]|((first|rw[aM]|rw[aG]|rw[aD]|rw[aL]|rw[aO]|rw[aE]|rw[aF]|rw[aN]|skip);split)))
  ·have e:(decide ((x.fArgs.length:Int)=3)||decide ((x.fArgs.length:Int)=6)||decide ((x.fArgs.length:Int)=9))=false:=by
    rw[Bool.eq_false_iff];simp;omega
   rw[e]
   have c6:¬((x.fArgs.length % 3:Nat):Int)=0:=by omega
   generalize ((x.fArgs.length % 3:Nat):Int)=q at m1 c6
   cases ct:Mk x.fArgs<;>simp only[ct,Bool.false_eq_true,if_true,if_false] at h0<;>(repeat'(first|simp -implicitDefEqProofs (disch:=first|assumption|omega|(simp only[aI,aP,aH,i64,sa,aC,lm,la,lc,ln];omega)) only[go_sem,simprocAttr,h0,m1]|((first|rw[aM]|rw[aG]|rw[aD]|rw[aL]|rw[aO]|rw[aE]|rw[aF]|rw[aN]|skip);split)))
   all_goals simp
 ·have k0:decide (x.fOp=19)=false:=decide_eq_false c0
  rw[if_neg c0]
  simp only[k0,Bool.not_false,Bool.true_or,bat]
  by_cases c1:x.fOp=22
  ·rw[if_pos c1]
   (repeat'(first|simp -implicitDefEqProofs (disch:=first|assumption|omega|(simp only[aI,aP,aH,i64,sa,aC,lm,la,lc,ln];omega)) only[go_sem,simprocAttr]|((first|rw[aM]|rw[aG]|rw[aD]|rw[aL]|rw[aO]|rw[aE]|rw[aF]|rw[aN]|skip);split)))
  ·rw[if_neg c1]
   rw[zYg c0 c1] at a1
   by_cases c2:x.fOp=11∨x.fOp=14
   ·rw[if_pos c2]
    rw[decide_eq_true c2] at a1
    (repeat'(first|simp -implicitDefEqProofs (disch:=first|assumption|omega|(simp only[aI,aP,aH,i64,sa,aC,lm,la,lc,ln];omega)) only[go_sem,simprocAttr,a1]|((first|rw[aM]|rw[aG]|rw[aD]|rw[aL]|rw[aO]|rw[aE]|rw[aF]|rw[aN]|skip);split)))
   ·rw[if_neg c2]
    rw[decide_eq_false c2] at a1
    (repeat'(first|simp -implicitDefEqProofs (disch:=first|assumption|omega|(simp only[aI,aP,aH,i64,sa,aC,lm,la,lc,ln];omega)) only[go_sem,simprocAttr,a1]|((first|rw[aM]|rw[aG]|rw[aD]|rw[aL]|rw[aO]|rw[aE]|rw[aF]|rw[aN]|skip);split)))
theorem zxK(op:Int):decide (mC op=⟨#[]⟩)= !inB op 1 28:=by
 by_cases h:1≤op∧op≤28
 ·have e:inB op 1 28=true:=by simp[inB,h.1,h.2]
  rw[e]
  rcases Kb h.1 h.2 with rfl|rfl|rfl|rfl|rfl|rfl|rfl|rfl|rfl|rfl|rfl|rfl|rfl|rfl|rfl|rfl|rfl|rfl|rfl|rfl|rfl|rfl|rfl|rfl|rfl|rfl|rfl|rfl<;>decide
 ·have e:inB op 1 28=false:=by simp only[inB,←Bool.decide_and];exact decide_eq_false h
  rw[e,mC,if_neg h]
  decide
theorem Dz(r m:Int)(hm:i64 (m-1))(k:Nat)(h:Heap)(fr:Nat)(h1:1≤fr)(hk:h (0,k)=some (.s 1 [[DI m]]))(hh:bU fr h=h):evCW tab gQ [I r,.ptr (0,k) [] 0 0] h fr=some (B (!inB r 0 (m-1)),h):=by
 rw[dM Fu _ _ _ rfl,vM]
 (repeat'(first|simp -implicitDefEqProofs (disch:=first|assumption|omega|(simp only[aI,aP,aH,i64,sa,aC,lm,la,lc,ln];omega)) only[go_sem,simprocAttr,dI,hk,hh]|((first|rw[aM]|rw[aG]|rw[aD]|rw[aL]|rw[aO]|rw[aE]|rw[aF]|rw[aN]|skip);split)))
theorem Oc(k:Nat)(h:Heap)(x:Option D):bU 2 (upd h (0,k) x)=upd (bU 2 h) (0,k) x:=Zj 1 k h x
theorem zZW(k:Nat)(h:Heap)(x:Option D):bU 3 (upd h (0,k) x)=upd (bU 3 h) (0,k) x:=Zj 2 k h x
theorem I9(x:ZA)(m:Int)(hl:x.fArgs.length≤1048576)(hm:i64 (m-1)):call tab yX [x.x,I m]=some (B (P3 x m)):=by
 rw[aS Nv _ rfl,A5,P3]
 have a0:=A8 x.fOp
 have e0:=zxK x.fOp
 have a1:=Jr x.fN
 have a2:=Ga x m hl
 have b1:=dD x (68,1) (by simp)
 have b2:=dD x (65,2) (by simp)
 have b4:=dD x (66,4) (by simp)
 have b8:=dD x (78,8) (by simp)
 have b16:=dD x (83,16) (by simp)
 have s1:=lB x
 have s2:=mL x
 have hal:=Ob (cD x)
 cases c1:inB x.fOp 1 28<;>rw[c1] at e0
 ·(repeat'(first|simp -implicitDefEqProofs (disch:=first|assumption|omega|(simp only[aI,aP,aH,i64,sa,aC,lm,la,lc,ln];omega)) only[go_sem,simprocAttr,a0,e0]|((first|rw[aM]|rw[aG]|rw[aD]|rw[aL]|rw[aO]|rw[aE]|rw[aF]|rw[aN]|skip);split)))
 cases c5:zZx x.fN<;>rw[c5] at a1
 ·(repeat'(first|simp -implicitDefEqProofs (disch:=first|assumption|omega|(simp only[aI,aP,aH,i64,sa,aC,lm,la,lc,ln];omega)) only[go_sem,simprocAttr,a0,e0,a1]|((first|rw[aM]|rw[aG]|rw[aD]|rw[aL]|rw[aO]|rw[aE]|rw[aF]|rw[aN]|skip);split)))
  all_goals simp
 cases c2:(x4 x&&(!decide (x.fOp=19)||inB x.fN 0 1))<;>rw[c2] at a2
 ·have e:(true&&x4 x&&wN x m&&(!decide (x.fOp=19)||inB x.fN 0 1))=false:=by
   revert c2;cases x4 x<;>cases wN x m<;>cases (!decide (x.fOp=19)||inB x.fN 0 1)<;>simp
  rw[e]
  (repeat'(first|simp -implicitDefEqProofs (disch:=first|assumption|omega|(simp only[aI,aP,aH,i64,sa,aC,lm,la,lc,ln];omega)) only[go_sem,simprocAttr,a0,e0,a1,a2]|((first|rw[aM]|rw[aG]|rw[aD]|rw[aL]|rw[aO]|rw[aE]|rw[aF]|rw[aN]|skip);split)))
 ·have e:(true&&x4 x&&wN x m&&(!decide (x.fOp=19)||inB x.fN 0 1))=wN x m:=by
   rw[bE] at c2
   rw[c2.1,c2.2];simp
  rw[e]
  have h0:=fun (j k:Nat) (h:Heap) (hk:h (0,k)=some (.s 1 [[DI m]])) (hj:h (0,j)=some (.s 1 (aK (bP x++cD x)))) (h1:bU 1 h=h) (h2:bU 2 h=h) (h3:bU 3 h=h)=>pM gQ (fun r=> !inB r 0 (m-1)) h 1 h1 h2 (bP x++cD x) (by simp;omega) k j (by omega) hj (fun r _=>Dz r m hm k h 3 (by omega) hk h3)
  rw[zZt,←wN] at h0
  simp only[aK,List.map_append] at h0
  have h1:=h0 2432 32 (upd (upd (upd (upd (upd (upd emp (0,32) (some (.s 1 [[DI m]]))) (0,2336) (some (.s 1 (aK (bP x))))) (0,2400) (some (.s 1 (aK (cD x))))) (0,2336) none) (0,2400) none) (0,2432) (some (.s 1 (aK (bP x)++aK (cD x))))) (by simp[upd]) (by simp[upd]) (by simp only[Ew,lD]) (by simp only[Oc,lD]) (by simp only[zZW,lD])
  simp only[aK] at h1
  clear h0
  (repeat'(first|simp -implicitDefEqProofs (disch:=first|assumption|omega|(simp only[aI,aP,aH,i64,sa,aC,lm,la,lc,ln];omega)) only[go_sem,simprocAttr,a0,e0,a1,a2,b1,b2,b4,b8,b16,n5 x,tB x hl,hal,aK,h1]|((first|rw[aM]|rw[aG]|rw[aD]|rw[aL]|rw[aO]|rw[aE]|rw[aF]|rw[aN]|skip);split)))
  all_goals(clear h1;simp_all)
set_option maxRecDepth 8000
set_option maxHeartbeats 4000000
theorem Bp(t:ZA)(m:Int)(k:Nat)(h:Heap)(fr:Nat)(h1:1≤fr)(hk:h (0,k)=some (.s 1 [[DI m]]))(hh:bU fr h=h):evCW tab lV [t.x,.ptr (0,k) [] 0 0] h fr=some (B (xZ m t),h):=by
 rw[dM Cc _ _ _ rfl,sC,xZ]
 (repeat'(first|simp -implicitDefEqProofs (disch:=first|assumption|omega|(simp only[aI,aP,aH,i64,sa,aC,lm,la,lc,ln];omega)) only[go_sem,simprocAttr,hk,hh]|((first|rw[aM]|rw[aG]|rw[aD]|rw[aL]|rw[aO]|rw[aE]|rw[aF]|rw[aN]|skip);split)))
theorem uT(v0:List ZA)(m:Int)(hl:v0.length≤1048576):call tab jN [.d (.r (v0.map ZA.r)),I m]=some (I (i4 v0 m)):=by
 rw[aS F9 _ rfl,xD,i4]
 have h0:=rY lV (xZ m) (upd emp (0,0) (some (.s 1 [[DI m]]))) 1 (by simp only[Ew,lD]) v0 (by omega) 0 (by omega) (fun t _=>Bp t m 0 _ 2 (by omega) (by simp[upd]) (by simp only[Oc,lD]))
 (repeat'(first|simp -implicitDefEqProofs (disch:=first|assumption|omega|(simp only[aI,aP,aH,i64,sa,aC,lm,la,lc,ln];omega)) only[go_sem,simprocAttr,h0]|((first|rw[aM]|rw[aG]|rw[aD]|rw[aL]|rw[aO]|rw[aE]|rw[aF]|rw[aN]|skip);split)))
theorem Me(op:Int):call tab Cm [I op]=some (B (decide (op=12)||decide (op=9)||decide (op=28))):=by
 rw[aS Si _ rfl,Dd]
 (repeat'(first|simp -implicitDefEqProofs (disch:=first|assumption|omega|(simp only[aI,aP,aH,i64,sa,aC,lm,la,lc,ln];omega)) only[go_sem,simprocAttr]|((first|rw[aM]|rw[aG]|rw[aD]|rw[aL]|rw[aO]|rw[aE]|rw[aF]|rw[aN]|skip);split)))
theorem vQ(u:ZB)(hs:u.sm)(hr:i64 (u.fRegs-1))(hr2:u.fCode.length≤1048576):∀(Bl:List ZA) (j:Int),u.fCode.drop j.toNat=Bl→0≤j →
  loopW tab [1,26,27,28] kM {env:=upd (upd (upd (upd emp 28 (some (I j))) 27 (some (I (u.fCode.length:Int)))) 26 (some (.d (.r (u.fCode.map ZA.r))))) 1 (some (vpU u)),heap:=emp,fr:=0,next:=0}=if jQ u j Bl=true then some (.ext 0,{env:=upd emp 1 (some (vpU u)),heap:=emp,fr:=0,next:=0}) else some (.ret,{env:=upd emp 2 (some (B false)),heap:=emp,fr:=0,next:=0})
 |[],j,hd,hj=>by
  unfold loopW
  conv=>lhs;arg 1;unfold kM
  have h1:=cN hd hj
  (repeat'(first|simp -implicitDefEqProofs (disch:=first|assumption|omega|(simp only[aI,aP,aH,i64,sa,aC,lm,la,lc,ln];omega)) only[go_sem,simprocAttr,jQ]|((first|rw[aM]|rw[aG]|rw[aD]|rw[aL]|rw[aO]|rw[aE]|rw[aF]|rw[aN]|skip);split)))
 |t::Bl,j,hd,hj=>by
  unfold loopW
  conv=>lhs;arg 1;unfold kM
  have h1:=bL hd hj
  have h5:=h1.2.1
  have h2:=eM ZA.r h1.1
  simp only[ZA.r] at h2
  have hsx:=(hs.2.2 t h1.2.2.2.1).2
  have ih:=vQ u hs hr hr2 Bl (j+1) h1.2.2.1 (by omega)
  have a1:=I9 t u.fRegs hsx hr
  have a2:=uT u.fCode t.fN hr2
  have a3:=dI t.fN 0 900
  rw[jQ,zA]
  cases c1:P3 t u.fRegs<;>rw[c1] at a1
  ·(repeat'(first|simp -implicitDefEqProofs (disch:=first|assumption|omega|(simp only[aI,aP,aH,i64,sa,aC,lm,la,lc,ln];omega)) only[go_sem,simprocAttr,h2,a1]|((first|rw[aM]|rw[aG]|rw[aD]|rw[aL]|rw[aO]|rw[aE]|rw[aF]|rw[aN]|skip);split)))
  ·cases c2:inB t.fN 0 900<;>rw[c2] at a3
   ·(repeat'(first|simp -implicitDefEqProofs (disch:=first|assumption|omega|(simp only[aI,aP,aH,i64,sa,aC,lm,la,lc,ln];omega)) only[go_sem,simprocAttr,h2,a1,a2,a3,ih]|((first|rw[aM]|rw[aG]|rw[aD]|rw[aL]|rw[aO]|rw[aE]|rw[aF]|rw[aN]|skip);split)))
    all_goals(clear ih;simp_all)
    all_goals omega
   ·(repeat'(first|simp -implicitDefEqProofs (disch:=first|assumption|omega|(simp only[aI,aP,aH,i64,sa,aC,lm,la,lc,ln];omega)) only[go_sem,simprocAttr,h2,a1,a2,a3,ih]|((first|rw[aM]|rw[aG]|rw[aD]|rw[aL]|rw[aO]|rw[aE]|rw[aF]|rw[aN]|skip);split)))
    all_goals(clear ih;simp_all)
    all_goals omega
theorem lY(u:ZB)(hs:u.sm):call tab lE [u.x]=some (B (sT u)):=by
 rw[aS Jq _ rfl,x8,sT]
 have b1:=dI u.fRegs 0 250
 have b3:=dI u.fParams 0 (if 4<u.fRegs then 4 else u.fRegs)
 have b5:(if u.fRegs<4 then u.fRegs else 4)=(if 4<u.fRegs then(4:Int) else u.fRegs):=by split<;>split<;>omega
 have b4:=dI u.fCode.length 1 900
 have hl:=hs.2.1
 cases c1:inB u.fRegs 0 250<;>rw[c1] at b1
 ·(repeat'(first|simp -implicitDefEqProofs (disch:=first|assumption|omega|(simp only[aI,aP,aH,i64,sa,aC,lm,la,lc,ln];omega)) only[go_sem,simprocAttr,b1]|((first|rw[aM]|rw[aG]|rw[aD]|rw[aL]|rw[aO]|rw[aE]|rw[aF]|rw[aN]|skip);split)))
 cases c2:inB u.fParams 0 (if 4<u.fRegs then 4 else u.fRegs)<;>rw[c2] at b3
 ·generalize (if 4<u.fRegs then(4:Int) else u.fRegs)=mn at *
  (repeat'(first|simp -implicitDefEqProofs (disch:=first|assumption|omega|(simp only[aI,aP,aH,i64,sa,aC,lm,la,lc,ln];omega)) only[go_sem,simprocAttr,b1,b5,b3]|((first|rw[aM]|rw[aG]|rw[aD]|rw[aL]|rw[aO]|rw[aE]|rw[aF]|rw[aN]|skip);split)))
 cases c3:inB u.fCode.length 1 900<;>rw[c3] at b4
 ·generalize (if 4<u.fRegs then(4:Int) else u.fRegs)=mn at *
  (repeat'(first|simp -implicitDefEqProofs (disch:=first|assumption|omega|(simp only[aI,aP,aH,i64,sa,aC,lm,la,lc,ln];omega)) only[go_sem,simprocAttr,b1,b5,b3,b4]|((first|rw[aM]|rw[aG]|rw[aD]|rw[aL]|rw[aO]|rw[aE]|rw[aF]|rw[aN]|skip);split)))
 have g1:0≤u.fRegs∧u.fRegs≤250:=by simpa[inB] using c1
 have g3:1≤(u.fCode.length:Int)∧(u.fCode.length:Int)≤900:=by simpa[inB] using c3
 have h0:=vQ u hs ⟨by omega,by omega⟩ hl u.fCode 0 rfl (by omega)
 obtain⟨t,ht,ht2,_⟩:=Rz (l:=u.fCode) (by omega)
 have ht3:=Me t.fOp
 simp only[ZA.r] at ht2
 simp only[Yi,ht]
 generalize (if 4<u.fRegs then(4:Int) else u.fRegs)=mn at *
 cases c4:jQ u 0 u.fCode<;>simp only[c4,Bool.false_eq_true,if_true,if_false] at h0
 ·(repeat'(first|simp -implicitDefEqProofs (disch:=first|assumption|omega|(simp only[aI,aP,aH,i64,sa,aC,lm,la,lc,ln];omega)) only[go_sem,simprocAttr,b1,b5,b3,b4,h0]|((first|rw[aM]|rw[aG]|rw[aD]|rw[aL]|rw[aO]|rw[aE]|rw[aF]|rw[aN]|skip);split)))
 ·(repeat'(first|simp -implicitDefEqProofs (disch:=first|assumption|omega|(simp only[aI,aP,aH,i64,sa,aC,lm,la,lc,ln];omega)) only[go_sem,simprocAttr,b1,b5,b3,b4,h0,ht2,ht3]|((first|rw[aM]|rw[aG]|rw[aD]|rw[aL]|rw[aO]|rw[aE]|rw[aF]|rw[aN]|skip);split)))
end Go.Ev.G
