import Derived.Test.YtcaonmepamlclaaGreatEvQUnit2
import Derived.Test.YtcaonmepamlclaaGreatEvPMach
set_option linter.all false
namespace Go.Ev.G
set_option maxRecDepth 8000
set_option maxHeartbeats 4000000
def z5U:List Int:=[0,9,3,7,7,7,7,7,8,8,10,49,2,2,48,3,6,3,2,45,3,6,39,1,17,2,6,6,2]
def Yc(op:Int):Int:=if 1≤op∧op≤28 then(z5U[op.toNat]?).getD 0 else 0
theorem Z0{op:Int}(h:1≤op)(h2:op≤28):op=1∨op=2∨op=3∨op=4∨op=5∨op=6∨op=7∨op=8∨op=9∨op=10∨op=11∨op=12∨op=13∨op=14∨op=15∨op=16∨op=17∨op=18∨op=19∨op=20∨op=21∨op=22∨op=23∨op=24∨op=25∨op=26∨op=27∨op=28:=by omega
theorem eI(op:Int):call tab r8 [I op]=some (I (Yc op)):=by
 rw[aJ Yz _ rfl,Ja]
 have h3:=bR op 1 28
 by_cases h:1≤op∧op≤28
 ·obtain⟨h1,h2⟩:=h
  have h4:inB op 1 28=true:=by simp[inB,h1,h2]
  rw[h4] at h3
  rw[Yc,if_pos ⟨h1,h2⟩]
  rcases Z0 h1 h2 with rfl|rfl|rfl|rfl|rfl|rfl|rfl|rfl|rfl|rfl|rfl|rfl|rfl|rfl|rfl|rfl|rfl|rfl|rfl|rfl|rfl|rfl|rfl|rfl|rfl|rfl|rfl|rfl<;>simp -implicitDefEqProofs (disch:=first|assumption|omega|(simp only[aE,aQ,aD,i64,sa,aC,lm,la,lc,ln];omega)) only[go_sem,simprocAttr,h3,z5U]
 ·have h4:inB op 1 28=false:=by simp only[inB,←Bool.decide_and];exact decide_eq_false h
  rw[h4] at h3
  rw[Yc,if_neg h]
  simp -implicitDefEqProofs (disch:=first|assumption|omega|(simp only[aE,aQ,aD,i64,sa,aC,lm,la,lc,ln];omega)) only[go_sem,simprocAttr,h3]
def hb(x:ZD)(m:Int):Bool:=z2j (Yc x.fOp) m
theorem Sp(x:ZD)(m:Int):decide (bits .and .i64 (Yc x.fOp) m=0)= !hb x m:=by simp[hb,z2j]
def xC(x:ZD):List Int:=(if hb x 1=true then [x.fD] else [])++(if x.fOp=19 then [x.fB] else [])
theorem zjc(x:ZD):call tab Mv [x.x]=some (.d (.s 1 (bB (xC x)))):=by
 rw[aJ zvv _ rfl,Ol,xC]
 have e:=Sp x 1
 (repeat'(first|simp -implicitDefEqProofs (disch:=first|assumption|omega|(simp only[aE,aQ,aD,i64,sa,aC,lm,la,lc,ln];omega)) only[go_sem,simprocAttr,eI,e,mc,mn]|((first|rw[aL]|rw[aF]|rw[aG]|rw[aM]|rw[aN]|rw[aH]|rw[aI]|rw[aO]|skip);split)))
def z3n(args:List Int)(i:Nat):Bool:=decide (i % 3=1)||(decide (i % 3=2)&&decide (args[i-2]? = some 2))
def Ap(x:ZD):Nat→List Int→List Int
 |_,[]=>[]
 |q,y::ys=>(if (!decide (x.fOp=19)||z3n x.fArgs q)=true then [y] else [])++Ap x (q+1) ys
theorem Cd(x:ZD)(hl:x.fArgs.length≤1048576)(h32:hb x 32=true):∀(Bl:List Int) (j:Nat) (A:List Int),x.fArgs.drop j=Bl→A.length≤j+2 →
  loopW tab [1,3,4,5] kX {env:=upd (upd (upd (upd emp 5 (some (I (j:Int)))) 4 (some (I (Yc x.fOp)))) 3 (some (.ref (0,0) []))) 1 (some (.vp [I x.fOp,I x.fD,I x.fA,I x.fB,I x.fN,Str x.fS,.d (.r (bB x.fArgs))])),heap:=upd emp (0,0) (some (.s 1 (bB A))),fr:=0,next:=1}=some (.ext 0,{env:=upd emp 3 (some (.ref (0,0) [])),heap:=upd emp (0,0) (some (.s 1 (bB (A++Ap x j Bl)))),fr:=0,next:=1})
 |[],j,A,hd,hA=>by
  have hd2:x.fArgs.drop ((j:Int)).toNat=[]:=by simpa using hd
  have hj:(0:Int)≤j:=by omega
  unfold loopW
  conv=>lhs;arg 1;unfold kX
  have h1:=b9 hd2 hj
  (repeat'(first|simp -implicitDefEqProofs (disch:=first|assumption|omega|(simp only[aE,aQ,aD,i64,sa,aC,lm,la,lc,ln];omega)) only[go_sem,simprocAttr,Ap,List.append_nil]|((first|rw[aL]|rw[aF]|rw[aG]|rw[aM]|rw[aN]|rw[aH]|rw[aI]|rw[aO]|skip);split)))
 |y::Bl,j,A,hd,hA=>by
  have hd2:x.fArgs.drop ((j:Int)).toNat=y::Bl:=by simpa using hd
  have hj:(0:Int)≤j:=by omega
  unfold loopW
  conv=>lhs;arg 1;unfold kX
  have h1:=bK hd2 hj
  have h5:=h1.2.1
  have h2:=eK (fun n=>[DI n]) h1.1
  simp only[Int.toNat_natCast] at h2
  have h3:x.fArgs.drop (j+1)=Bl:=by have:=h1.2.2.1;rwa [show((j:Int)+1).toNat=j+1 by omega] at this
  have e:=Sp x 32
  have m1:((j:Int)).tmod 3=((j % 3:Nat):Int):=by have:=L3 (n:=(j:Int)) (by omega) 3;simpa using this
  have ih1:=Cd x hl h32 Bl (j+1) (A++[y]) h3 (by simp;omega)
  have ih2:=Cd x hl h32 Bl (j+1) A h3 (by omega)
  rw[show((j+1:Nat):Int)=(j:Int)+1 by omega] at ih1 ih2
  rw[Ap,←List.append_assoc]
  simp only[List.map_append,mc,mn] at ih1 ih2 ⊢
  by_cases c0:x.fOp=19
  ·have k0:decide (x.fOp=19)=true:=decide_eq_true c0
   simp only[k0,Bool.not_true,Bool.false_or,z3n]
   rcases (by omega:j % 3=0∨j % 3=1∨j % 3=2) with c1|c1|c1
   ·simp only[c1] at m1 ⊢
    (repeat'(first|simp -implicitDefEqProofs (disch:=first|assumption|omega|(simp only[aE,aQ,aD,i64,sa,aC,lm,la,lc,ln];omega)) only[go_sem,simprocAttr,h2,e,h32,m1,ih2]|((first|rw[aL]|rw[aF]|rw[aG]|rw[aM]|rw[aN]|rw[aH]|rw[aI]|rw[aO]|skip);split)))
   ·simp only[c1] at m1 ⊢
    (repeat'(first|simp -implicitDefEqProofs (disch:=first|assumption|omega|(simp only[aE,aQ,aD,i64,sa,aC,lm,la,lc,ln];omega)) only[go_sem,simprocAttr,h2,e,h32,m1,ih1]|((first|rw[aL]|rw[aF]|rw[aG]|rw[aM]|rw[aN]|rw[aH]|rw[aI]|rw[aO]|skip);split)))
   ·simp only[c1] at m1 ⊢
    have hj2:j-2<x.fArgs.length:=by omega
    obtain⟨v,hv,hv2⟩:=z8m x.fArgs (j:=(j:Int)-2) (by omega) (by omega)
    rw[show((j:Int)-2).toNat=j-2 by omega] at hv2
    by_cases c2:v=2
    ·subst c2
     simp only[hv2]
     (repeat'(first|simp -implicitDefEqProofs (disch:=first|assumption|omega|(simp only[aE,aQ,aD,i64,sa,aC,lm,la,lc,ln];omega)) only[go_sem,simprocAttr,h2,e,h32,m1,hv,ih1]|((first|rw[aL]|rw[aF]|rw[aG]|rw[aM]|rw[aN]|rw[aH]|rw[aI]|rw[aO]|skip);split)))
    ·have:¬(some v=some (2:Int)):=by simpa using c2
     simp only[hv2,this]
     (repeat'(first|simp -implicitDefEqProofs (disch:=first|assumption|omega|(simp only[aE,aQ,aD,i64,sa,aC,lm,la,lc,ln];omega)) only[go_sem,simprocAttr,h2,e,h32,m1,hv,c2,ih2]|((first|rw[aL]|rw[aF]|rw[aG]|rw[aM]|rw[aN]|rw[aH]|rw[aI]|rw[aO]|skip);split)))
  ·have k0:decide (x.fOp=19)=false:=decide_eq_false c0
   simp only[k0,Bool.not_false,Bool.true_or,if_true]
   (repeat'(first|simp -implicitDefEqProofs (disch:=first|assumption|omega|(simp only[aE,aQ,aD,i64,sa,aC,lm,la,lc,ln];omega)) only[go_sem,simprocAttr,h2,e,h32,ih1]|((first|rw[aL]|rw[aF]|rw[aG]|rw[aM]|rw[aN]|rw[aH]|rw[aI]|rw[aO]|skip);split)))
def uI(x:ZD):List Int:=(if hb x 2=true then [x.fA] else [])++((if (hb x 4&& !decide (x.fOp=19))=true then [x.fB] else [])++(if hb x 32=true then Ap x 0 x.fArgs else []))
theorem Xg(x:ZD)(hl:x.fArgs.length≤1048576)(h32:¬hb x 32=true)(w:List (List D)) :
  loopW tab [1,3,4,5] kX {env:=upd (upd (upd (upd emp 5 (some (I 0))) 4 (some (I (Yc x.fOp)))) 3 (some (.ref (0,0) []))) 1 (some (.vp [I x.fOp,I x.fD,I x.fA,I x.fB,I x.fN,Str x.fS,.d (.r (bB x.fArgs))])),heap:=upd emp (0,0) (some (.s 1 w)),fr:=0,next:=1}=some (.ext 0,{env:=upd emp 3 (some (.ref (0,0) [])),heap:=upd emp (0,0) (some (.s 1 w)),fr:=0,next:=1}):=by
 unfold loopW
 conv=>lhs;arg 1;unfold kX
 have e:=Sp x 32
 (repeat'(first|simp -implicitDefEqProofs (disch:=first|assumption|omega|(simp only[aE,aQ,aD,i64,sa,aC,lm,la,lc,ln];omega)) only[go_sem,simprocAttr,e]|((first|rw[aL]|rw[aF]|rw[aG]|rw[aM]|rw[aN]|rw[aH]|rw[aI]|rw[aO]|skip);split)))
theorem zjV(x:ZD)(hl:x.fArgs.length≤1048576):call tab Na [x.x]=some (.d (.s 1 (bB (uI x)))):=by
 rw[aJ zq7 _ rfl,O0,uI]
 have e2:=Sp x 2
 have e4:=Sp x 4
 have e32:=Sp x 32
 by_cases c:hb x 32=true
 ·have ih:=fun A hA=>Cd x hl c x.fArgs 0 A rfl hA
  simp only[Int.cast_ofNat_Int,bB,List.map_append] at ih
  have i0:=ih [] (by simp)
  have i1:=fun a=>ih [a] (by simp)
  have i2:=fun a b=>ih [a,b] (by simp)
  simp only[mc,mn,List.nil_append,List.cons_append] at i0 i1 i2
  simp only[c,if_true]
  cases c2:hb x 2<;>cases c4:hb x 4<;>simp only[c2,c4,bfa,bta,Bool.false_eq_true,if_true,if_false] at e2 e4 ⊢
  ·(repeat'(first|simp -implicitDefEqProofs (disch:=first|assumption|omega|(simp only[aE,aQ,aD,i64,sa,aC,lm,la,lc,ln];omega)) only[go_sem,simprocAttr,eI,e2,e4,c,i0,mc,mn,bB]|((first|rw[aL]|rw[aF]|rw[aG]|rw[aM]|rw[aN]|rw[aH]|rw[aI]|rw[aO]|skip);split)))
  ·by_cases c5:x.fOp=19
   ·(repeat'(first|simp -implicitDefEqProofs (disch:=first|assumption|omega|(simp only[aE,aQ,aD,i64,sa,aC,lm,la,lc,ln];omega)) only[go_sem,simprocAttr,eI,e2,e4,c,i0,mc,mn,bB]|((first|rw[aL]|rw[aF]|rw[aG]|rw[aM]|rw[aN]|rw[aH]|rw[aI]|rw[aO]|skip);split)))
   ·(repeat'(first|simp -implicitDefEqProofs (disch:=first|assumption|omega|(simp only[aE,aQ,aD,i64,sa,aC,lm,la,lc,ln];omega)) only[go_sem,simprocAttr,eI,e2,e4,c,i1,mc,mn,bB]|((first|rw[aL]|rw[aF]|rw[aG]|rw[aM]|rw[aN]|rw[aH]|rw[aI]|rw[aO]|skip);split)))
  ·(repeat'(first|simp -implicitDefEqProofs (disch:=first|assumption|omega|(simp only[aE,aQ,aD,i64,sa,aC,lm,la,lc,ln];omega)) only[go_sem,simprocAttr,eI,e2,e4,c,i1,mc,mn,bB]|((first|rw[aL]|rw[aF]|rw[aG]|rw[aM]|rw[aN]|rw[aH]|rw[aI]|rw[aO]|skip);split)))
  ·by_cases c5:x.fOp=19
   ·(repeat'(first|simp -implicitDefEqProofs (disch:=first|assumption|omega|(simp only[aE,aQ,aD,i64,sa,aC,lm,la,lc,ln];omega)) only[go_sem,simprocAttr,eI,e2,e4,c,i1,mc,mn,bB]|((first|rw[aL]|rw[aF]|rw[aG]|rw[aM]|rw[aN]|rw[aH]|rw[aI]|rw[aO]|skip);split)))
   ·(repeat'(first|simp -implicitDefEqProofs (disch:=first|assumption|omega|(simp only[aE,aQ,aD,i64,sa,aC,lm,la,lc,ln];omega)) only[go_sem,simprocAttr,eI,e2,e4,c,i2,mc,mn,bB]|((first|rw[aL]|rw[aF]|rw[aG]|rw[aM]|rw[aN]|rw[aH]|rw[aI]|rw[aO]|skip);split)))
 ·have i0:=Xg x hl c
  simp only[c,Bool.false_eq_true,if_false,List.append_nil]
  cases c2:hb x 2<;>cases c4:hb x 4<;>simp only[c2,c4,bfa,bta,Bool.false_eq_true,if_true,if_false] at e2 e4 ⊢ <;> (repeat'(first|simp -implicitDefEqProofs (disch:=first|assumption|omega|(simp only[aE,aQ,aD,i64,sa,aC,lm,la,lc,ln];omega)) only[go_sem,simprocAttr,eI,e2,e4,i0,mc,mn,bB]|((first|rw[aL]|rw[aF]|rw[aG]|rw[aM]|rw[aN]|rw[aH]|rw[aI]|rw[aO]|skip);split)))
def Mf(x:ZD)(m:Int):Bool:=(xC x++uI x).all fun r=>inB r 0 (m-1)
theorem C9(m:Int)(hm:i64 (m-1))(v5:List Int)(hl:v5.length≤2097152):∀(Bl:List Int) (j:Int),v5.drop j.toNat=Bl→0≤j →
  loopW tab [1,5,6] mS {env:=upd (upd (upd emp 6 (some (I j))) 5 (some (.ref (0,0) []))) 1 (some (I m)),heap:=upd emp (0,0) (some (.s 1 (bB v5))),fr:=0,next:=1}=if (Bl.all fun r=>inB r 0 (m-1))=true then some (.ext 0,{env:=emp,heap:=emp,fr:=0,next:=0}) else some (.ret,{env:=upd emp 4 (some (B false)),heap:=emp,fr:=0,next:=0})
 |[],j,hd,hj=>by
  unfold loopW
  conv=>lhs;arg 1;unfold mS
  have h1:=b9 hd hj
  (repeat'(first|simp -implicitDefEqProofs (disch:=first|assumption|omega|(simp only[aE,aQ,aD,i64,sa,aC,lm,la,lc,ln];omega)) only[go_sem,simprocAttr]|((first|rw[aL]|rw[aF]|rw[aG]|rw[aM]|rw[aN]|rw[aH]|rw[aI]|rw[aO]|skip);split)))
 |y::Bl,j,hd,hj=>by
  unfold loopW
  conv=>lhs;arg 1;unfold mS
  have h1:=bK hd hj
  have h5:=h1.2.1
  have h2:=eK (fun n=>[DI n]) h1.1
  have ih:=C9 m hm v5 hl Bl (j+1) h1.2.2.1 (by omega)
  have hi:=bR y 0 (m-1)
  rw[List.all_cons]
  cases c:inB y 0 (m-1)<;>rw[c] at hi<;>(repeat'(first|simp -implicitDefEqProofs (disch:=first|assumption|omega|(simp only[aE,aQ,aD,i64,sa,aC,lm,la,lc,ln];omega)) only[go_sem,simprocAttr,h2,hi,ih]|((first|rw[aL]|rw[aF]|rw[aG]|rw[aM]|rw[aN]|rw[aH]|rw[aI]|rw[aO]|skip);split)))
theorem zzg(x:ZD):(xC x).length≤2:=by
 unfold xC
 split<;>split<;>simp
theorem zzr(x:ZD):∀(q:Nat) (l:List Int),(Ap x q l).length≤l.length
 |_,[]=>by simp[Ap]
 |q,y::ys=>by
  have:=zzr x (q+1) ys
  rw[Ap]
  split<;>simp<;>omega
theorem Zm(x:ZD):(uI x).length≤x.fArgs.length+2:=by
 unfold uI
 have:=zzr x 0 x.fArgs
 split<;>split<;>split<;>simp<;>omega
theorem zjy(l:List Int):((l.map fun n=>[DI n]).all fun el=>el.length==1)=true:=by simp
theorem P3(x:ZD)(m:Int)(hl:x.fArgs.length≤1048576)(hm:i64 (m-1)):call tab Cw [x.x,I m]=some (B (Mf x m)):=by
 rw[aJ Vm _ rfl,F1,Mf]
 have h1:=zzg x
 have h2:=Zm x
 have h0:=C9 m hm (xC x++uI x) (by simp;omega) (xC x++uI x) 0 rfl (by omega)
 simp only[bB,List.map_append] at h0
 cases c:(xC x++uI x).all fun r=>inB r 0 (m-1)<;>simp only[c,Bool.false_eq_true,if_true,if_false] at h0<;>(repeat'(first|simp -implicitDefEqProofs (disch:=first|assumption|omega|(simp only[aE,aQ,aD,i64,sa,aC,lm,la,lc,ln];omega)) only[go_sem,simprocAttr,zjc x,zjV x hl,h0,bB,zjy]|((first|rw[aL]|rw[aF]|rw[aG]|rw[aM]|rw[aN]|rw[aH]|rw[aI]|rw[aO]|skip);split)))
def J2:List Int→Bool
 |[]=>true
 |[a]=>inB a 1 2
 |[a,_]=>inB a 1 2
 |a::_::d::r=>inB a 1 2&& !(decide (a=1)&& !decide (d=0))&&J2 r
theorem C3(x:ZD)(hl:x.fArgs.length≤1048576):∀(k:Nat) (Bl:List Int) (j:Int),Bl.length≤k→x.fArgs.drop j.toNat=Bl→0≤j→j≤1048580 →
  loopW tab [1,3,4] m5 {env:=upd (upd (upd emp 4 (some (I j))) 3 (some (I (x.fArgs.length:Int)))) 1 (some (.vp [I x.fOp,I x.fD,I x.fA,I x.fB,I x.fN,Str x.fS,.d (.r (bB x.fArgs))])),heap:=emp,fr:=0,next:=0}=if J2 Bl=true then some (.ext 1,{env:=upd emp 3 (some (I (x.fArgs.length:Int))),heap:=emp,fr:=0,next:=0}) else some (.ret,{env:=upd emp 2 (some (B false)),heap:=emp,fr:=0,next:=0})
 |_,[],j,hk,hd,hj,hj2=>by
  unfold loopW
  conv=>lhs;arg 1;unfold m5
  have h1:=b9 hd hj
  (repeat'(first|simp -implicitDefEqProofs (disch:=first|assumption|omega|(simp only[aE,aQ,aD,i64,sa,aC,lm,la,lc,ln];omega)) only[go_sem,simprocAttr,J2]|((first|rw[aL]|rw[aF]|rw[aG]|rw[aM]|rw[aN]|rw[aH]|rw[aI]|rw[aO]|skip);split)))
 |0,_::_,j,hk,hd,hj,hj2=>by simp at hk
 |k+1,a::Bl,j,hk,hd,hj,hj2=>by
  unfold loopW
  conv=>lhs;arg 1;unfold m5
  have h1:=bK hd hj
  have h5:=h1.2.1
  have h2:=eK (fun n=>[DI n]) h1.1
  have hi:=bR a 1 2
  have hlen:=h1.2.2.2.2
  have hd3:x.fArgs.drop (j+3).toNat=Bl.drop 2:=by
   have:=congrArg (List.drop 2) h1.2.2.1
   rw[List.drop_drop] at this
   rw[←this]
   congr 1;omega
  have ih:=C3 x hl k (Bl.drop 2) (j+3) (by simp only[lc] at hk;simp;omega) hd3 (by omega) (by omega)
  cases c:inB a 1 2<;>rw[c] at hi
  ·have e:J2 (a::Bl)=false:=by
    cases Bl with
    |nil=>simp[J2,c]
    |cons b Bl=>cases Bl<;>simp[J2,c]
   rw[e]
   (repeat'(first|simp -implicitDefEqProofs (disch:=first|assumption|omega|(simp only[aE,aQ,aD,i64,sa,aC,lm,la,lc,ln];omega)) only[go_sem,simprocAttr,h2,hi]|((first|rw[aL]|rw[aF]|rw[aG]|rw[aM]|rw[aN]|rw[aH]|rw[aI]|rw[aO]|skip);split)))
  ·match Bl,h1,hlen,hd3,ih with
   |[],h1,hlen,hd3,ih =>
    simp only[ln] at hlen
    simp only[List.drop_nil,J2,if_true] at ih
    simp only[J2,c,if_true]
    (repeat'(first|simp -implicitDefEqProofs (disch:=first|assumption|omega|(simp only[aE,aQ,aD,i64,sa,aC,lm,la,lc,ln];omega)) only[go_sem,simprocAttr,h2,hi,ih]|((first|rw[aL]|rw[aF]|rw[aG]|rw[aM]|rw[aN]|rw[aH]|rw[aI]|rw[aO]|skip);split)))
   |[b],h1,hlen,hd3,ih =>
    simp only[lc,ln] at hlen
    simp only[List.drop_succ_cons,List.drop_nil,J2,if_true] at ih
    simp only[J2,c,if_true]
    (repeat'(first|simp -implicitDefEqProofs (disch:=first|assumption|omega|(simp only[aE,aQ,aD,i64,sa,aC,lm,la,lc,ln];omega)) only[go_sem,simprocAttr,h2,hi,ih]|((first|rw[aL]|rw[aF]|rw[aG]|rw[aM]|rw[aN]|rw[aH]|rw[aI]|rw[aO]|skip);split)))
   |b::d::Bl,h1,hlen,hd3,ih =>
    simp only[lc] at hlen
    simp only[List.drop_succ_cons,List.drop_zero] at ih
    simp only[J2,c,bta]
    obtain⟨v,hv,hv2⟩:=z8m x.fArgs (j:=j+2) (by omega) (by omega)
    have hvd:v=d:=by
     have h3:=congrArg (fun l=>l[1]?) h1.2.2.1
     simp only[List.getElem?_drop,List.getElem?_cons_succ,List.getElem?_cons_zero] at h3
     rw[show(j+1).toNat+1=(j+2).toNat by omega,hv2] at h3
     simpa using h3
    subst hvd
    (repeat'(first|simp -implicitDefEqProofs (disch:=first|assumption|omega|(simp only[aE,aQ,aD,i64,sa,aC,lm,la,lc,ln];omega)) only[go_sem,simprocAttr,h2,hi,hv,ih]|((first|rw[aL]|rw[aF]|rw[aG]|rw[aM]|rw[aN]|rw[aH]|rw[aI]|rw[aO]|skip);split)))
def Iy(x:ZD):Bool:=if x.fOp=19 then J2 x.fArgs&&(decide ((x.fArgs.length:Int)=3)||decide ((x.fArgs.length:Int)=6)||decide ((x.fArgs.length:Int)=9)) else if x.fOp=22 then decide ((x.fArgs.length:Int)=1) else if x.fOp=11∨x.fOp=14 then decide ((x.fArgs.length:Int)≤4) else decide ((x.fArgs.length:Int)=0)
theorem Qd(x:ZD)(hl:x.fArgs.length≤1048576):call tab Cj [x.x]=some (B (Iy x)):=by
 rw[aJ Ui _ rfl,Ey,Iy]
 have h0:=C3 x hl x.fArgs.length x.fArgs 0 (Nat.le_refl _) rfl (by omega) (by omega)
 (repeat'(first|simp -implicitDefEqProofs (disch:=first|assumption|omega|(simp only[aE,aQ,aD,i64,sa,aC,lm,la,lc,ln];omega)) only[go_sem,simprocAttr,h0]|((first|rw[aL]|rw[aF]|rw[aG]|rw[aM]|rw[aN]|rw[aH]|rw[aI]|rw[aO]|skip);split)))
 all_goals clear h0
 all_goals simp_all
def zys(x:ZD)(m:Int):Bool:=inB x.fOp 1 28&&Iy x&&Mf x m&&(!decide (x.fOp=19)||inB x.fN 0 1)&&z8S x.fN&&(hb x 1||decide (x.fD=0))&&(hb x 2||decide (x.fA=0))&&(hb x 4||decide (x.fB=0))&&(hb x 8||decide (x.fN=0))&&(hb x 16||decide (x.fS=⟨#[]⟩))
theorem Nu(x:ZD)(m:Int)(hl:x.fArgs.length≤1048576)(hm:i64 (m-1)):call tab zF [x.x,I m]=some (B (zys x m)):=by
 rw[aJ Q6 _ rfl,Cz,zys]
 have a0:=eI x.fOp
 have a1:=bR x.fOp 1 28
 have a2:=Qd x hl
 have a3:=P3 x m hl hm
 have a4:=bR x.fN 0 1
 have a5:=X6 x.fN
 have e1:=Sp x 1
 have e2:=Sp x 2
 have e4:=Sp x 4
 have e8:=Sp x 8
 have e16:=Sp x 16
 cases c1:inB x.fOp 1 28<;>rw[c1] at a1
 ·(repeat'(first|simp -implicitDefEqProofs (disch:=first|assumption|omega|(simp only[aE,aQ,aD,i64,sa,aC,lm,la,lc,ln];omega)) only[go_sem,simprocAttr,a0,a1]|((first|rw[aL]|rw[aF]|rw[aG]|rw[aM]|rw[aN]|rw[aH]|rw[aI]|rw[aO]|skip);split)))
 cases c2:Iy x<;>rw[c2] at a2
 ·(repeat'(first|simp -implicitDefEqProofs (disch:=first|assumption|omega|(simp only[aE,aQ,aD,i64,sa,aC,lm,la,lc,ln];omega)) only[go_sem,simprocAttr,a0,a1,a2]|((first|rw[aL]|rw[aF]|rw[aG]|rw[aM]|rw[aN]|rw[aH]|rw[aI]|rw[aO]|skip);split)))
 cases c3:Mf x m<;>rw[c3] at a3
 ·(repeat'(first|simp -implicitDefEqProofs (disch:=first|assumption|omega|(simp only[aE,aQ,aD,i64,sa,aC,lm,la,lc,ln];omega)) only[go_sem,simprocAttr,a0,a1,a2,a3]|((first|rw[aL]|rw[aF]|rw[aG]|rw[aM]|rw[aN]|rw[aH]|rw[aI]|rw[aO]|skip);split)))
 have hn:(!decide (x.fOp=19)||inB x.fN 0 1)= !(decide (x.fOp=19)&& !inB x.fN 0 1):=by cases inB x.fN 0 1<;>simp
 rw[hn]
 by_cases c0:x.fOp=19
 ·cases c4:inB x.fN 0 1<;>rw[c4] at a4<;>have k0:decide (x.fOp=19)=true:=decide_eq_true c0
  ·simp only[k0]
   (repeat'(first|simp -implicitDefEqProofs (disch:=first|assumption|omega|(simp only[aE,aQ,aD,i64,sa,aC,lm,la,lc,ln];omega)) only[go_sem,simprocAttr,a0,a1,a2,a3,a4]|((first|rw[aL]|rw[aF]|rw[aG]|rw[aM]|rw[aN]|rw[aH]|rw[aI]|rw[aO]|skip);split)))
  ·simp only[k0]
   (repeat'(first|simp -implicitDefEqProofs (disch:=first|assumption|omega|(simp only[aE,aQ,aD,i64,sa,aC,lm,la,lc,ln];omega)) only[go_sem,simprocAttr,a0,a1,a2,a3,a4,a5,e1,e2,e4,e8,e16]|((first|rw[aL]|rw[aF]|rw[aG]|rw[aM]|rw[aN]|rw[aH]|rw[aI]|rw[aO]|skip);split)))
   all_goals simp_all
 ·have k0:decide (x.fOp=19)=false:=decide_eq_false c0
  simp only[k0]
  (repeat'(first|simp -implicitDefEqProofs (disch:=first|assumption|omega|(simp only[aE,aQ,aD,i64,sa,aC,lm,la,lc,ln];omega)) only[go_sem,simprocAttr,a0,a1,a2,a3,a4,a5,e1,e2,e4,e8,e16]|((first|rw[aL]|rw[aF]|rw[aG]|rw[aM]|rw[aN]|rw[aH]|rw[aI]|rw[aO]|skip);split)))
  all_goals simp_all
def K4(m:Int)(t:ZD):Bool:=decide (t.fOp=8)&&decide (t.fN=m)
theorem zO(v0:List ZD)(m:Int)(hl:v0.length≤1048576):∀(Bl:List ZD) (j:Int),v0.drop j.toNat=Bl→0≤j →
  loopW tab [0,1,5] lZ {env:=upd (upd (upd emp 5 (some (I j))) 1 (some (I m))) 0 (some (.d (.r (v0.map ZD.r)))),heap:=emp,fr:=0,next:=0}=if aS (K4 m) j Bl= -1 then some (.ext 0,{env:=emp,heap:=emp,fr:=0,next:=0}) else some (.ret,{env:=upd emp 4 (some (I (aS (K4 m) j Bl))),heap:=emp,fr:=0,next:=0})
 |[],j,hd,hj=>by
  unfold loopW
  conv=>lhs;arg 1;unfold lZ
  have h1:=b9 hd hj
  simp only[aS,if_true]
  (repeat'(first|simp -implicitDefEqProofs (disch:=first|assumption|omega|(simp only[aE,aQ,aD,i64,sa,aC,lm,la,lc,ln];omega)) only[go_sem,simprocAttr]|((first|rw[aL]|rw[aF]|rw[aG]|rw[aM]|rw[aN]|rw[aH]|rw[aI]|rw[aO]|skip);split)))
 |t::Bl,j,hd,hj=>by
  unfold loopW
  conv=>lhs;arg 1;unfold lZ
  have h1:=bK hd hj
  have h5:=h1.2.1
  have h2:=eK ZD.r h1.1
  simp only[ZD.r] at h2
  have ih:=zO v0 m hl Bl (j+1) h1.2.2.1 (by omega)
  rw[aS]
  by_cases c1:t.fOp=8
  ·by_cases c2:t.fN=m
   ·have hp:K4 m t=true:=by simp[K4,c1,c2]
    rw[if_pos hp,if_neg (by omega)]
    (repeat'(first|simp -implicitDefEqProofs (disch:=first|assumption|omega|(simp only[aE,aQ,aD,i64,sa,aC,lm,la,lc,ln];omega)) only[go_sem,simprocAttr,h2]|((first|rw[aL]|rw[aF]|rw[aG]|rw[aM]|rw[aN]|rw[aH]|rw[aI]|rw[aO]|skip);split)))
   ·have hp:¬K4 m t=true:=by simp[K4,c2]
    rw[if_neg hp,←ih]
    (repeat'(first|simp -implicitDefEqProofs (disch:=first|assumption|omega|(simp only[aE,aQ,aD,i64,sa,aC,lm,la,lc,ln];omega)) only[go_sem,simprocAttr,h2]|((first|rw[aL]|rw[aF]|rw[aG]|rw[aM]|rw[aN]|rw[aH]|rw[aI]|rw[aO]|skip);split)))
  ·have hp:¬K4 m t=true:=by simp[K4,c1]
   rw[if_neg hp,←ih]
   (repeat'(first|simp -implicitDefEqProofs (disch:=first|assumption|omega|(simp only[aE,aQ,aD,i64,sa,aC,lm,la,lc,ln];omega)) only[go_sem,simprocAttr,h2]|((first|rw[aL]|rw[aF]|rw[aG]|rw[aM]|rw[aN]|rw[aH]|rw[aI]|rw[aO]|skip);split)))
theorem Ns(v0:List ZD)(m:Int)(hl:v0.length≤1048576):call tab rG [.d (.r (v0.map ZD.r)),I m]=some (I (aS (K4 m) 0 v0)):=by
 rw[aJ Q3 _ rfl,De]
 have h0:=zO v0 m hl v0 0 rfl (by omega)
 by_cases hp:aS (K4 m) 0 v0= -1
 ·rw[if_pos hp] at h0
  (repeat'(first|simp -implicitDefEqProofs (disch:=first|assumption|omega|(simp only[aE,aQ,aD,i64,sa,aC,lm,la,lc,ln];omega)) only[go_sem,simprocAttr,h0,hp]|((first|rw[aL]|rw[aF]|rw[aG]|rw[aM]|rw[aN]|rw[aH]|rw[aI]|rw[aO]|skip);split)))
 ·rw[if_neg hp] at h0
  (repeat'(first|simp -implicitDefEqProofs (disch:=first|assumption|omega|(simp only[aE,aQ,aD,i64,sa,aC,lm,la,lc,ln];omega)) only[go_sem,simprocAttr,h0]|((first|rw[aL]|rw[aF]|rw[aG]|rw[aM]|rw[aN]|rw[aH]|rw[aI]|rw[aO]|skip);split)))
set_option maxRecDepth 8000
set_option maxHeartbeats 4000000
def zvg(code:List ZD)(m:Int):Int:=aS (K4 m) 0 code
def zy5(u:ZE)(j:Int)(t:ZD):Bool:=zys t u.fRegs&& !((decide (t.fOp=8)&&(!decide (zvg u.fCode t.fN=j) || !inB t.fN 0 900))||((decide (t.fOp=9)||decide (t.fOp=10))&&decide (zvg u.fCode t.fN<0)))
def rE(u:ZE):Int→List ZD→Bool
 |_,[]=>true
 |j,t::r=>zy5 u j t&&rE u (j+1) r
abbrev vpU(u:ZE):X:= .vp [Str u.fName,I u.fParams,I u.fRegs,.d (.r (u.fCode.map ZD.r))]
theorem Jd(a b:Int):call tab Jl [I a,I b]=some (I (if a<b then a else b)):=by
 rw[aJ zji _ rfl,K9]
 (repeat'(first|simp -implicitDefEqProofs (disch:=first|assumption|omega|(simp only[aE,aQ,aD,i64,sa,aC,lm,la,lc,ln];omega)) only[go_sem,simprocAttr]|((first|rw[aL]|rw[aF]|rw[aG]|rw[aM]|rw[aN]|rw[aH]|rw[aI]|rw[aO]|skip);split)))
theorem F6(u:ZE)(hs:u.sm)(hr:i64 (u.fRegs-1))(hr2:u.fCode.length≤1048576):∀(Bl:List ZD) (j:Int),u.fCode.drop j.toNat=Bl→0≤j →
  loopW tab [1,3,4] oH {env:=upd (upd (upd emp 4 (some (I j))) 3 (some (I (u.fCode.length:Int)))) 1 (some (vpU u)),heap:=emp,fr:=0,next:=0}=if rE u j Bl=true then some (.ext 0,{env:=upd (upd emp 3 (some (I (u.fCode.length:Int)))) 1 (some (vpU u)),heap:=emp,fr:=0,next:=0}) else some (.ret,{env:=upd emp 2 (some (B false)),heap:=emp,fr:=0,next:=0})
 |[],j,hd,hj=>by
  unfold loopW
  conv=>lhs;arg 1;unfold oH
  have h1:=b9 hd hj
  (repeat'(first|simp -implicitDefEqProofs (disch:=first|assumption|omega|(simp only[aE,aQ,aD,i64,sa,aC,lm,la,lc,ln];omega)) only[go_sem,simprocAttr,rE]|((first|rw[aL]|rw[aF]|rw[aG]|rw[aM]|rw[aN]|rw[aH]|rw[aI]|rw[aO]|skip);split)))
 |t::Bl,j,hd,hj=>by
  unfold loopW
  conv=>lhs;arg 1;unfold oH
  have h1:=bK hd hj
  have h5:=h1.2.1
  have h2:=eK ZD.r h1.1
  simp only[ZD.r] at h2
  have hsx:=(hs.2.2 t h1.2.2.2.1).2
  have ih:=F6 u hs hr hr2 Bl (j+1) h1.2.2.1 (by omega)
  have a1:=Nu t u.fRegs hsx hr
  have a2:call tab rG [.d (.r (u.fCode.map ZD.r)),I t.fN]=some (I (zvg u.fCode t.fN)):=Ns u.fCode t.fN hr2
  have a3:=bR t.fN 0 900
  rw[rE,zy5]
  cases c1:zys t u.fRegs<;>rw[c1] at a1
  ·(repeat'(first|simp -implicitDefEqProofs (disch:=first|assumption|omega|(simp only[aE,aQ,aD,i64,sa,aC,lm,la,lc,ln];omega)) only[go_sem,simprocAttr,h2,a1]|((first|rw[aL]|rw[aF]|rw[aG]|rw[aM]|rw[aN]|rw[aH]|rw[aI]|rw[aO]|skip);split)))
  ·cases c2:inB t.fN 0 900<;>rw[c2] at a3
   ·(repeat'(first|simp -implicitDefEqProofs (disch:=first|assumption|omega|(simp only[aE,aQ,aD,i64,sa,aC,lm,la,lc,ln];omega)) only[go_sem,simprocAttr,h2,a1,a2,a3,ih]|((first|rw[aL]|rw[aF]|rw[aG]|rw[aM]|rw[aN]|rw[aH]|rw[aI]|rw[aO]|skip);split)))
    all_goals simp_all
   ·(repeat'(first|simp -implicitDefEqProofs (disch:=first|assumption|omega|(simp only[aE,aQ,aD,i64,sa,aC,lm,la,lc,ln];omega)) only[go_sem,simprocAttr,h2,a1,a2,a3,ih]|((first|rw[aL]|rw[aF]|rw[aG]|rw[aM]|rw[aN]|rw[aH]|rw[aI]|rw[aO]|skip);split)))
    all_goals simp_all
def zY9(l:List ZD):Bool:=match l.getLast? with
 |some t=>decide (t.fOp=12)||decide (t.fOp=9)||decide (t.fOp=28)
 |none=>false
def oR(u:ZE):Bool:=inB u.fRegs 0 250&&inB u.fParams 0 (if 4<u.fRegs then 4 else u.fRegs)&&inB u.fCode.length 1 900&&rE u 0 u.fCode&&zY9 u.fCode
theorem zkq{l:List ZD}(h:1≤l.length):∃t,l.getLast? = some t∧(l.map ZD.r)[((l.length:Int)-1).toNat]? = some t.r∧t∈l:=by
 have h1:l≠[]:=by intro e;rw[e] at h;simp at h
 refine⟨l.getLast h1,List.getLast?_eq_some_getLast h1,?_,List.getLast_mem h1⟩
 rw[List.getElem?_map,show((l.length:Int)-1).toNat=l.length-1 by omega,←List.getLast?_eq_getElem?,List.getLast?_eq_some_getLast h1]
 rfl
theorem Ws(u:ZE)(hs:u.sm):call tab rM [u.x]=some (B (oR u)):=by
 rw[aJ Iv _ rfl,xS,oR]
 have b1:=bR u.fRegs 0 250
 have b2:=Jd 4 u.fRegs
 have b3:=bR u.fParams 0 (if 4<u.fRegs then 4 else u.fRegs)
 have b4:=bR u.fCode.length 1 900
 have hl:=hs.2.1
 cases c1:inB u.fRegs 0 250<;>rw[c1] at b1
 ·(repeat'(first|simp -implicitDefEqProofs (disch:=first|assumption|omega|(simp only[aE,aQ,aD,i64,sa,aC,lm,la,lc,ln];omega)) only[go_sem,simprocAttr,b1]|((first|rw[aL]|rw[aF]|rw[aG]|rw[aM]|rw[aN]|rw[aH]|rw[aI]|rw[aO]|skip);split)))
 cases c2:inB u.fParams 0 (if 4<u.fRegs then 4 else u.fRegs)<;>rw[c2] at b3
 ·generalize (if 4<u.fRegs then(4:Int) else u.fRegs)=mn at *
  (repeat'(first|simp -implicitDefEqProofs (disch:=first|assumption|omega|(simp only[aE,aQ,aD,i64,sa,aC,lm,la,lc,ln];omega)) only[go_sem,simprocAttr,b1,b2,b3]|((first|rw[aL]|rw[aF]|rw[aG]|rw[aM]|rw[aN]|rw[aH]|rw[aI]|rw[aO]|skip);split)))
 cases c3:inB u.fCode.length 1 900<;>rw[c3] at b4
 ·generalize (if 4<u.fRegs then(4:Int) else u.fRegs)=mn at *
  (repeat'(first|simp -implicitDefEqProofs (disch:=first|assumption|omega|(simp only[aE,aQ,aD,i64,sa,aC,lm,la,lc,ln];omega)) only[go_sem,simprocAttr,b1,b2,b3,b4]|((first|rw[aL]|rw[aF]|rw[aG]|rw[aM]|rw[aN]|rw[aH]|rw[aI]|rw[aO]|skip);split)))
 have g1:0≤u.fRegs∧u.fRegs≤250:=by simpa[inB] using c1
 have g3:1≤(u.fCode.length:Int)∧(u.fCode.length:Int)≤900:=by simpa[inB] using c3
 have h0:=F6 u hs ⟨by omega,by omega⟩ hl u.fCode 0 rfl (by omega)
 obtain⟨t,ht,ht2,_⟩:=zkq (l:=u.fCode) (by omega)
 simp only[ZD.r] at ht2
 simp only[zY9,ht]
 generalize (if 4<u.fRegs then(4:Int) else u.fRegs)=mn at *
 cases c4:rE u 0 u.fCode<;>simp only[c4,Bool.false_eq_true,if_true,if_false] at h0
 ·(repeat'(first|simp -implicitDefEqProofs (disch:=first|assumption|omega|(simp only[aE,aQ,aD,i64,sa,aC,lm,la,lc,ln];omega)) only[go_sem,simprocAttr,b1,b2,b3,b4,h0]|((first|rw[aL]|rw[aF]|rw[aG]|rw[aM]|rw[aN]|rw[aH]|rw[aI]|rw[aO]|skip);split)))
 ·(repeat'(first|simp -implicitDefEqProofs (disch:=first|assumption|omega|(simp only[aE,aQ,aD,i64,sa,aC,lm,la,lc,ln];omega)) only[go_sem,simprocAttr,b1,b2,b3,b4,h0,ht2]|((first|rw[aL]|rw[aF]|rw[aG]|rw[aM]|rw[aN]|rw[aH]|rw[aI]|rw[aO]|skip);split)))
  all_goals simp_all
set_option maxRecDepth 8000
set_option maxHeartbeats 4000000
theorem Ar(f:Nat)(p:ZD→Bool)(h:Heap)(fr:Nat)(hh:bS fr h=h)(xs:List ZD)(hx:xs.length≤140737488351232)(kc:Nat)(h1:1≤fr)(hf:∀x∈xs,evCW tab f [x.x,.ptr (0,kc) [] 0 0] h (fr+1)=some (B (p x),h)):∀(Bl:List ZD) (j:Int),xs.drop j.toNat=Bl→0≤j →
  loopW tab [0,1,7,8] cD {env:=upd (upd (upd (upd emp 8 (some (I j))) 7 (some (I (xs.length:Int)))) 1 (some (.clo f [.ptr (0,kc) [] 0 0]))) 0 (some (.d (.r (xs.map (ZD.r))))),heap:=h,fr:=fr,next:=0}=if aS p j Bl= -1 then some (.ext 0,{env:=emp,heap:=h,fr:=fr,next:=0}) else some (.ret,{env:=upd emp 4 (some (I (aS p j Bl))),heap:=h,fr:=fr,next:=0})
 |[],j,hd,hj=>by
  unfold loopW
  conv=>lhs;arg 1;unfold cD
  have:=b9 hd hj
  simp only[aS,if_true]
  (repeat'(first|simp -implicitDefEqProofs (disch:=first|assumption|omega|(simp only[aE,aQ,aD,i64,sa,aC,lm,la,lc,ln];omega)) only[go_sem,simprocAttr,hh,show ¬0=fr from by omega]|((first|rw[aL]|rw[aF]|rw[aG]|rw[aM]|rw[aN]|rw[aH]|rw[aI]|rw[aO]|skip);split)))
 |x::Bl,j,hd,hj=>by
  unfold loopW
  conv=>lhs;arg 1;unfold cD
  have h4:=(bK hd hj).2.1
  have ih:=Ar f p h fr hh xs hx kc h1 hf Bl (j+1) (bK hd hj).2.2.1 (by omega)
  have h2:=eK (ZD.r) (bK hd hj).1
  simp only[ZD.r] at h2
  have h3:=hf x (bK hd hj).2.2.2.1
  rw[aS]
  by_cases hp:p x=true
  ·rw[if_pos hp,if_neg (by omega)]
   (repeat'(first|simp -implicitDefEqProofs (disch:=first|assumption|omega|(simp only[aE,aQ,aD,i64,sa,aC,lm,la,lc,ln];omega)) only[go_sem,simprocAttr,h2,show ¬0=fr from by omega,h3,hh]|((first|rw[aL]|rw[aF]|rw[aG]|rw[aM]|rw[aN]|rw[aH]|rw[aI]|rw[aO]|skip);split)))
  ·rw[if_neg hp,←ih]
   (repeat'(first|simp -implicitDefEqProofs (disch:=first|assumption|omega|(simp only[aE,aQ,aD,i64,sa,aC,lm,la,lc,ln];omega)) only[go_sem,simprocAttr,h2,show ¬0=fr from by omega,h3,hh]|((first|rw[aL]|rw[aF]|rw[aG]|rw[aM]|rw[aN]|rw[aH]|rw[aI]|rw[aO]|skip);split)))
theorem A6(f:Nat)(p:ZD→Bool)(h:Heap)(fr:Nat)(hh:bS fr h=h)(xs:List ZD)(hx:xs.length≤140737488351232)(kc:Nat)(h1:1≤fr)(hf:∀x∈xs,evCW tab f [x.x,.ptr (0,kc) [] 0 0] h (fr+1)=some (B (p x),h)):evCW tab d4 [.d (.r (xs.map (ZD.r))),.clo f [.ptr (0,kc) [] 0 0]] h fr=some (I (aS p 0 xs),h):=by
 rw[aP nJ _ _ _ rfl,fT]
 have h0:=Ar f p h fr hh xs hx kc h1 hf xs 0 rfl (by omega)
 by_cases hp:aS p 0 xs= -1
 ·rw[if_pos hp] at h0
  (repeat'(first|simp -implicitDefEqProofs (disch:=first|assumption|omega|(simp only[aE,aQ,aD,i64,sa,aC,lm,la,lc,ln];omega)) only[go_sem,simprocAttr,hh,h0,hp,show ¬0=fr from by omega]|((first|rw[aL]|rw[aF]|rw[aG]|rw[aM]|rw[aN]|rw[aH]|rw[aI]|rw[aO]|skip);split)))
 ·rw[if_neg hp] at h0
  (repeat'(first|simp -implicitDefEqProofs (disch:=first|assumption|omega|(simp only[aE,aQ,aD,i64,sa,aC,lm,la,lc,ln];omega)) only[go_sem,simprocAttr,hh,h0,hp,show ¬0=fr from by omega]|((first|rw[aL]|rw[aF]|rw[aG]|rw[aM]|rw[aN]|rw[aH]|rw[aI]|rw[aO]|skip);split)))
theorem zZ(f:Nat)(p:Int→Bool)(h:Heap)(fr:Nat)(hh:bS fr h=h)(xs:List Int)(hx:xs.length≤140737488351232)(kc:Nat)(k:Nat)(h1:1≤fr)(hk:h (0,k)=some (.s 1 (xs.map (fun n=>[DI n]))))(hf:∀x∈xs,evCW tab f [I x,.ptr (0,kc) [] 0 0] h (fr+1)=some (B (p x),h)):∀(Bl:List Int) (j:Int),xs.drop j.toNat=Bl→0≤j →
  loopW tab [0,1,7,8] dY {env:=upd (upd (upd (upd emp 8 (some (I j))) 7 (some (I (xs.length:Int)))) 1 (some (.clo f [.ptr (0,kc) [] 0 0]))) 0 (some (.ref (0,k) [])),heap:=h,fr:=fr,next:=0}=if aS p j Bl= -1 then some (.ext 0,{env:=emp,heap:=h,fr:=fr,next:=0}) else some (.ret,{env:=upd emp 4 (some (I (aS p j Bl))),heap:=h,fr:=fr,next:=0})
 |[],j,hd,hj=>by
  unfold loopW
  conv=>lhs;arg 1;unfold dY
  have:=b9 hd hj
  simp only[aS,if_true]
  (repeat'(first|simp -implicitDefEqProofs (disch:=first|assumption|omega|(simp only[aE,aQ,aD,i64,sa,aC,lm,la,lc,ln];omega)) only[go_sem,simprocAttr,hh,show ¬0=fr from by omega]|((first|rw[aL]|rw[aF]|rw[aG]|rw[aM]|rw[aN]|rw[aH]|rw[aI]|rw[aO]|skip);split)))
 |x::Bl,j,hd,hj=>by
  unfold loopW
  conv=>lhs;arg 1;unfold dY
  have h4:=(bK hd hj).2.1
  have ih:=zZ f p h fr hh xs hx kc k h1 hk hf Bl (j+1) (bK hd hj).2.2.1 (by omega)
  have h2:=eK (fun n=>[DI n]) (bK hd hj).1
  have h3:=hf x (bK hd hj).2.2.2.1
  rw[aS]
  by_cases hp:p x=true
  ·rw[if_pos hp,if_neg (by omega)]
   (repeat'(first|simp -implicitDefEqProofs (disch:=first|assumption|omega|(simp only[aE,aQ,aD,i64,sa,aC,lm,la,lc,ln];omega)) only[go_sem,simprocAttr,h2,hk,show ¬0=fr from by omega,h3,hh]|((first|rw[aL]|rw[aF]|rw[aG]|rw[aM]|rw[aN]|rw[aH]|rw[aI]|rw[aO]|skip);split)))
  ·rw[if_neg hp,←ih]
   (repeat'(first|simp -implicitDefEqProofs (disch:=first|assumption|omega|(simp only[aE,aQ,aD,i64,sa,aC,lm,la,lc,ln];omega)) only[go_sem,simprocAttr,h2,hk,show ¬0=fr from by omega,h3,hh]|((first|rw[aL]|rw[aF]|rw[aG]|rw[aM]|rw[aN]|rw[aH]|rw[aI]|rw[aO]|skip);split)))
theorem Ae(f:Nat)(p:Int→Bool)(h:Heap)(fr:Nat)(hh:bS fr h=h)(xs:List Int)(hx:xs.length≤140737488351232)(kc:Nat)(k:Nat)(h1:1≤fr)(hk:h (0,k)=some (.s 1 (xs.map (fun n=>[DI n]))))(hf:∀x∈xs,evCW tab f [I x,.ptr (0,kc) [] 0 0] h (fr+1)=some (B (p x),h)):evCW tab iW [.ref (0,k) [],.clo f [.ptr (0,kc) [] 0 0]] h fr=some (I (aS p 0 xs),h):=by
 rw[aP uO _ _ _ rfl,mN]
 have h0:=zZ f p h fr hh xs hx kc k h1 hk hf xs 0 rfl (by omega)
 by_cases hp:aS p 0 xs= -1
 ·rw[if_pos hp] at h0
  (repeat'(first|simp -implicitDefEqProofs (disch:=first|assumption|omega|(simp only[aE,aQ,aD,i64,sa,aC,lm,la,lc,ln];omega)) only[go_sem,simprocAttr,hh,h0,hp,hk,show ¬0=fr from by omega]|((first|rw[aL]|rw[aF]|rw[aG]|rw[aM]|rw[aN]|rw[aH]|rw[aI]|rw[aO]|skip);split)))
 ·rw[if_neg hp] at h0
  (repeat'(first|simp -implicitDefEqProofs (disch:=first|assumption|omega|(simp only[aE,aQ,aD,i64,sa,aC,lm,la,lc,ln];omega)) only[go_sem,simprocAttr,hh,h0,hp,hk,show ¬0=fr from by omega]|((first|rw[aL]|rw[aF]|rw[aG]|rw[aM]|rw[aN]|rw[aH]|rw[aI]|rw[aO]|skip);split)))
theorem vP(f:Nat)(p:Int→Bool)(h:Heap)(fr:Nat)(hh:bS fr h=h)(hh':bS (fr+1) h=h)(xs:List Int)(hx:xs.length≤140737488351232)(kc:Nat)(k:Nat)(h1:1≤fr)(hk:h (0,k)=some (.s 1 (xs.map (fun n=>[DI n]))))(hf:∀x∈xs,evCW tab f [I x,.ptr (0,kc) [] 0 0] h (fr+2)=some (B (p x),h)):evCW tab fZ [.ref (0,k) [],.clo f [.ptr (0,kc) [] 0 0]] h fr=some (B (xs.any p),h):=by
 rw[aP rK _ _ _ rfl,jZ]
 have h0:=Ae f p h (fr+1) hh' xs hx kc k (by omega) hk hf
 rw[pB p 0 (by omega)]
 (repeat'(first|simp -implicitDefEqProofs (disch:=first|assumption|omega|(simp only[aE,aQ,aD,i64,sa,aC,lm,la,lc,ln];omega)) only[go_sem,simprocAttr,hh,h0,hk,show ¬0=fr from by omega]|((first|rw[aL]|rw[aF]|rw[aG]|rw[aM]|rw[aN]|rw[aH]|rw[aI]|rw[aO]|skip);split)))
set_option maxRecDepth 8000
set_option maxHeartbeats 4000000
def z5L:List ByteArray:=[noS,⟨#[68,78]⟩,⟨#[68,65]⟩,⟨#[68,65,66]⟩,⟨#[68,65,66]⟩,⟨#[68,65,66]⟩,⟨#[68,65,66]⟩,⟨#[68,65,66]⟩,⟨#[78]⟩,⟨#[78]⟩,⟨#[65,78]⟩,⟨#[68,83,88]⟩,⟨#[65]⟩,⟨#[65]⟩,⟨#[83,88]⟩,⟨#[68,65]⟩,⟨#[65,66]⟩,⟨#[68,65]⟩,⟨#[65]⟩,⟨#[68,66,78,88]⟩,⟨#[68,65]⟩,⟨#[65,66]⟩,⟨#[68,65,66,88]⟩,⟨#[68]⟩,⟨#[68,83]⟩,⟨#[65]⟩,⟨#[65,66]⟩,⟨#[65,66]⟩,⟨#[65]⟩]
def qE(op:Int):ByteArray:=if 1≤op∧op≤28 then(z5L[op.toNat]?).getD noS else noS
theorem Kx(op:Int):call tab Hq [I op]=some (Str (qE op)):=by
 rw[aJ zqQ _ rfl,Or]
 by_cases h:1≤op∧op≤28
 ·obtain⟨h1,h2⟩:=h
  rw[qE,if_pos ⟨h1,h2⟩]
  rcases Z0 h1 h2 with rfl|rfl|rfl|rfl|rfl|rfl|rfl|rfl|rfl|rfl|rfl|rfl|rfl|rfl|rfl|rfl|rfl|rfl|rfl|rfl|rfl|rfl|rfl|rfl|rfl|rfl|rfl|rfl<;>simp -implicitDefEqProofs (disch:=first|assumption|omega|(simp only[aE,aQ,aD,i64,sa,aC,lm,la,lc,ln];omega)) only[go_sem,simprocAttr,z5L]
 ·rw[qE,if_neg h]
  simp -implicitDefEqProofs (disch:=first|assumption|omega|(simp only[aE,aQ,aD,i64,sa,aC,lm,la,lc,ln];omega)) only[go_sem,simprocAttr]
abbrev U8(c:Int):X:= .d (.v (.int .u8 c))
theorem I7(bs:List UInt8)(hl:bs.length≤1048576)(c:Int):∀(Bl:List UInt8) (j:Int),bs.drop j.toNat=Bl→0≤j →
  loopW tab [0,1,7,8] eH {env:=upd (upd (upd (upd emp 8 (some (I j))) 7 (some (I (bs.length:Int)))) 1 (some (U8 c))) 0 (some (.d (.r (bs.map fun x=>[D.v (.int .u8 x.toNat)])))),heap:=emp,fr:=0,next:=0}=if aS (fun x:UInt8=>decide (c=x.toNat)) j Bl= -1 then some (.ext 0,{env:=emp,heap:=emp,fr:=0,next:=0}) else some (.ret,{env:=upd emp 4 (some (I (aS (fun x:UInt8=>decide (c=x.toNat)) j Bl))),heap:=emp,fr:=0,next:=0})
 |[],j,hd,hj=>by
  unfold loopW
  conv=>lhs;arg 1;unfold eH
  have h1:=b9 hd hj
  simp only[aS,if_true]
  (repeat'(first|simp -implicitDefEqProofs (disch:=first|assumption|omega|(simp only[aE,aQ,aD,i64,sa,aC,lm,la,lc,ln];omega)) only[go_sem,simprocAttr]|((first|rw[aL]|rw[aF]|rw[aG]|rw[aM]|rw[aN]|rw[aH]|rw[aI]|rw[aO]|skip);split)))
 |x::Bl,j,hd,hj=>by
  unfold loopW
  conv=>lhs;arg 1;unfold eH
  have h1:=bK hd hj
  have h5:=h1.2.1
  have h2:=eK (fun x:UInt8=>[D.v (.int .u8 x.toNat)]) h1.1
  have ih:=I7 bs hl c Bl (j+1) h1.2.2.1 (by omega)
  rw[aS]
  by_cases hp:c=x.toNat
  ·have k:decide (c=(x.toNat:Int))=true:=decide_eq_true hp
   simp only[k,if_true]
   rw[if_neg (by omega)]
   (repeat'(first|simp -implicitDefEqProofs (disch:=first|assumption|omega|(simp only[aE,aQ,aD,i64,sa,aC,lm,la,lc,ln];omega)) only[go_sem,simprocAttr,h2]|((first|rw[aL]|rw[aF]|rw[aG]|rw[aM]|rw[aN]|rw[aH]|rw[aI]|rw[aO]|skip);split)))
  ·have k:decide (c=(x.toNat:Int))=false:=decide_eq_false hp
   simp only[k,Bool.false_eq_true,if_false]
   rw[←ih]
   (repeat'(first|simp -implicitDefEqProofs (disch:=first|assumption|omega|(simp only[aE,aQ,aD,i64,sa,aC,lm,la,lc,ln];omega)) only[go_sem,simprocAttr,h2]|((first|rw[aL]|rw[aF]|rw[aG]|rw[aM]|rw[aN]|rw[aH]|rw[aI]|rw[aO]|skip);split)))
theorem Xm(op c:Int):call tab eX [I op,U8 c]=some (B (decide (0≤aS (fun x:UInt8=>decide (c=x.toNat)) 0 (qE op).data.toList))):=by
 have hs:(qE op).size≤4:=by
  unfold qE
  split
  ·rename_i h
   rcases Z0 h.1 h.2 with rfl|rfl|rfl|rfl|rfl|rfl|rfl|rfl|rfl|rfl|rfl|rfl|rfl|rfl|rfl|rfl|rfl|rfl|rfl|rfl|rfl|rfl|rfl|rfl|rfl|rfl|rfl|rfl<;>decide
  ·decide
 have hl:(qE op).data.toList.length≤4:=by rw[Array.length_toList];exact hs
 have h0:=I7 (qE op).data.toList (by omega) c (qE op).data.toList 0 rfl (by omega)
 have h1:call tab j9 [.d (.r ((qE op).data.toList.map fun x=>[D.v (.int .u8 x.toNat)])),U8 c]=some (I (aS (fun x:UInt8=>decide (c=x.toNat)) 0 (qE op).data.toList)):=by
  rw[aJ x9 _ rfl,nY]
  by_cases hp:aS (fun x:UInt8=>decide (c=x.toNat)) 0 (qE op).data.toList= -1
  ·rw[if_pos hp] at h0
   (repeat'(first|simp -implicitDefEqProofs (disch:=first|assumption|omega|(simp only[aE,aQ,aD,i64,sa,aC,lm,la,lc,ln];omega)) only[go_sem,simprocAttr,h0,hp]|((first|rw[aL]|rw[aF]|rw[aG]|rw[aM]|rw[aN]|rw[aH]|rw[aI]|rw[aO]|skip);split)))
  ·rw[if_neg hp] at h0
   (repeat'(first|simp -implicitDefEqProofs (disch:=first|assumption|omega|(simp only[aE,aQ,aD,i64,sa,aC,lm,la,lc,ln];omega)) only[go_sem,simprocAttr,h0]|((first|rw[aL]|rw[aF]|rw[aG]|rw[aM]|rw[aN]|rw[aH]|rw[aI]|rw[aO]|skip);split)))
 have h2:call tab iD [.d (.r ((qE op).data.toList.map fun x=>[D.v (.int .u8 x.toNat)])),U8 c]=some (B (decide (0≤aS (fun x:UInt8=>decide (c=x.toNat)) 0 (qE op).data.toList))):=by
  rw[aJ tT _ rfl,lM]
  (repeat'(first|simp -implicitDefEqProofs (disch:=first|assumption|omega|(simp only[aE,aQ,aD,i64,sa,aC,lm,la,lc,ln];omega)) only[go_sem,simprocAttr,h1]|((first|rw[aL]|rw[aF]|rw[aG]|rw[aM]|rw[aN]|rw[aH]|rw[aI]|rw[aO]|skip);split)))
 rw[aJ zzw _ rfl,K8]
 (repeat'(first|simp -implicitDefEqProofs (disch:=first|assumption|omega|(simp only[aE,aQ,aD,i64,sa,aC,lm,la,lc,ln];omega)) only[go_sem,simprocAttr,Kx,Jy,h2]|((first|rw[aL]|rw[aF]|rw[aG]|rw[aM]|rw[aN]|rw[aH]|rw[aI]|rw[aO]|skip);split)))
theorem zv7{op:Int}:∀p∈[((68:Int),(1:Int)),(65,2),(66,4),(78,8),(83,16),(88,32)],decide (0≤aS (fun x:UInt8=>decide (p.1=x.toNat)) 0 (qE op).data.toList)=z2j (Yc op) p.2:=by
 by_cases h:1≤op∧op≤28
 ·rcases Z0 h.1 h.2 with rfl|rfl|rfl|rfl|rfl|rfl|rfl|rfl|rfl|rfl|rfl|rfl|rfl|rfl|rfl|rfl|rfl|rfl|rfl|rfl|rfl|rfl|rfl|rfl|rfl|rfl|rfl|rfl<;>decide
 ·rw[qE,if_neg h,Yc,if_neg h]
  decide
theorem eF(x:ZD)(p:Int×Int)(hp:p∈[((68:Int),(1:Int)),(65,2),(66,4),(78,8),(83,16),(88,32)]):call tab eX [I x.fOp,U8 p.1]=some (B (hb x p.2)):=by
 rw[Xm,zv7 p hp]
 rfl
theorem z1e{x:ZD}(h:x.fOp=19):hb x 1=true∧hb x 2=false∧hb x 4=true∧hb x 32=true:=by
 unfold hb
 rw[h]
 decide
theorem zz4(x:ZD):call tab M0 [x.x]=some (.d (.s 1 (bB (xC x)))):=by
 rw[aJ zkM _ rfl,Ow,xC]
 have a1:=eF x (68,1) (by simp)
 by_cases c0:x.fOp=19
 ·rw[(z1e c0).1,if_pos rfl,if_pos c0]
  (repeat'(first|simp -implicitDefEqProofs (disch:=first|assumption|omega|(simp only[aE,aQ,aD,i64,sa,aC,lm,la,lc,ln];omega)) only[go_sem,simprocAttr,bB,mc,mn]|((first|rw[aL]|rw[aF]|rw[aG]|rw[aM]|rw[aN]|rw[aH]|rw[aI]|rw[aO]|skip);split)))
 ·rw[if_neg c0]
  cases c1:hb x 1<;>rw[c1] at a1<;>(repeat'(first|simp -implicitDefEqProofs (disch:=first|assumption|omega|(simp only[aE,aQ,aD,i64,sa,aC,lm,la,lc,ln];omega)) only[go_sem,simprocAttr,bB,mc,mn,a1]|((first|rw[aL]|rw[aF]|rw[aG]|rw[aM]|rw[aN]|rw[aH]|rw[aI]|rw[aO]|skip);split)))
theorem B8(x:ZD)(hl:x.fArgs.length≤1048576)(h19:x.fOp=19):∀(Bl:List Int) (j:Nat) (A:List Int),x.fArgs.drop j=Bl→A.length≤j →
  loopW tab [1,3,11,12,13] q6 {env:=upd (upd (upd (upd (upd emp 13 (some (I (j:Int)))) 12 (some (I (x.fArgs.length:Int)))) 11 (some (.d (.r (bB x.fArgs))))) 3 (some (.ref (0,0) []))) 1 (some (.vp [I x.fOp,I x.fD,I x.fA,I x.fB,I x.fN,Str x.fS,.d (.r (bB x.fArgs))])),heap:=upd emp (0,0) (some (.s 1 (bB A))),fr:=0,next:=1}=some (.ext 0,{env:=upd emp 3 (some (.ref (0,0) [])),heap:=upd emp (0,0) (some (.s 1 (bB (A++Ap x j Bl)))),fr:=0,next:=1})
 |[],j,A,hd,hA=>by
  have hd2:x.fArgs.drop ((j:Int)).toNat=[]:=by simpa using hd
  have hj:(0:Int)≤j:=by omega
  unfold loopW
  conv=>lhs;arg 1;unfold q6
  have h1:=b9 hd2 hj
  (repeat'(first|simp -implicitDefEqProofs (disch:=first|assumption|omega|(simp only[aE,aQ,aD,i64,sa,aC,lm,la,lc,ln];omega)) only[go_sem,simprocAttr,Ap,List.append_nil]|((first|rw[aL]|rw[aF]|rw[aG]|rw[aM]|rw[aN]|rw[aH]|rw[aI]|rw[aO]|skip);split)))
 |y::Bl,j,A,hd,hA=>by
  have hd2:x.fArgs.drop ((j:Int)).toNat=y::Bl:=by simpa using hd
  have hj:(0:Int)≤j:=by omega
  unfold loopW
  conv=>lhs;arg 1;unfold q6
  have h1:=bK hd2 hj
  have h5:=h1.2.1
  have h2:=eK (fun n=>[DI n]) h1.1
  simp only[Int.toNat_natCast] at h2
  have h3:x.fArgs.drop (j+1)=Bl:=by have:=h1.2.2.1;rwa [show((j:Int)+1).toNat=j+1 by omega] at this
  have m1:((j:Int)).tmod 3=((j % 3:Nat):Int):=by have:=L3 (n:=(j:Int)) (by omega) 3;simpa using this
  have ih1:=B8 x hl h19 Bl (j+1) (A++[y]) h3 (by simp;omega)
  have ih2:=B8 x hl h19 Bl (j+1) A h3 (by omega)
  rw[show((j+1:Nat):Int)=(j:Int)+1 by omega] at ih1 ih2
  rw[Ap,←List.append_assoc]
  simp only[List.map_append,mc,mn] at ih1 ih2 ⊢
  have k0:decide (x.fOp=19)=true:=decide_eq_true h19
  simp only[k0,Bool.not_true,Bool.false_or,z3n]
  rcases (by omega:j % 3=0∨j % 3=1∨j % 3=2) with c1|c1|c1
  ·simp only[c1] at m1 ⊢
   (repeat'(first|simp -implicitDefEqProofs (disch:=first|assumption|omega|(simp only[aE,aQ,aD,i64,sa,aC,lm,la,lc,ln];omega)) only[go_sem,simprocAttr,h2,m1,ih2]|((first|rw[aL]|rw[aF]|rw[aG]|rw[aM]|rw[aN]|rw[aH]|rw[aI]|rw[aO]|skip);split)))
  ·simp only[c1] at m1 ⊢
   (repeat'(first|simp -implicitDefEqProofs (disch:=first|assumption|omega|(simp only[aE,aQ,aD,i64,sa,aC,lm,la,lc,ln];omega)) only[go_sem,simprocAttr,h2,m1,ih1]|((first|rw[aL]|rw[aF]|rw[aG]|rw[aM]|rw[aN]|rw[aH]|rw[aI]|rw[aO]|skip);split)))
  ·simp only[c1] at m1 ⊢
   have hj2:j-2<x.fArgs.length:=by omega
   obtain⟨v,hv,hv2⟩:=z8m x.fArgs (j:=(j:Int)-2) (by omega) (by omega)
   rw[show((j:Int)-2).toNat=j-2 by omega] at hv2
   by_cases c2:v=2
   ·subst c2
    simp only[hv2]
    (repeat'(first|simp -implicitDefEqProofs (disch:=first|assumption|omega|(simp only[aE,aQ,aD,i64,sa,aC,lm,la,lc,ln];omega)) only[go_sem,simprocAttr,h2,m1,hv,ih1]|((first|rw[aL]|rw[aF]|rw[aG]|rw[aM]|rw[aN]|rw[aH]|rw[aI]|rw[aO]|skip);split)))
   ·have:¬(some v=some (2:Int)):=by simpa using c2
    simp only[hv2,this]
    (repeat'(first|simp -implicitDefEqProofs (disch:=first|assumption|omega|(simp only[aE,aQ,aD,i64,sa,aC,lm,la,lc,ln];omega)) only[go_sem,simprocAttr,h2,m1,hv,c2,ih2]|((first|rw[aL]|rw[aF]|rw[aG]|rw[aM]|rw[aN]|rw[aH]|rw[aI]|rw[aO]|skip);split)))
theorem zzt(x:ZD)(h:¬x.fOp=19):∀(q:Nat) (l:List Int),Ap x q l=l
 |_,[]=>rfl
 |q,y::ys=>by
  rw[Ap,zzt x h (q+1) ys]
  simp[h]
theorem zVH(l:List Int):(bB l).map (fun el=>el.map D.toR)=bB l:=by
 simp[D.toR]
theorem zjS(x:ZD)(hl:x.fArgs.length≤1048576):call tab Ni [x.x]=some (.d (.s 1 (bB (uI x)))):=by
 rw[aJ zkp _ rfl,Oo,uI]
 have a1:=eF x (65,2) (by simp)
 have a2:=eF x (66,4) (by simp)
 have a3:=eF x (88,32) (by simp)
 by_cases c0:x.fOp=19
 ·obtain⟨k1,k2,k3,k4⟩:=z1e c0
  have k0:decide (x.fOp=19)=true:=decide_eq_true c0
  have h0:=B8 x hl c0 x.fArgs 0 [] rfl (by simp)
  simp only[Int.cast_ofNat_Int,mn,List.nil_append] at h0
  simp only[k0,k2,k3,k4,Bool.not_true,bA,Bool.false_eq_true,if_false,if_true,List.nil_append]
  (repeat'(first|simp -implicitDefEqProofs (disch:=first|assumption|omega|(simp only[aE,aQ,aD,i64,sa,aC,lm,la,lc,ln];omega)) only[go_sem,simprocAttr,h0]|((first|rw[aL]|rw[aF]|rw[aG]|rw[aM]|rw[aN]|rw[aH]|rw[aI]|rw[aO]|skip);split)))
 ·have k0:decide (x.fOp=19)=false:=decide_eq_false c0
  rw[zzt x c0]
  simp only[k0,Bool.not_false,bat]
  have hh:=zVH x.fArgs
  have hal:=zjy x.fArgs
  cases c2:hb x 2<;>cases c4:hb x 4<;>cases c32:hb x 32<;>rw[c2] at a1<;>rw[c4] at a2<;>rw[c32] at a3<;>simp only[Bool.false_eq_true,if_false,if_true,List.nil_append,List.append_nil,List.cons_append]<;>(repeat'(first|simp -implicitDefEqProofs (disch:=first|assumption|omega|(simp only[aE,aQ,aD,i64,sa,aC,lm,la,lc,ln];omega)) only[go_sem,simprocAttr,a1,a2,a3,bB,mc,mn,hh,hal]|((first|rw[aL]|rw[aF]|rw[aG]|rw[aM]|rw[aN]|rw[aH]|rw[aI]|rw[aO]|skip);split)))
set_option maxRecDepth 8000
set_option maxHeartbeats 4000000
def zzU:List Int→Bool
 |a::_::d::r=>inB a 1 2&& !(decide (a=1)&& !decide (d=0))&&zzU r
 |_=>true
theorem zXI:∀(l:List Int),l.length % 3=0→zzU l=J2 l
 |[],_=>rfl
 |[_],h=>by simp at h
 |[_,_],h=>by simp at h
 |a::b::d::r,h=>by
  rw[zzU,J2,zXI r (by simp only[lc] at h;omega)]
abbrev vpT(x:ZD):X:= .vp [I x.fOp,I x.fD,I x.fA,I x.fB,I x.fN,Str x.fS,.d (.r (bB x.fArgs))]
theorem F3(x:ZD)(hl:x.fArgs.length≤1048576):∀(k:Nat) (Bl:List Int) (j:Int),Bl.length≤k→x.fArgs.drop j.toNat=Bl→0≤j→j≤1048580 →
  loopW tab [2,5] oB {env:=upd (upd emp 5 (some (I j))) 2 (some (vpT x)),heap:=emp,fr:=0,next:=0}=if zzU Bl=true then some (.ext 1,{env:=upd emp 2 (some (vpT x)),heap:=emp,fr:=0,next:=0}) else some (.ret,{env:=upd emp 4 (some (B false)),heap:=emp,fr:=0,next:=0})
 |_,[],j,hk,hd,hj,hj2=>by
  unfold loopW
  conv=>lhs;arg 1;unfold oB
  have h1:=b9 hd hj
  simp only[zzU,if_true]
  (repeat'(first|simp -implicitDefEqProofs (disch:=first|assumption|omega|(simp only[aE,aQ,aD,i64,sa,aC,lm,la,lc,ln];omega)) only[go_sem,simprocAttr]|((first|rw[aL]|rw[aF]|rw[aG]|rw[aM]|rw[aN]|rw[aH]|rw[aI]|rw[aO]|skip);split)))
 |0,_::_,j,hk,hd,hj,hj2=>by simp at hk
 |k+1,a::Bl,j,hk,hd,hj,hj2=>by
  unfold loopW
  conv=>lhs;arg 1;unfold oB
  have h1:=bK hd hj
  have h5:=h1.2.1
  have h2:=eK (fun n=>[DI n]) h1.1
  have hi:=bU a 1 2
  have hlen:=h1.2.2.2.2
  match Bl,h1,hlen with
  |[],h1,hlen =>
   simp only[ln] at hlen
   simp only[zzU,if_true]
   (repeat'(first|simp -implicitDefEqProofs (disch:=first|assumption|omega|(simp only[aE,aQ,aD,i64,sa,aC,lm,la,lc,ln];omega)) only[go_sem,simprocAttr,h2]|((first|rw[aL]|rw[aF]|rw[aG]|rw[aM]|rw[aN]|rw[aH]|rw[aI]|rw[aO]|skip);split)))
  |[b],h1,hlen =>
   simp only[lc,ln] at hlen
   simp only[zzU,if_true]
   (repeat'(first|simp -implicitDefEqProofs (disch:=first|assumption|omega|(simp only[aE,aQ,aD,i64,sa,aC,lm,la,lc,ln];omega)) only[go_sem,simprocAttr,h2]|((first|rw[aL]|rw[aF]|rw[aG]|rw[aM]|rw[aN]|rw[aH]|rw[aI]|rw[aO]|skip);split)))
  |b::d::Bl,h1,hlen =>
   simp only[lc] at hlen
   have hd3:x.fArgs.drop (j+3).toNat=Bl:=by
    have:=congrArg (List.drop 2) h1.2.2.1
    rw[List.drop_drop] at this
    simp only[List.drop_succ_cons,List.drop_zero] at this
    rw[←this]
    congr 1;omega
   have ih:=F3 x hl k Bl (j+3) (by simp only[lc] at hk;omega) hd3 (by omega) (by omega)
   obtain⟨v,hv,hv2⟩:=z8m x.fArgs (j:=j+2) (by omega) (by omega)
   have hvd:v=d:=by
    have h3:=congrArg (fun l=>l[1]?) h1.2.2.1
    simp only[List.getElem?_drop,List.getElem?_cons_succ,List.getElem?_cons_zero] at h3
    rw[show(j+1).toNat+1=(j+2).toNat by omega,hv2] at h3
    simpa using h3
   subst hvd
   rw[zzU]
   cases c:inB a 1 2<;>rw[c] at hi<;>simp only[bta,bfa]<;>(repeat'(first|simp -implicitDefEqProofs (disch:=first|assumption|omega|(simp only[aE,aQ,aD,i64,sa,aC,lm,la,lc,ln];omega)) only[go_sem,simprocAttr,h2,hi,hv,ih]|((first|rw[aL]|rw[aF]|rw[aG]|rw[aM]|rw[aN]|rw[aH]|rw[aI]|rw[aO]|skip);split)))
theorem z1A{x:ZD}(h:¬x.fOp=19)(h2:¬x.fOp=22):hb x 32=decide (x.fOp=11∨x.fOp=14):=by
 unfold hb
 generalize x.fOp=op at *
 by_cases h3:1≤op∧op≤28
 ·rcases Z0 h3.1 h3.2 with rfl|rfl|rfl|rfl|rfl|rfl|rfl|rfl|rfl|rfl|rfl|rfl|rfl|rfl|rfl|rfl|rfl|rfl|rfl|rfl|rfl|rfl|rfl|rfl|rfl|rfl|rfl|rfl<;>first|decide|exact absurd rfl h|exact absurd rfl h2
 ·have e:decide (op=11∨op=14)=false:=decide_eq_false (by omega)
  rw[e,Yc,if_neg h3]
  decide
theorem Wc(x:ZD)(m:Int)(hl:x.fArgs.length≤1048576):call tab Ha [x.x,I m]=some (B (Iy x&&(!decide (x.fOp=19)||inB x.fN 0 1))):=by
 rw[aJ Xo _ rfl,H5,Iy]
 have h0:=F3 x hl x.fArgs.length x.fArgs 0 (Nat.le_refl _) rfl (by omega) (by omega)
 have a1:=eF x (88,32) (by simp)
 have a2:=bU x.fArgs.length 3 9
 have a3:=bU x.fN 0 1
 have m1:((x.fArgs.length:Int)).tmod 3=((x.fArgs.length % 3:Nat):Int):=by have:=L3 (n:=(x.fArgs.length:Int)) (by omega) 3;simpa using this
 by_cases c0:x.fOp=19
 ·have k0:decide (x.fOp=19)=true:=decide_eq_true c0
  rw[if_pos c0]
  simp only[k0,Bool.not_true,Bool.false_or]
  by_cases c3:x.fArgs.length % 3=0
  ·rw[zXI _ c3] at h0
   rw[c3] at m1
   have e:(decide ((x.fArgs.length:Int)=3)||decide ((x.fArgs.length:Int)=6)||decide ((x.fArgs.length:Int)=9))=inB x.fArgs.length 3 9:=by
    rw[Bool.eq_iff_iff];simp[inB];omega
   rw[e]
   cases ct:J2 x.fArgs<;>simp only[ct,Bool.false_eq_true,if_true,if_false] at h0
   ·(repeat'(first|simp -implicitDefEqProofs (disch:=first|assumption|omega|(simp only[aE,aQ,aD,i64,sa,aC,lm,la,lc,ln];omega)) only[go_sem,simprocAttr,h0]|((first|rw[aL]|rw[aF]|rw[aG]|rw[aM]|rw[aN]|rw[aH]|rw[aI]|rw[aO]|skip);split)))
   ·cases c4:inB x.fArgs.length 3 9<;>rw[c4] at a2
    ·(repeat'(first|simp -implicitDefEqProofs (disch:=first|assumption|omega|(simp only[aE,aQ,aD,i64,sa,aC,lm,la,lc,ln];omega)) only[go_sem,simprocAttr,h0,m1,a2]|((first|rw[aL]|rw[aF]|rw[aG]|rw[aM]|rw[aN]|rw[aH]|rw[aI]|rw[aO]|skip);split)))
    ·cases c5:inB x.fN 0 1<;>rw[c5] at a3<;>(repeat'(first|simp -implicitDefEqProofs (disch:=first|assumption|omega|(simp only[aE,aQ,aD,i64,sa,aC,lm,la,lc,ln];omega)) only[go_sem,simprocAttr,h0,m1,a2,a3]|((first|rw[aL]|rw[aF]|rw[aG]|rw[aM]|rw[aN]|rw[aH]|rw[aI]|rw[aO]|skip);split)))
  ·have e:(decide ((x.fArgs.length:Int)=3)||decide ((x.fArgs.length:Int)=6)||decide ((x.fArgs.length:Int)=9))=false:=by
    rw[Bool.eq_false_iff];simp;omega
   rw[e]
   have c6:¬((x.fArgs.length % 3:Nat):Int)=0:=by omega
   generalize ((x.fArgs.length % 3:Nat):Int)=q at m1 c6
   cases ct:zzU x.fArgs<;>simp only[ct,Bool.false_eq_true,if_true,if_false] at h0<;>(repeat'(first|simp -implicitDefEqProofs (disch:=first|assumption|omega|(simp only[aE,aQ,aD,i64,sa,aC,lm,la,lc,ln];omega)) only[go_sem,simprocAttr,h0,m1]|((first|rw[aL]|rw[aF]|rw[aG]|rw[aM]|rw[aN]|rw[aH]|rw[aI]|rw[aO]|skip);split)))
   all_goals simp
 ·have k0:decide (x.fOp=19)=false:=decide_eq_false c0
  rw[if_neg c0]
  simp only[k0,Bool.not_false,Bool.true_or,bat]
  by_cases c1:x.fOp=22
  ·rw[if_pos c1]
   (repeat'(first|simp -implicitDefEqProofs (disch:=first|assumption|omega|(simp only[aE,aQ,aD,i64,sa,aC,lm,la,lc,ln];omega)) only[go_sem,simprocAttr]|((first|rw[aL]|rw[aF]|rw[aG]|rw[aM]|rw[aN]|rw[aH]|rw[aI]|rw[aO]|skip);split)))
  ·rw[if_neg c1]
   rw[z1A c0 c1] at a1
   by_cases c2:x.fOp=11∨x.fOp=14
   ·rw[if_pos c2]
    rw[decide_eq_true c2] at a1
    (repeat'(first|simp -implicitDefEqProofs (disch:=first|assumption|omega|(simp only[aE,aQ,aD,i64,sa,aC,lm,la,lc,ln];omega)) only[go_sem,simprocAttr,a1]|((first|rw[aL]|rw[aF]|rw[aG]|rw[aM]|rw[aN]|rw[aH]|rw[aI]|rw[aO]|skip);split)))
   ·rw[if_neg c2]
    rw[decide_eq_false c2] at a1
    (repeat'(first|simp -implicitDefEqProofs (disch:=first|assumption|omega|(simp only[aE,aQ,aD,i64,sa,aC,lm,la,lc,ln];omega)) only[go_sem,simprocAttr,a1]|((first|rw[aL]|rw[aF]|rw[aG]|rw[aM]|rw[aN]|rw[aH]|rw[aI]|rw[aO]|skip);split)))
theorem zVo(op:Int):decide (qE op=⟨#[]⟩)= !inB op 1 28:=by
 by_cases h:1≤op∧op≤28
 ·have e:inB op 1 28=true:=by simp[inB,h.1,h.2]
  rw[e]
  rcases Z0 h.1 h.2 with rfl|rfl|rfl|rfl|rfl|rfl|rfl|rfl|rfl|rfl|rfl|rfl|rfl|rfl|rfl|rfl|rfl|rfl|rfl|rfl|rfl|rfl|rfl|rfl|rfl|rfl|rfl|rfl<;>decide
 ·have e:inB op 1 28=false:=by simp only[inB,←Bool.decide_and];exact decide_eq_false h
  rw[e,qE,if_neg h]
  decide
theorem Qq(r m:Int)(hm:i64 (m-1))(k:Nat)(h:Heap)(fr:Nat)(h1:1≤fr)(hk:h (0,k)=some (.s 1 [[DI m]]))(hh:bS fr h=h):evCW tab kG [I r,.ptr (0,k) [] 0 0] h fr=some (B (!inB r 0 (m-1)),h):=by
 rw[aP Wn _ _ _ rfl,Gg]
 (repeat'(first|simp -implicitDefEqProofs (disch:=first|assumption|omega|(simp only[aE,aQ,aD,i64,sa,aC,lm,la,lc,ln];omega)) only[go_sem,simprocAttr,bU,hk,hh]|((first|rw[aL]|rw[aF]|rw[aG]|rw[aM]|rw[aN]|rw[aH]|rw[aI]|rw[aO]|skip);split)))
theorem zZq(k:Nat)(h:Heap)(x:Option D):bS 2 (upd h (0,k) x)=upd (bS 2 h) (0,k) x:=zZc 1 k h x
theorem z7t(k:Nat)(h:Heap)(x:Option D):bS 3 (upd h (0,k) x)=upd (bS 3 h) (0,k) x:=zZc 2 k h x
theorem W3(x:ZD)(m:Int)(hl:x.fArgs.length≤1048576)(hm:i64 (m-1)):call tab Jj [x.x,I m]=some (B (zys x m)):=by
 rw[aJ zz6 _ rfl,L5,zys]
 have a0:=Kx x.fOp
 have e0:=zVo x.fOp
 have a1:=Yl x.fN
 have a2:=Wc x m hl
 have b1:=eF x (68,1) (by simp)
 have b2:=eF x (65,2) (by simp)
 have b4:=eF x (66,4) (by simp)
 have b8:=eF x (78,8) (by simp)
 have b16:=eF x (83,16) (by simp)
 have s1:=zzg x
 have s2:=Zm x
 have hal:=zjy (uI x)
 cases c1:inB x.fOp 1 28<;>rw[c1] at e0
 ·(repeat'(first|simp -implicitDefEqProofs (disch:=first|assumption|omega|(simp only[aE,aQ,aD,i64,sa,aC,lm,la,lc,ln];omega)) only[go_sem,simprocAttr,a0,e0]|((first|rw[aL]|rw[aF]|rw[aG]|rw[aM]|rw[aN]|rw[aH]|rw[aI]|rw[aO]|skip);split)))
 cases c5:z8S x.fN<;>rw[c5] at a1
 ·(repeat'(first|simp -implicitDefEqProofs (disch:=first|assumption|omega|(simp only[aE,aQ,aD,i64,sa,aC,lm,la,lc,ln];omega)) only[go_sem,simprocAttr,a0,e0,a1]|((first|rw[aL]|rw[aF]|rw[aG]|rw[aM]|rw[aN]|rw[aH]|rw[aI]|rw[aO]|skip);split)))
  all_goals simp
 cases c2:(Iy x&&(!decide (x.fOp=19)||inB x.fN 0 1))<;>rw[c2] at a2
 ·have e:(true&&Iy x&&Mf x m&&(!decide (x.fOp=19)||inB x.fN 0 1))=false:=by
   revert c2;cases Iy x<;>cases Mf x m<;>cases (!decide (x.fOp=19)||inB x.fN 0 1)<;>simp
  rw[e]
  (repeat'(first|simp -implicitDefEqProofs (disch:=first|assumption|omega|(simp only[aE,aQ,aD,i64,sa,aC,lm,la,lc,ln];omega)) only[go_sem,simprocAttr,a0,e0,a1,a2]|((first|rw[aL]|rw[aF]|rw[aG]|rw[aM]|rw[aN]|rw[aH]|rw[aI]|rw[aO]|skip);split)))
 ·have e:(true&&Iy x&&Mf x m&&(!decide (x.fOp=19)||inB x.fN 0 1))=Mf x m:=by
   rw[bE] at c2
   rw[c2.1,c2.2];simp
  rw[e]
  have h0:=fun (j k:Nat) (h:Heap) (hk:h (0,k)=some (.s 1 [[DI m]])) (hj:h (0,j)=some (.s 1 (bB (xC x++uI x)))) (h1:bS 1 h=h) (h2:bS 2 h=h) (h3:bS 3 h=h)=>vP kG (fun r=> !inB r 0 (m-1)) h 1 h1 h2 (xC x++uI x) (by simp;omega) k j (by omega) hj (fun r _=>Qq r m hm k h 3 (by omega) hk h3)
  rw[z8t,←Mf] at h0
  simp only[bB,List.map_append] at h0
  have h1:=h0 2432 32 (upd (upd (upd (upd (upd (upd emp (0,32) (some (.s 1 [[DI m]]))) (0,2336) (some (.s 1 (bB (xC x))))) (0,2400) (some (.s 1 (bB (uI x))))) (0,2336) none) (0,2400) none) (0,2432) (some (.s 1 (bB (xC x)++bB (uI x))))) (by simp[upd]) (by simp[upd]) (by simp only[zjs,uE]) (by simp only[zZq,uE]) (by simp only[z7t,uE])
  simp only[bB] at h1
  clear h0
  (repeat'(first|simp -implicitDefEqProofs (disch:=first|assumption|omega|(simp only[aE,aQ,aD,i64,sa,aC,lm,la,lc,ln];omega)) only[go_sem,simprocAttr,a0,e0,a1,a2,b1,b2,b4,b8,b16,zz4 x,zjS x hl,hal,bB,h1]|((first|rw[aL]|rw[aF]|rw[aG]|rw[aM]|rw[aN]|rw[aH]|rw[aI]|rw[aO]|skip);split)))
  all_goals(clear h1;simp_all)
set_option maxRecDepth 8000
set_option maxHeartbeats 4000000
theorem K7(t:ZD)(m:Int)(k:Nat)(h:Heap)(fr:Nat)(h1:1≤fr)(hk:h (0,k)=some (.s 1 [[DI m]]))(hh:bS fr h=h):evCW tab pH [t.x,.ptr (0,k) [] 0 0] h fr=some (B (K4 m t),h):=by
 rw[aP M8 _ _ _ rfl,zM,K4]
 (repeat'(first|simp -implicitDefEqProofs (disch:=first|assumption|omega|(simp only[aE,aQ,aD,i64,sa,aC,lm,la,lc,ln];omega)) only[go_sem,simprocAttr,hk,hh]|((first|rw[aL]|rw[aF]|rw[aG]|rw[aM]|rw[aN]|rw[aH]|rw[aI]|rw[aO]|skip);split)))
theorem Px(v0:List ZD)(m:Int)(hl:v0.length≤1048576):call tab tX [.d (.r (v0.map ZD.r)),I m]=some (I (zvg v0 m)):=by
 rw[aJ Vp _ rfl,F2,zvg]
 have h0:=A6 pH (K4 m) (upd emp (0,0) (some (.s 1 [[DI m]]))) 1 (by simp only[zjs,uE]) v0 (by omega) 0 (by omega) (fun t _=>K7 t m 0 _ 2 (by omega) (by simp[upd]) (by simp only[zZq,uE]))
 (repeat'(first|simp -implicitDefEqProofs (disch:=first|assumption|omega|(simp only[aE,aQ,aD,i64,sa,aC,lm,la,lc,ln];omega)) only[go_sem,simprocAttr,h0]|((first|rw[aL]|rw[aF]|rw[aG]|rw[aM]|rw[aN]|rw[aH]|rw[aI]|rw[aO]|skip);split)))
theorem zjL(op:Int):call tab Mz [I op]=some (B (decide (op=12)||decide (op=9)||decide (op=28))):=by
 rw[aJ zqy _ rfl,Pd]
 (repeat'(first|simp -implicitDefEqProofs (disch:=first|assumption|omega|(simp only[aE,aQ,aD,i64,sa,aC,lm,la,lc,ln];omega)) only[go_sem,simprocAttr]|((first|rw[aL]|rw[aF]|rw[aG]|rw[aM]|rw[aN]|rw[aH]|rw[aI]|rw[aO]|skip);split)))
theorem G6(u:ZE)(hs:u.sm)(hr:i64 (u.fRegs-1))(hr2:u.fCode.length≤1048576):∀(Bl:List ZD) (j:Int),u.fCode.drop j.toNat=Bl→0≤j →
  loopW tab [1,26,27,28] oD {env:=upd (upd (upd (upd emp 28 (some (I j))) 27 (some (I (u.fCode.length:Int)))) 26 (some (.d (.r (u.fCode.map ZD.r))))) 1 (some (vpU u)),heap:=emp,fr:=0,next:=0}=if rE u j Bl=true then some (.ext 0,{env:=upd emp 1 (some (vpU u)),heap:=emp,fr:=0,next:=0}) else some (.ret,{env:=upd emp 2 (some (B false)),heap:=emp,fr:=0,next:=0})
 |[],j,hd,hj=>by
  unfold loopW
  conv=>lhs;arg 1;unfold oD
  have h1:=b9 hd hj
  (repeat'(first|simp -implicitDefEqProofs (disch:=first|assumption|omega|(simp only[aE,aQ,aD,i64,sa,aC,lm,la,lc,ln];omega)) only[go_sem,simprocAttr,rE]|((first|rw[aL]|rw[aF]|rw[aG]|rw[aM]|rw[aN]|rw[aH]|rw[aI]|rw[aO]|skip);split)))
 |t::Bl,j,hd,hj=>by
  unfold loopW
  conv=>lhs;arg 1;unfold oD
  have h1:=bK hd hj
  have h5:=h1.2.1
  have h2:=eK ZD.r h1.1
  simp only[ZD.r] at h2
  have hsx:=(hs.2.2 t h1.2.2.2.1).2
  have ih:=G6 u hs hr hr2 Bl (j+1) h1.2.2.1 (by omega)
  have a1:=W3 t u.fRegs hsx hr
  have a2:=Px u.fCode t.fN hr2
  have a3:=bU t.fN 0 900
  rw[rE,zy5]
  cases c1:zys t u.fRegs<;>rw[c1] at a1
  ·(repeat'(first|simp -implicitDefEqProofs (disch:=first|assumption|omega|(simp only[aE,aQ,aD,i64,sa,aC,lm,la,lc,ln];omega)) only[go_sem,simprocAttr,h2,a1]|((first|rw[aL]|rw[aF]|rw[aG]|rw[aM]|rw[aN]|rw[aH]|rw[aI]|rw[aO]|skip);split)))
  ·cases c2:inB t.fN 0 900<;>rw[c2] at a3
   ·(repeat'(first|simp -implicitDefEqProofs (disch:=first|assumption|omega|(simp only[aE,aQ,aD,i64,sa,aC,lm,la,lc,ln];omega)) only[go_sem,simprocAttr,h2,a1,a2,a3,ih]|((first|rw[aL]|rw[aF]|rw[aG]|rw[aM]|rw[aN]|rw[aH]|rw[aI]|rw[aO]|skip);split)))
    all_goals(clear ih;simp_all)
    all_goals omega
   ·(repeat'(first|simp -implicitDefEqProofs (disch:=first|assumption|omega|(simp only[aE,aQ,aD,i64,sa,aC,lm,la,lc,ln];omega)) only[go_sem,simprocAttr,h2,a1,a2,a3,ih]|((first|rw[aL]|rw[aF]|rw[aG]|rw[aM]|rw[aN]|rw[aH]|rw[aI]|rw[aO]|skip);split)))
    all_goals(clear ih;simp_all)
    all_goals omega
theorem V7(u:ZE)(hs:u.sm):call tab rQ [u.x]=some (B (oR u)):=by
 rw[aJ Io _ rfl,xU,oR]
 have b1:=bU u.fRegs 0 250
 have b3:=bU u.fParams 0 (if 4<u.fRegs then 4 else u.fRegs)
 have b5:(if u.fRegs<4 then u.fRegs else 4)=(if 4<u.fRegs then(4:Int) else u.fRegs):=by split<;>split<;>omega
 have b4:=bU u.fCode.length 1 900
 have hl:=hs.2.1
 cases c1:inB u.fRegs 0 250<;>rw[c1] at b1
 ·(repeat'(first|simp -implicitDefEqProofs (disch:=first|assumption|omega|(simp only[aE,aQ,aD,i64,sa,aC,lm,la,lc,ln];omega)) only[go_sem,simprocAttr,b1]|((first|rw[aL]|rw[aF]|rw[aG]|rw[aM]|rw[aN]|rw[aH]|rw[aI]|rw[aO]|skip);split)))
 cases c2:inB u.fParams 0 (if 4<u.fRegs then 4 else u.fRegs)<;>rw[c2] at b3
 ·generalize (if 4<u.fRegs then(4:Int) else u.fRegs)=mn at *
  (repeat'(first|simp -implicitDefEqProofs (disch:=first|assumption|omega|(simp only[aE,aQ,aD,i64,sa,aC,lm,la,lc,ln];omega)) only[go_sem,simprocAttr,b1,b5,b3]|((first|rw[aL]|rw[aF]|rw[aG]|rw[aM]|rw[aN]|rw[aH]|rw[aI]|rw[aO]|skip);split)))
 cases c3:inB u.fCode.length 1 900<;>rw[c3] at b4
 ·generalize (if 4<u.fRegs then(4:Int) else u.fRegs)=mn at *
  (repeat'(first|simp -implicitDefEqProofs (disch:=first|assumption|omega|(simp only[aE,aQ,aD,i64,sa,aC,lm,la,lc,ln];omega)) only[go_sem,simprocAttr,b1,b5,b3,b4]|((first|rw[aL]|rw[aF]|rw[aG]|rw[aM]|rw[aN]|rw[aH]|rw[aI]|rw[aO]|skip);split)))
 have g1:0≤u.fRegs∧u.fRegs≤250:=by simpa[inB] using c1
 have g3:1≤(u.fCode.length:Int)∧(u.fCode.length:Int)≤900:=by simpa[inB] using c3
 have h0:=G6 u hs ⟨by omega,by omega⟩ hl u.fCode 0 rfl (by omega)
 obtain⟨t,ht,ht2,_⟩:=zkq (l:=u.fCode) (by omega)
 have ht3:=zjL t.fOp
 simp only[ZD.r] at ht2
 simp only[zY9,ht]
 generalize (if 4<u.fRegs then(4:Int) else u.fRegs)=mn at *
 cases c4:rE u 0 u.fCode<;>simp only[c4,Bool.false_eq_true,if_true,if_false] at h0
 ·(repeat'(first|simp -implicitDefEqProofs (disch:=first|assumption|omega|(simp only[aE,aQ,aD,i64,sa,aC,lm,la,lc,ln];omega)) only[go_sem,simprocAttr,b1,b5,b3,b4,h0]|((first|rw[aL]|rw[aF]|rw[aG]|rw[aM]|rw[aN]|rw[aH]|rw[aI]|rw[aO]|skip);split)))
 ·(repeat'(first|simp -implicitDefEqProofs (disch:=first|assumption|omega|(simp only[aE,aQ,aD,i64,sa,aC,lm,la,lc,ln];omega)) only[go_sem,simprocAttr,b1,b5,b3,b4,h0,ht2,ht3]|((first|rw[aL]|rw[aF]|rw[aG]|rw[aM]|rw[aN]|rw[aH]|rw[aI]|rw[aO]|skip);split)))
end Go.Ev.G
