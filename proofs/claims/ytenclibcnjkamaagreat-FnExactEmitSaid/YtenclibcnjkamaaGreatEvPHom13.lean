import Derived.Test.YtenclibcnjkamaaGreatEvPLiv5
import Derived.Test.YtenclibcnjkamaaGreatEvPSrt9
set_option linter.all false
namespace Go.Ev.G
set_option maxRecDepth 8000
set_option maxHeartbeats 4000000
theorem Qz(xs:List Int)(y:Int)(hx:xs.length≤140737488351232):∀(Bl:List Int) (j:Int),xs.drop j.toNat=Bl→0≤j →
  loopW tab [0,1,7,8] dI {env:=upd (upd (upd (upd emp 8 (some (I j))) 7 (some (I (xs.length:Int)))) 1 (some (I y))) 0 (some (.d (.r (aG xs)))),heap:=emp,fr:=0,next:=0} =
  if bC (fun x=>decide (x=y)) j Bl= -1 then some (.ext 0,{env:=emp,heap:=emp,fr:=0,next:=0}) else some (.ret,{env:=upd emp 4 (some (I (bC (fun x=>decide (x=y)) j Bl))),heap:=emp,fr:=0,next:=0})
 |[],j,hd,hj=>by
  have hh:=cY hd hj
  unfold loopW
  conv=>lhs;arg 1;unfold dI
  simp only[bC,if_true]
  simp -implicitDefEqProofs (disch:=first|assumption|omega) only[go_sem,simprocAttr,hh]
 |x::Bl,j,hd,hj=>by
  have hc:=cA hd hj
  have h4:=hc.2.1
  have h2:=gC (fun n=>[DI n]) hc.1
  have ih:=Qz xs y hx Bl (j+1) hc.2.2.1 (by omega)
  by_cases hp:x=y
  ·have hf:bC (fun x=>decide (x=y)) j (x::Bl)=j:=by rw[bC];exact if_pos (by simpa using hp)
   rw[hf,if_neg (by omega)]
   conv=>lhs;unfold loopW;arg 1;unfold dI
   simp -implicitDefEqProofs (disch:=first|assumption|omega) only[go_sem,simprocAttr,h2,h4,hp]
  ·have hf:bC (fun x=>decide (x=y)) j (x::Bl)=bC (fun x=>decide (x=y)) (j+1) Bl:=by rw[bC];exact if_neg (by simpa using hp)
   rw[hf,←ih]
   conv=>lhs;unfold loopW;arg 1;unfold dI
   simp -implicitDefEqProofs (disch:=first|assumption|omega) only[go_sem,simprocAttr,h2,h4,show ¬y=x from fun h=>hp h.symm]
theorem E5{α:Type}(p:α→Bool):∀(xs:List α) (j:Int),0≤j→(bC p j xs= -1↔∀x∈xs,p x=false)
 |[],j,h=>by simp[bC]
 |x::xs,j,h=>by
  rw[bC]
  split
  ·rename_i hp
   constructor
   ·intro h;omega
   ·intro h;have:=h x (by simp);rw[hp] at this;simp at this
  ·rename_i hp
   rw[E5 p xs (j+1) (by omega)]
   simp[hp]
theorem zQj(xs:List Int)(y:Int)(hx:xs.length≤140737488351232):call tab lA [.d (.r (aG xs)),I y]=some (I (bC (fun x=>decide (x=y)) 0 xs)):=by
 rw[aY xA _ rfl,nT]
 have h0:=Qz xs y hx xs 0 rfl (by omega)
 by_cases hp:bC (fun x=>decide (x=y)) 0 xs= -1
 ·rw[if_pos hp] at h0
  simp -implicitDefEqProofs (disch:=first|assumption|omega) only[go_sem,simprocAttr,h0,hp]
 ·rw[if_neg hp] at h0
  simp -implicitDefEqProofs (disch:=first|assumption|omega) only[go_sem,simprocAttr,h0,hp]
theorem Hp(xs:List Int)(y:Int)(hx:xs.length≤140737488351232):call tab eJ [.d (.r (aG xs)),I y]=some (B (decide (y∈xs))):=by
 rw[aY sK _ rfl,lT]
 have h0:=zQj xs y hx
 have h1:=D1 (fun x=>decide (x=y)) xs 0 (by omega)
 have h2:=E5 (fun x=>decide (x=y)) xs 0 (by omega)
 have h3:decide (y∈xs)=decide (0≤bC (fun x=>decide (x=y)) 0 xs):=by
  rw[decide_eq_decide]
  constructor
  ·intro hm
   have:¬bC (fun x=>decide (x=y)) 0 xs= -1:=fun h=>by have:=h2.1 h y hm;simp at this
   omega
  ·intro h
   refine Classical.byContradiction fun hm=> ?_
   have:=h2.2 (fun x hx=>by simp;exact fun e=>hm (e ▸ hx))
   omega
 rw[h3]
 generalize bC (fun x=>decide (x=y)) 0 xs=k at *
 simp -implicitDefEqProofs (disch:=first|assumption|omega) only[go_sem,simprocAttr,h0]
theorem zw2(a b c:Bool):call tab jF [.d (.r (bR [a,b,c])),B false]=some (I (if a=false then 0 else if b=false then 1 else if c=false then 2 else -1)):=by
 rw[aY uF _ rfl,mD]
 have l3:loopW tab [0,1,7,8] bD {env:=upd (upd (upd (upd emp 8 (some (I 3))) 7 (some (I 3))) 1 (some (B false))) 0 (some (.d (.r (bR [a,b,c])))),heap:=emp,fr:=0,next:=0}=some (.ext 0,{env:=emp,heap:=emp,fr:=0,next:=0}):=by
  unfold loopW
  conv=>lhs;arg 1;unfold bD
  simp -implicitDefEqProofs (disch:=first|assumption|omega) only[go_sem,simprocAttr,show(false==true)=false from rfl]
 have l2:loopW tab [0,1,7,8] bD {env:=upd (upd (upd (upd emp 8 (some (I 2))) 7 (some (I 3))) 1 (some (B false))) 0 (some (.d (.r (bR [a,b,c])))),heap:=emp,fr:=0,next:=0}=if c=false then some (.ret,{env:=upd emp 4 (some (I 2)),heap:=emp,fr:=0,next:=0}) else some (.ext 0,{env:=emp,heap:=emp,fr:=0,next:=0}):=by
  cases c<;>simp only[Bool.true_eq_false,if_true,if_false,bR,mc,mn] at l3 ⊢
  ·conv=>lhs;unfold loopW;arg 1;unfold bD
   simp -implicitDefEqProofs (disch:=first|assumption|omega) only[go_sem,simprocAttr,show(false==true)=false from rfl]
  ·rw[←l3]
   conv=>lhs;unfold loopW;arg 1;unfold bD
   simp -implicitDefEqProofs (disch:=first|assumption|omega) only[go_sem,simprocAttr,show(false==true)=false from rfl]
 have l1:loopW tab [0,1,7,8] bD {env:=upd (upd (upd (upd emp 8 (some (I 1))) 7 (some (I 3))) 1 (some (B false))) 0 (some (.d (.r (bR [a,b,c])))),heap:=emp,fr:=0,next:=0}=if b=false then some (.ret,{env:=upd emp 4 (some (I 1)),heap:=emp,fr:=0,next:=0}) else if c=false then some (.ret,{env:=upd emp 4 (some (I 2)),heap:=emp,fr:=0,next:=0}) else some (.ext 0,{env:=emp,heap:=emp,fr:=0,next:=0}):=by
  cases b<;>simp only[Bool.true_eq_false,if_true,if_false,bR,mc,mn] at l2 ⊢
  ·conv=>lhs;unfold loopW;arg 1;unfold bD
   simp -implicitDefEqProofs (disch:=first|assumption|omega) only[go_sem,simprocAttr,show(false==true)=false from rfl]
  ·rw[←l2]
   conv=>lhs;unfold loopW;arg 1;unfold bD
   simp -implicitDefEqProofs (disch:=first|assumption|omega) only[go_sem,simprocAttr,show(false==true)=false from rfl]
 have l0:loopW tab [0,1,7,8] bD {env:=upd (upd (upd (upd emp 8 (some (I 0))) 7 (some (I 3))) 1 (some (B false))) 0 (some (.d (.r (bR [a,b,c])))),heap:=emp,fr:=0,next:=0}=if a=false then some (.ret,{env:=upd emp 4 (some (I 0)),heap:=emp,fr:=0,next:=0}) else if b=false then some (.ret,{env:=upd emp 4 (some (I 1)),heap:=emp,fr:=0,next:=0}) else if c=false then some (.ret,{env:=upd emp 4 (some (I 2)),heap:=emp,fr:=0,next:=0}) else some (.ext 0,{env:=emp,heap:=emp,fr:=0,next:=0}):=by
  cases a<;>simp only[Bool.true_eq_false,if_true,if_false,bR,mc,mn] at l1 ⊢
  ·conv=>lhs;unfold loopW;arg 1;unfold bD
   simp -implicitDefEqProofs (disch:=first|assumption|omega) only[go_sem,simprocAttr,show(false==true)=false from rfl]
  ·rw[←l1]
   conv=>lhs;unfold loopW;arg 1;unfold bD
   simp -implicitDefEqProofs (disch:=first|assumption|omega) only[go_sem,simprocAttr,show(false==true)=false from rfl]
 simp only[bR,mc,mn] at l0 ⊢
 cases a<;>cases b<;>cases c<;>simp only[Bool.true_eq_false,if_true,if_false,bR,mc,mn] at l0 ⊢ <;> simp -implicitDefEqProofs (disch:=first|assumption|omega) only[go_sem,simprocAttr,l0]
theorem zqf(n:Int)(hn:n≤250):∀(k:Nat) (j:Int),n-j=k→0≤j →
  loopW tab [0,3,4] lQ {env:=upd (upd (upd emp 4 (some (I j))) 3 (some (.ref (0,0) []))) 0 (some (I n)),heap:=upd emp (0,0) (some (.s 1 (aG (List.replicate j.toNat (-1))))),fr:=0,next:=1} =
  some (.ext 0,{env:=upd emp 3 (some (.ref (0,0) [])),heap:=upd emp (0,0) (some (.s 1 (aG (List.replicate n.toNat (-1))))),fr:=0,next:=1})
 |0,j,hk,hj=>by
  have e:j=n:=by omega
  subst e
  unfold loopW
  conv=>lhs;arg 1;unfold lQ
  simp -implicitDefEqProofs (disch:=first|assumption|omega) only[go_sem,simprocAttr]
 |k+1,j,hk,hj=>by
  have ih:=zqf n hn k (j+1) (by omega) (by omega)
  rw[←ih]
  have hs:aG (List.replicate (j+1).toNat (-1))=aG (List.replicate j.toNat (-1))++[[DI (-1)]]:=by
   rw[show(j+1).toNat=j.toNat+1 by omega,List.replicate_succ']
   simp[aG]
  rw[hs]
  have hl:(aG (List.replicate j.toNat (-1))).length≤250:=by simp[aG];omega
  generalize aG (List.replicate j.toNat (-1))=W at *
  conv=>lhs;unfold loopW;arg 1;unfold lQ
  simp -implicitDefEqProofs (disch:=first|assumption|omega|(simp only[aE,aM,aF,i64,sa,aD,lm,la,lc,ln];omega)) only[go_sem,simprocAttr,show j<n by omega]
theorem zqA(n:Int)(h0:0≤n)(hn:n≤250):call tab nN [I n]=some (.d (.s 1 (aG (List.replicate n.toNat (-1))))):=by
 rw[aY K2 _ rfl,Al]
 have h:=zqf n hn n.toNat 0 (by omega) (by omega)
 rw[show(0:Int).toNat=0 from rfl,List.replicate_zero,aG,mn,aG] at h
 simp -implicitDefEqProofs (disch:=first|assumption|omega|(simp only[aE,aM,aF,i64,sa,aD,lm,la,lc,ln];omega)) only[go_sem,simprocAttr,h]
set_option maxRecDepth 8000
set_option maxHeartbeats 4000000
theorem zq6(n:Int)(h0:0≤n)(h1:n≤1000000000)(fr:Nat)(hh:fr=1):evCW tab lZ [.d (.s 1 []),I n] emp fr=some (.d (.s 1 []),emp):=by
 subst hh
 rw[aR yO _ _ _ rfl,oI,So]
 have h:libS 3 {env:=jU 0 [.d (.s 1 []),I n],heap:=emp,fr:=1,next:=0}=some (.ret,{env:=upd emp 0 (some (.ref (1,0) [])),heap:=upd emp (1,0) (some (.s 1 [])),fr:=1,next:=0}):=by
  simp[libS,zqt,zQZ,jU,upd,h0,h1]
 rw[h]
 simp -implicitDefEqProofs (disch:=first|assumption|omega|(simp only[aE,aM,aF,i64,sa,aD,lm,la,lc,ln];omega)) only[go_sem,simprocAttr]
theorem r8(a:List Int):((aG a).all fun el=>el.length==1)=true:=by simp[aG]
abbrev r3(a b c:List Int):List (List D):=[[.r (aG a)],[.r (aG b)],[.r (aG c)]]
theorem zv1(a b c:List Int)(ha:a.length≤2000000)(hb:b.length≤2000000)(hc:c.length≤2000000) :
  loopW tab [0,3,9,10,11] bS {env:=upd (upd (upd (upd (upd emp 11 (some (I 0))) 10 (some (I 3))) 9 (some (.d (.r (r3 a b c))))) 3 (some (I 0))) 0 (some (.d (.r (r3 a b c)))),heap:=emp,fr:=0,next:=0} =
  some (.ext 0,{env:=upd (upd emp 3 (some (I (a.length+b.length+c.length:Int)))) 0 (some (.d (.r (r3 a b c)))),heap:=emp,fr:=0,next:=0}):=by
 have l3:loopW tab [0,3,9,10,11] bS {env:=upd (upd (upd (upd (upd emp 11 (some (I 3))) 10 (some (I 3))) 9 (some (.d (.r (r3 a b c))))) 3 (some (I (a.length+b.length+c.length:Int)))) 0 (some (.d (.r (r3 a b c)))),heap:=emp,fr:=0,next:=0} =
  some (.ext 0,{env:=upd (upd emp 3 (some (I (a.length+b.length+c.length:Int)))) 0 (some (.d (.r (r3 a b c)))),heap:=emp,fr:=0,next:=0}):=by
  unfold loopW
  conv=>lhs;arg 1;unfold bS
  simp -implicitDefEqProofs (disch:=first|assumption|omega) only[go_sem,simprocAttr]
 have l2:loopW tab [0,3,9,10,11] bS {env:=upd (upd (upd (upd (upd emp 11 (some (I 2))) 10 (some (I 3))) 9 (some (.d (.r (r3 a b c))))) 3 (some (I (a.length+b.length:Int)))) 0 (some (.d (.r (r3 a b c)))),heap:=emp,fr:=0,next:=0} =
  some (.ext 0,{env:=upd (upd emp 3 (some (I (a.length+b.length+c.length:Int)))) 0 (some (.d (.r (r3 a b c)))),heap:=emp,fr:=0,next:=0}):=by
  rw[←l3]
  conv=>lhs;unfold loopW;arg 1;unfold bS
  simp -implicitDefEqProofs (disch:=first|assumption|omega) only[go_sem,simprocAttr,aG,lm,show ¬(a.length+b.length+c.length:Int)<0 by omega]
 have l1:loopW tab [0,3,9,10,11] bS {env:=upd (upd (upd (upd (upd emp 11 (some (I 1))) 10 (some (I 3))) 9 (some (.d (.r (r3 a b c))))) 3 (some (I (a.length:Int)))) 0 (some (.d (.r (r3 a b c)))),heap:=emp,fr:=0,next:=0} =
  some (.ext 0,{env:=upd (upd emp 3 (some (I (a.length+b.length+c.length:Int)))) 0 (some (.d (.r (r3 a b c)))),heap:=emp,fr:=0,next:=0}):=by
  rw[←l2]
  conv=>lhs;unfold loopW;arg 1;unfold bS
  simp -implicitDefEqProofs (disch:=first|assumption|omega) only[go_sem,simprocAttr,aG,lm,show ¬(a.length+b.length:Int)<0 by omega]
 rw[←l1]
 conv=>lhs;unfold loopW;arg 1;unfold bS
 simp -implicitDefEqProofs (disch:=first|assumption|omega) only[go_sem,simprocAttr,aG,lm,show ¬(a.length:Int)<0 by omega,show(0:Int)+a.length=a.length by omega]
theorem zq0(a b c:List Int)(ha:a.length≤2000000)(hb:b.length≤2000000)(hc:c.length≤2000000) :
  loopW tab [6,25,26,27] bQ {env:=upd (upd (upd (upd emp 27 (some (I 0))) 26 (some (I 3))) 25 (some (.d (.r (r3 a b c))))) 6 (some (.ref (0,0) [])),heap:=upd emp (0,0) (some (.s 1 [])),fr:=0,next:=1} =
  some (.ext 2,{env:=upd emp 6 (some (.ref (0,0) [])),heap:=upd emp (0,0) (some (.s 1 (aG (a++b++c)))),fr:=0,next:=1}):=by
 have l3:loopW tab [6,25,26,27] bQ {env:=upd (upd (upd (upd emp 27 (some (I 3))) 26 (some (I 3))) 25 (some (.d (.r (r3 a b c))))) 6 (some (.ref (0,0) [])),heap:=upd emp (0,0) (some (.s 1 (aG (a++b++c)))),fr:=0,next:=1} =
  some (.ext 2,{env:=upd emp 6 (some (.ref (0,0) [])),heap:=upd emp (0,0) (some (.s 1 (aG (a++b++c)))),fr:=0,next:=1}):=by
  unfold loopW
  conv=>lhs;arg 1;unfold bQ
  simp -implicitDefEqProofs (disch:=first|assumption|omega) only[go_sem,simprocAttr]
 have l2:loopW tab [6,25,26,27] bQ {env:=upd (upd (upd (upd emp 27 (some (I 2))) 26 (some (I 3))) 25 (some (.d (.r (r3 a b c))))) 6 (some (.ref (0,0) [])),heap:=upd emp (0,0) (some (.s 1 (aG (a++b)))),fr:=0,next:=1} =
  some (.ext 2,{env:=upd emp 6 (some (.ref (0,0) [])),heap:=upd emp (0,0) (some (.s 1 (aG (a++b++c)))),fr:=0,next:=1}):=by
  rw[←l3]
  have e:aG (a++b++c)=aG (a++b)++aG c:=by simp[aG]
  rw[e]
  have e1:(aG (a++b)).length≤4000000:=by simp[aG];omega
  have e2:(aG c).length≤2000000:=by simp[aG];omega
  have e3:=cN c
  have e4:=cN (a++b)
  generalize aG (a++b)=W at *
  conv=>lhs;unfold loopW;arg 1;unfold bQ
  simp -implicitDefEqProofs (disch:=first|assumption|omega|(simp only[aE,aM,aF,i64,sa,aD,lm,la,lc,ln];omega)) only[go_sem,simprocAttr,Be,r8]
 have l1:loopW tab [6,25,26,27] bQ {env:=upd (upd (upd (upd emp 27 (some (I 1))) 26 (some (I 3))) 25 (some (.d (.r (r3 a b c))))) 6 (some (.ref (0,0) [])),heap:=upd emp (0,0) (some (.s 1 (aG a))),fr:=0,next:=1} =
  some (.ext 2,{env:=upd emp 6 (some (.ref (0,0) [])),heap:=upd emp (0,0) (some (.s 1 (aG (a++b++c)))),fr:=0,next:=1}):=by
  rw[←l2]
  have e:aG (a++b)=aG a++aG b:=by simp[aG]
  rw[e]
  have e1:(aG a).length≤4000000:=by simp[aG];omega
  have e2:(aG b).length≤2000000:=by simp[aG];omega
  conv=>lhs;unfold loopW;arg 1;unfold bQ
  simp -implicitDefEqProofs (disch:=first|assumption|omega|(simp only[aE,aM,aF,i64,sa,aD,lm,la,lc,ln];omega)) only[go_sem,simprocAttr,Be,r8]
 rw[←l1]
 have e2:(aG a).length≤2000000:=by simp[aG];omega
 conv=>lhs;unfold loopW;arg 1;unfold bQ
 simp -implicitDefEqProofs (disch:=first|assumption|omega|(simp only[aE,aM,aF,i64,sa,aD,lm,la,lc,ln];omega)) only[go_sem,simprocAttr,Be,r8]
theorem zk1(a b c:List Int)(ha:a.length≤2000000)(hb:b.length≤2000000)(hc:c.length≤2000000):call tab j5 [.d (.r (r3 a b c))]=some (.d (.s 1 (aG (a++b++c)))):=by
 rw[aY wB _ rfl,nE]
 have h0:=zv1 a b c ha hb hc
 have h1:=zq0 a b c ha hb hc
 have h2:=zq6 (a.length+b.length+c.length) (by omega) (by omega) 1 rfl
 simp -implicitDefEqProofs (disch:=first|assumption|omega|(simp only[aE,aM,aF,i64,sa,aD,lm,la,lc,ln];omega)) only[go_sem,simprocAttr,h0,h1,h2]
set_option maxRecDepth 8000
def p7(j:Int)(F:List Int)(ls:List Int):List Int:=ls.foldl (fun F r=>if aB F r<0 then F.set r.toNat j else F) F
def sM(j:Int)(L:List Int)(ls:List Int):List Int:=ls.foldl (fun L r=>L.set r.toNat j) L
theorem zL(j:Int):∀(ls F:List Int),(p7 j F ls).length=F.length
 |[],F=>rfl
 |r::ls,F=>by
  rw[p7,List.foldl_cons,←p7,zL]
  split<;>simp
theorem Ep(j:Int):∀(ls L:List Int),(sM j L ls).length=L.length
 |[],L=>rfl
 |r::ls,L=>by rw[sM,List.foldl_cons,←sM,Ep,List.length_set]
theorem A7(j:Int)(hj:0≤j)(p:Nat):∀(ls F:List Int),(∀r∈ls,0≤r)→(p7 j F ls)[p]? = F[p]?.map fun x=>if (p:Int)∈ls∧x<0 then j else x
 |[],F,h=>by simp[p7]
 |r::ls,F,h=>by
  have h0:=h r (by simp)
  rw[p7,List.foldl_cons,←p7,A7 j hj p ls _ (fun r hr=>h r (by simp[hr]))]
  cases hF:F[p]? with
  |none =>
   have:(if aB F r<0 then F.set r.toNat j else F)[p]? = none:=by
    rw[List.getElem?_eq_none_iff] at hF ⊢
    split<;>simpa using hF
   rw[this];rfl
  |some x =>
   by_cases e:r=p
   ·subst e
    have hg:aB F (p:Int)=x:=by simp[aB,hF]
    by_cases hx:x<0
    ·rw[if_pos (by rw[hg];exact hx),List.getElem?_set]
     have hp:p<F.length:=by
      refine Classical.byContradiction fun hn=> ?_
      rw[List.getElem?_eq_none (by omega)] at hF
      simp at hF
     simp only[Int.toNat_natCast,if_true,hp,oms,List.mem_cons,true_or,true_and,hx]
     have:¬j<0:=by omega
     simp[this]
    ·rw[if_neg (by rw[hg];exact hx),hF]
     simp[hx]
   ·have e2:(if aB F r<0 then F.set r.toNat j else F)[p]? = F[p]? := by
     split
     ·rw[List.getElem?_set,if_neg (by omega)]
     ·rfl
    rw[e2,hF]
    simp[show ¬(p:Int)=r by omega]
theorem Fy(j:Int)(p:Nat):∀(ls L:List Int),(∀r∈ls,0≤r)→(sM j L ls)[p]? = L[p]?.map fun x=>if (p:Int)∈ls then j else x
 |[],F,h=>by simp[sM]
 |r::ls,F,h=>by
  have h0:=h r (by simp)
  rw[sM,List.foldl_cons,←sM,Fy j p ls _ (fun r hr=>h r (by simp[hr])),List.getElem?_set]
  by_cases e:r=p
  ·subst e
   simp only[Int.toNat_natCast,if_true,List.mem_cons,true_or]
   by_cases hp:p<F.length
   ·simp[hp]
   ·simp[hp]
  ·rw[if_neg (by omega)]
   simp[show ¬(p:Int)=r by omega]
theorem Zi{j:Int}(hj:0≤j){a b F:List Int}(ha:∀r∈a,0≤r)(hb:∀r∈b,0≤r)(h:∀p:Nat,(p:Int)∈a↔(p:Int)∈b):p7 j F a=p7 j F b :=
 List.ext_getElem? fun p=>by rw[A7 j hj p a F ha,A7 j hj p b F hb];simp only[h p]
theorem zjg{j:Int}{a b F:List Int}(ha:∀r∈a,0≤r)(hb:∀r∈b,0≤r)(h:∀p:Nat,(p:Int)∈a↔(p:Int)∈b):sM j F a=sM j F b :=
 List.ext_getElem? fun p=>by rw[Fy j p a F ha,Fy j p b F hb];simp only[h p]
theorem Qr:∀(a:BL) (j r:Int),r∈kG a j↔j≤r∧a[(r-j).toNat]? = some true
 |[],j,r=>by simp[kG]
 |x::a,j,r=>by
  have ih:=Qr a (j+1) r
  have hh:∀k:Int,j+1≤k→(x::a)[(k-j).toNat]? = a[(k-(j+1)).toNat]? := fun k hk=>by
   rw[show(k-j).toNat=(k-(j+1)).toNat+1 by omega,List.getElem?_cons_succ]
  have hz:(x::a)[(j-j).toNat]? = some x:=by rw[show(j-j).toNat=0 by omega];rfl
  rw[kG]
  by_cases e:r=j
  ·subst e
   rw[hz]
   cases x
   ·simp only[Bool.false_eq_true,if_false,ih]
    constructor
    ·intro h;omega
    ·intro h;simp at h
   ·simp
  ·cases x
   ·simp only[Bool.false_eq_true,if_false,ih]
    constructor
    ·intro h;rw[hh r h.1];exact⟨by omega,h.2⟩
    ·intro h;rw[hh r (by omega)] at h;exact⟨by omega,h.2⟩
   ·simp only[if_true,List.mem_cons,e,false_or,ih]
    constructor
    ·intro h;rw[hh r h.1];exact⟨by omega,h.2⟩
    ·intro h;rw[hh r (by omega)] at h;exact⟨by omega,h.2⟩
theorem F4(a:BL)(r:Int):r∈dJ a↔0≤r∧a[r.toNat]? = some true:=by
 rw[dJ,Qr];simp
theorem vP{a:BL}{r:Int}(h:r∈dJ a):0≤r∧r<a.length:=by
 rw[F4] at h
 refine⟨h.1,?_⟩
 refine Classical.byContradiction fun hn=> ?_
 rw[List.getElem?_eq_none (by omega)] at h
 simp at h
theorem Ps:∀(a:BL) (j:Int),(kG a j).length≤a.length
 |[],j=>by simp[kG]
 |x::a,j=>by
  rw[kG]
  have:=Ps a (j+1)
  split<;>simp<;>omega
theorem G7(a:BL):(dJ a).length≤a.length:=Ps a 0
theorem Hd(p:Nat):∀(ls:List Int) (a:BL),(∀r∈ls,0≤r∧r<a.length)→((bY true a ls)[p]? = some true↔(p:Int)∈ls∨a[p]? = some true)
 |[],a,h=>by simp[bY]
 |r::ls,a,h=>by
  have h0:=h r (by simp)
  rw[bY,List.foldl_cons,←bY,Hd p ls _ (fun r hr=>by rw[List.length_set];exact h r (by simp[hr])),List.getElem?_set]
  by_cases e:r=p
  ·subst e
   simp;omega
  ·rw[if_neg (by omega)]
   simp[show ¬(p:Int)=r by omega]
def qI(t:ZC)(o:BL):List Int:=aZ t++a8 t++dJ o
def jT:List ZC→List BL→Int→List Int×List Int→List Int×List Int
 |t::ts,o::os,j,P=>jT ts os (j+1) (p7 j P.1 (qI t o),sM j P.2 (qI t o))
 |_,_,_,P=>P
theorem Qj:∀(ts:List ZC) (os:List BL) (j:Int) (P:List Int×List Int),(jT ts os j P).1.length=P.1.length∧(jT ts os j P).2.length=P.2.length
 |[],_,j,P=>by simp[jT]
 |_::_,[],j,P=>by simp[jT]
 |t::ts,o::os,j,P=>by
  rw[jT]
  have:=Qj ts os (j+1) (p7 j P.1 (qI t o),sM j P.2 (qI t o))
  simp only[zL,Ep] at this
  exact this
theorem zx9(t:ZC)(o:BL)(h:∀r∈aZ t++a8 t,0≤r∧r<o.length)(p:Nat):(p:Int)∈dJ (bY true o (aZ t++a8 t))↔(p:Int)∈qI t o:=by
 rw[F4,qI,List.mem_append,F4]
 simp only[Int.natCast_nonneg,true_and,Int.toNat_natCast]
 exact Hd p _ _ h
def inJ(n:Int)(F:List Int):Prop:=∀x∈F,-1≤x∧x<n
theorem zqb{n:Int}{F:List Int}(h:inJ n F){p:Nat}{x:Int}(hx:F[p]? = some x): -1≤x∧x<n:=h x (List.mem_of_getElem? hx)
theorem zVr{n j:Int}(h0:0≤j)(h1:j<n){F:List Int}(hF:inJ n F){ls:List Int}(hl:∀r∈ls,0≤r):inJ n (p7 j F ls):=fun x hx=>by
 obtain⟨p,hp⟩:=List.mem_iff_getElem?.1 hx
 rw[A7 j h0 p ls F hl] at hp
 cases e:F[p]? with
 |none=>rw[e] at hp;simp at hp
 |some y =>
  rw[e] at hp
  simp only[oms,oi] at hp
  have:=zqb hF e
  split at hp<;>omega
theorem zKQ{n j:Int}(h0:0≤j)(h1:j<n){F:List Int}(hF:inJ n F){ls:List Int}(hl:∀r∈ls,0≤r):inJ n (sM j F ls):=fun x hx=>by
 obtain⟨p,hp⟩:=List.mem_iff_getElem?.1 hx
 rw[Fy j p ls F hl] at hp
 cases e:F[p]? with
 |none=>rw[e] at hp;simp at hp
 |some y =>
  rw[e] at hp
  simp only[oms,oi] at hp
  have:=zqb hF e
  split at hp<;>omega
theorem Vp(n:Int)(m:Nat):∀(ts:List ZC) (os:List BL) (j:Int) (P:List Int×List Int),0≤j→j+ts.length≤n→(∀t∈ts,∀r∈aZ t++a8 t,0≤r)→inJ n P.1→inJ n P.2→inJ n (jT ts os j P).1∧inJ n (jT ts os j P).2
 |[],_,j,P,_,_,_,h1,h2=>by simp only[jT];exact⟨h1,h2⟩
 |_::_,[],j,P,_,_,_,h1,h2=>by simp only[jT];exact⟨h1,h2⟩
 |t::ts,o::os,j,P,h0,hn,ht,h1,h2=>by
  rw[jT]
  simp only[lc] at hn
  have hl:∀r∈qI t o,0≤r:=fun r hr=>by
   rcases List.mem_append.1 hr with h|h
   ·exact ht t (by simp) r h
   ·exact(vP h).1
  exact Vp n m ts os (j+1) _ (by omega) (by omega) (fun t h=>ht t (by simp[h])) (zVr h0 (by omega) h1 hl) (zKQ h0 (by omega) h2 hl)
noncomputable def spU (u:ZD):List Int×List Int:=jT u.fCode (live u) 0 (List.replicate u.fRegs.toNat (-1),List.replicate u.fRegs.toNat (-1))
set_option maxRecDepth 8000
set_option maxHeartbeats 4000000
abbrev spH(F L:List Int):Heap:=upd (upd emp (0,1) (some (.s 1 (aG L)))) (0,0) (some (.s 1 (aG F)))
theorem Qe(u:ZD)(m:Nat)(hm:m≤250):∀(k:Nat) (F L:List Int) (j:Int),j+k=m→0≤j→F.length=m→L.length=m→(∀x∈F.take j.toNat,x= -1)→(∀x∈L.take j.toNat,x= -1) →
  loopW tab [1,4,5,22,23] nZ {env:=upd (upd (upd (upd (upd emp 23 (some (I j))) 22 (some (I (m:Int)))) 5 (some (.ref (0,1) []))) 4 (some (.ref (0,0) []))) 1 (some (.vp [Str u.fName,I u.fParams,I u.fRegs,.d (.r (u.fCode.map ZC.r))])),heap:=spH F L,fr:=0,next:=2} =
  some (.ext 0,{env:=upd (upd (upd emp 5 (some (.ref (0,1) []))) 4 (some (.ref (0,0) []))) 1 (some (.vp [Str u.fName,I u.fParams,I u.fRegs,.d (.r (u.fCode.map ZC.r))])),heap:=spH (List.replicate m (-1)) (List.replicate m (-1)),fr:=0,next:=2})
 |0,F,L,j,hk,hj,hF,hL,h1,h2=>by
  have e1:F=List.replicate m (-1):=List.eq_replicate_iff.2 ⟨hF,fun x hx=>h1 x (by rw[List.take_of_length_le (by omega)];exact hx)⟩
  have e2:L=List.replicate m (-1):=List.eq_replicate_iff.2 ⟨hL,fun x hx=>h2 x (by rw[List.take_of_length_le (by omega)];exact hx)⟩
  rw[e1,e2]
  unfold loopW
  conv=>lhs;arg 1;unfold nZ
  simp -implicitDefEqProofs (disch:=first|assumption|omega) only[go_sem,simprocAttr,show(m:Int)≤j by omega]
 |k+1,F,L,j,hk,hj,hF,hL,h1,h2=>by
  have ht:∀(A:List Int),A.length=m→(∀x∈A.take j.toNat,x= -1)→∀x∈(A.set j.toNat (-1)).take (j+1).toNat,x= -1:=fun A hA h x hx=>by
   rw[show(j+1).toNat=j.toNat+1 by omega,List.take_succ,List.take_set_of_le (Nat.le_refl _)] at hx
   rcases List.mem_append.1 hx with hx|hx
   ·exact h x hx
   ·simp[show j.toNat<A.length by omega] at hx;exact hx
  have ih:=Qe u m hm k (F.set j.toNat (-1)) (L.set j.toNat (-1)) (j+1) (by omega) (by omega) (by simp[hF]) (by simp[hL]) (ht F hF h1) (ht L hL h2)
  rw[←ih]
  have f1:(aG F).length=m:=by simp[aG,hF]
  have f2:(aG L).length=m:=by simp[aG,hL]
  have g1:=dH F j.toNat (-1)
  have g2:=dH L j.toNat (-1)
  have f3:=(bO (zs:=F) hj (by omega)).1
  have f4:=(bO (zs:=L) hj (by omega)).1
  generalize aB F j=z1 at *
  generalize aB L j=z2 at *
  conv=>lhs;unfold loopW;arg 1;unfold nZ
  simp -implicitDefEqProofs (disch:=first|assumption|omega) only[go_sem,simprocAttr,show j<m by omega,f1,f2,f3,f4,g1,g2]
theorem Q0(C:List ZC)(N:List (List Int))(w:Int)(i:Int)(jj:Int)(m:Nat)(hm:m≤250)(hi:0≤i)(cs:List Int)(hcs:cs.length≤8000000)(hc:∀r∈cs,0≤r∧r<m):∀(Bl:List Int) (j:Int) (F L:List Int),cs.drop j.toNat=Bl→0≤j→F.length=m→L.length=m →
  loopW tab [4,5,7,8,36,37,38,52,53,54] nS {env:=upd (upd (upd (upd (upd (upd (upd (upd (upd (upd emp 54 (some (I j))) 53 (some (I (cs.length:Int)))) 52 (some (.d (.r (aG cs))))) 38 (some (I jj))) 37 (some (I w))) 36 (some (.d (.r (C.map ZC.r))))) 8 (some (I i))) 7 (some (.d (.r (nMr N))))) 5 (some (.ref (0,1) []))) 4 (some (.ref (0,0) [])),heap:=spH F L,fr:=0,next:=2} =
  some (.ext 4,{env:=upd (upd (upd (upd (upd (upd emp 38 (some (I jj))) 37 (some (I w))) 36 (some (.d (.r (C.map ZC.r))))) 7 (some (.d (.r (nMr N))))) 5 (some (.ref (0,1) []))) 4 (some (.ref (0,0) [])),heap:=spH (p7 i F Bl) (sM i L Bl),fr:=0,next:=2})
 |[],j,F,L,hd,hj,hF,hL=>by
  have hh:=cY hd hj
  unfold loopW
  conv=>lhs;arg 1;unfold nS
  simp -implicitDefEqProofs (disch:=first|assumption|omega) only[go_sem,simprocAttr,hh,p7,sM,List.foldl_nil]
 |r::Bl,j,F,L,hd,hj,hF,hL=>by
  have hc0:=cA hd hj
  have hr:=hc r hc0.2.2.2.1
  have h2:=gC (fun n=>[DI n]) hc0.1
  have h4:=hc0.2.1
  have ih:=Q0 C N w i jj m hm hi cs hcs hc Bl (j+1) (if aB F r<0 then F.set r.toNat i else F) (L.set r.toNat i) hc0.2.2.1 (by omega) (by split<;>simp[hF]) (by simp[hL])
  rw[p7,sM,List.foldl_cons,List.foldl_cons,←p7,←sM,←ih]
  have f1:(aG F).length=m:=by simp[aG,hF]
  have f2:(aG L).length=m:=by simp[aG,hL]
  have f3:=(bO (zs:=F) hr.1 (by omega)).1
  have f5:=(bO (zs:=L) hr.1 (by omega)).1
  generalize aB L r=z3 at *
  have g2:=dH L r.toNat i
  have g1:=dH F r.toNat i
  have f4:(aG (F.set r.toNat i)).length=m:=by simp[aG,hF]
  obtain⟨hr1,hr2⟩:=hr
  conv=>lhs;unfold loopW;arg 1;unfold nS
  by_cases hn:aB F r<0
  ·rw[if_pos hn]
   generalize aB F r=z at *
   simp -implicitDefEqProofs (disch:=first|assumption|omega) only[go_sem,simprocAttr,h2,h4,f1,f2,f3,f4,f5,g1,g2,hn]
  ·rw[if_neg hn]
   generalize aB F r=z at *
   simp -implicitDefEqProofs (disch:=first|assumption|omega) only[go_sem,simprocAttr,h2,h4,f1,f2,f3,f4,f5,g1,g2,hn]
theorem Qp(C:List ZC)(M:List BL)(m:Nat)(hm:m≤250)(hM:∀o∈M,o.length=m)(hMl:M.length=C.length)(hCl:C.length≤900)(hC:∀t∈C,t.sm∧∀r∈aZ t++a8 t,0≤r∧r<m):∀(Bl:List ZC) (Ml:List BL) (j:Int) (P:List Int×List Int),C.drop j.toNat=Bl→M.drop j.toNat=Ml→0≤j→P.1.length=m→P.2.length=m →
  loopW tab [4,5,7,36,37,38] nL {env:=upd (upd (upd (upd (upd (upd emp 38 (some (I j))) 37 (some (I (C.length:Int)))) 36 (some (.d (.r (C.map ZC.r))))) 7 (some (.d (.r (nMr (M.map dJ)))))) 5 (some (.ref (0,1) []))) 4 (some (.ref (0,0) [])),heap:=spH P.1 P.2,fr:=0,next:=2} =
  some (.ext 2,{env:=upd (upd emp 5 (some (.ref (0,1) []))) 4 (some (.ref (0,0) [])),heap:=spH (jT Bl Ml j P).1 (jT Bl Ml j P).2,fr:=0,next:=2})
 |[],Ml,j,P,hd,hd2,hj,hF,hL=>by
  have hh:=cY hd hj
  unfold loopW
  conv=>lhs;arg 1;unfold nL
  simp only[jT]
  simp -implicitDefEqProofs (disch:=first|assumption|omega) only[go_sem,simprocAttr,hh]
 |t::Bl,[],j,P,hd,hd2,hj,hF,hL=>by
  have h1:=(cA hd hj).2.1
  have h2:=cY hd2 hj
  omega
 |t::Bl,o::Ml,j,P,hd,hd2,hj,hF,hL=>by
  have hc:=cA hd hj
  have hc2:=cA hd2 hj
  obtain⟨ht1,ht2⟩:=hC t hc.2.2.2.1
  have ho:=hM o hc2.2.2.2.1
  have hnl:(dJ o).length≤250:=by have:=G7 o;omega
  have hin:∀r∈qI t o,0≤r∧r<m:=fun r hr=>by
   rcases List.mem_append.1 hr with h|h
   ·exact ht2 r h
   ·have:=vP h;omega
  have hsl:(aZ t).length≤2000000:=by have:=nC t;omega
  have hul:(a8 t).length≤2000000:=by have:=oN t;have:=ht1.2;omega
  have hcl:(qI t o).length≤8000000:=by rw[qI,la,la];omega
  have ih:=Qp C M m hm hM hMl hCl hC Bl Ml (j+1) (p7 j P.1 (qI t o),sM j P.2 (qI t o)) hc.2.2.1 hc2.2.2.1 (by omega) (by rw[zL];exact hF) (by rw[Ep];exact hL)
  rw[jT,←ih]
  have g0:=Q0 C (M.map dJ) C.length j j m hm hj (qI t o) hcl hin (qI t o) 0 P.1 P.2 rfl (by omega) hF hL
  have h2:=gC ZC.r hc.1
  have h3:=gC (fun l=>[D.r (aG l)]) (gC dJ hc2.1)
  have h4:=hc.2.1
  have h5:=zk1 (aZ t) (a8 t) (dJ o) hsl hul (by omega)
  rw[show aZ t++a8 t++dJ o=qI t o from rfl] at h5
  have g1:=qT t
  have g2:=wR t ht1.2
  simp only[ZC.r] at h2
  generalize qI t o=cs at *
  generalize aZ t=sl at *
  generalize a8 t=ul at *
  generalize dJ o=nl at *
  have e2:fzs [[D.r (aG sl)],[D.r (aG ul)],[D.r (aG nl)]]=[[D.r (aG sl)],[D.r (aG ul)],[D.r (aG nl)]]:=by simp[fzs,fzl,D.fz,cN]
  simp only[r3] at h5
  have e3:D.noR.noRss (aG cs)=true:=nA _ (fun n=>by simp[D.noR.noRs,D.noR]) cs
  have e1:(nMr (M.map dJ)).length≤140737488351232:=by simp;omega
  conv=>lhs;unfold loopW;arg 1;unfold nL
  simp -implicitDefEqProofs (disch:=first|assumption|omega|(simp only[aE,aM,aF,i64,sa,aD,lm,la,lc,ln];omega)) only[go_sem,simprocAttr,h2,h3,h4,h5,g0,g1,g2,cN,e2,e3]
theorem oT{u:ZD}(h:(bH u).Least (live u)):(live u).length=u.fCode.length∧∀o∈live u,o.length=u.fRegs.toNat :=
 ⟨h.rows.len,fun a ha=>by
  obtain⟨k,hk,rfl⟩:=List.getElem_of_mem ha
  have:=h.rows.row k (by rw[←h.rows.len];exact hk)
  simp only[bT,List.getElem?_eq_getElem hk,Option.getD_some] at this
  exact this⟩
theorem vT{u:ZD}(hr:Right u):∀t∈u.fCode,∀r∈aZ t++a8 t,0≤r∧r<u.fRegs:=fun t ht=>by
 obtain⟨k,hk,rfl⟩:=List.getElem_of_mem ht
 exact hr.rs k _ (List.getElem?_eq_getElem hk)
theorem Nx(u:ZD)(hs:u.sm)(hu:s8 u=true):call tab Dl [u.x]=some (.tup [.d (.s 1 (aG (spU u).1)),.d (.s 1 (aG (spU u).2))]):=by
 have hr:=oQ hu
 obtain⟨I1,hI,hL,h1⟩:=kT u hr hs
 have h0:=nP u hs
 rw[hu] at h0
 have h2:=xU u hs hu
 obtain⟨l1,l2⟩:=oT hL
 have hl:=hr.len
 obtain⟨hr0,hr1⟩:=hr.regs
 have e1:(u.fRegs.toNat:Int)=u.fRegs:=by omega
 have g0:=Qe u u.fRegs.toNat (by omega) u.fRegs.toNat (List.replicate u.fRegs.toNat 0) (List.replicate u.fRegs.toNat 0) 0 (by omega) (by omega) (by simp) (by simp) (by simp) (by simp)
 have g2:=Qp u.fCode (live u) u.fRegs.toNat (by omega) l2 l1 (by omega) (fun t ht=>⟨hs.2.2 t ht,fun r hr0=>by have:=vT hr t ht r hr0;omega⟩) u.fCode (live u) 0 (List.replicate u.fRegs.toNat (-1),List.replicate u.fRegs.toNat (-1)) rfl rfl (by omega) (by simp) (by simp)
 have e2:∀L,fzs (nM L)=nMr L:=fun L=>lE _ _ (fun l=>by simp only[fzl,D.fz,cN]) L
 have e3:(nMr ((live u).map dJ)).length≤900:=by simp;omega
 rw[show jT u.fCode (live u) 0 (List.replicate u.fRegs.toNat (-1),List.replicate u.fRegs.toNat (-1))=spU u from rfl] at g2
 simp only[e1,spH] at g0 g2
 rw[aY Ta _ rfl,Em]
 have e4:List.replicate u.fRegs.toNat [DI 0]=aG (List.replicate u.fRegs.toNat 0):=by simp[aG]
 generalize List.map dJ (live u)=N at *
 simp -implicitDefEqProofs (disch:=first|assumption|omega|(simp only[aE,aM,aF,i64,sa,aD,lm,la,lc,ln];omega)) only[go_sem,simprocAttr,h0,h2,e2,e4,g0,g2]
set_option maxRecDepth 8000
set_option maxHeartbeats 4000000
abbrev z8G(F L:List Int)(b:BL):Heap:=upd (upd (upd emp (0,2) (some (.s 1 (bR b)))) (0,1) (some (.s 1 (aG L)))) (0,0) (some (.s 1 (aG F)))
abbrev z8s(F L:List Int)(b:BL)(cs:List Int):Heap:=upd (upd (upd (upd emp (0,3) (some (.s 1 (aG cs)))) (0,2) (some (.s 1 (bR b)))) (0,1) (some (.s 1 (aG L)))) (0,0) (some (.s 1 (aG F)))
abbrev uV(u:ZD):X:= .vp [Str u.fName,I u.fParams,I u.fRegs,.d (.r (u.fCode.map ZC.r))]
theorem Qf(u:ZD)(M:List BL)(F L:List Int)(i:Int)(m:Nat)(hm:m≤250)(cs:List Int)(hcs:cs.length≤8000000)(hc:∀r∈cs,0≤r∧r<m):∀(Bl:List Int) (j:Int) (b:BL),cs.drop j.toNat=Bl→0≤j→b.length=m →
  loopW tab [1,2,6,7,8,9,10,11] kF {env:=upd (upd (upd (upd (upd (upd (upd (upd emp 11 (some (I j))) 10 (some (.ref (0,3) []))) 9 (some (.ref (0,2) []))) 8 (some (I i))) 7 (some (.ref (0,1) []))) 6 (some (.ref (0,0) []))) 2 (some (uV u))) 1 (some (.d (.r (bMr M)))),heap:=z8s F L b cs,fr:=0,next:=4} =
  some (.ext 2,{env:=upd (upd (upd (upd (upd (upd emp 9 (some (.ref (0,2) []))) 8 (some (I i))) 7 (some (.ref (0,1) []))) 6 (some (.ref (0,0) []))) 2 (some (uV u))) 1 (some (.d (.r (bMr M)))),heap:=z8G F L (bY true b Bl),fr:=0,next:=3})
 |[],j,b,hd,hj,hb=>by
  have hh:=cY hd hj
  unfold loopW
  conv=>lhs;arg 1;unfold kF
  simp -implicitDefEqProofs (disch:=first|assumption|omega) only[go_sem,simprocAttr,hh,bY,List.foldl_nil]
 |r::Bl,j,b,hd,hj,hb=>by
  have hc0:=cA hd hj
  obtain⟨hr1,hr2⟩:=hc r hc0.2.2.2.1
  have h2:=gC (fun n=>[DI n]) hc0.1
  have h4:=hc0.2.1
  have ih:=Qf u M F L i m hm cs hcs hc Bl (j+1) (b.set r.toNat true) hc0.2.2.1 (by omega) (by simp[hb])
  rw[bY,List.foldl_cons,←bY,←ih]
  have f1:(bR b).length=m:=by simp[hb]
  have hlt:r.toNat<b.length:=by omega
  have f2:=j6 (List.getElem?_eq_getElem hlt)
  have f3:=Bd b r.toNat true
  conv=>lhs;unfold loopW;arg 1;unfold kF
  simp -implicitDefEqProofs (disch:=first|assumption|omega) only[go_sem,simprocAttr,h2,h4,f1,f2,f3]
theorem Hb(u:ZD)(M:List BL)(i:Int)(hi:0≤i)(m:Nat)(hm:m≤250)(hu:u.fRegs=m)(b:BL)(hb:b.length=m):∀(Bl:BL) (j:Int) (F L:List Int),b.drop j.toNat=Bl→0≤j→F.length=m→L.length=m →
  loopW tab [1,2,6,7,8,9,12] gL {env:=upd (upd (upd (upd (upd (upd (upd emp 12 (some (I j))) 9 (some (.ref (0,2) []))) 8 (some (I i))) 7 (some (.ref (0,1) []))) 6 (some (.ref (0,0) []))) 2 (some (uV u))) 1 (some (.d (.r (bMr M)))),heap:=z8G F L b,fr:=0,next:=3} =
  some (.ext 4,{env:=upd (upd (upd (upd (upd emp 8 (some (I i))) 7 (some (.ref (0,1) []))) 6 (some (.ref (0,0) []))) 2 (some (uV u))) 1 (some (.d (.r (bMr M)))),heap:=spH (p7 i F (kG Bl j)) (sM i L (kG Bl j)),fr:=0,next:=2})
 |[],j,F,L,hd,hj,hF,hL=>by
  have hh:=cY hd hj
  unfold loopW
  conv=>lhs;arg 1;unfold gL
  simp -implicitDefEqProofs (disch:=first|assumption|omega) only[go_sem,simprocAttr,show u.fRegs≤j by omega,kG,p7,sM,List.foldl_nil]
 |false::Bl,j,F,L,hd,hj,hF,hL=>by
  have hc0:=cA hd hj
  have h2:=j6 hc0.1
  have h4:=hc0.2.1
  have ih:=Hb u M i hi m hm hu b hb Bl (j+1) F L hc0.2.2.1 (by omega) hF hL
  rw[kG,if_neg (by simp),←ih]
  conv=>lhs;unfold loopW;arg 1;unfold gL
  simp -implicitDefEqProofs (disch:=first|assumption|omega) only[go_sem,simprocAttr,h2,show j<u.fRegs by omega]
 |true::Bl,j,F,L,hd,hj,hF,hL=>by
  have hc0:=cA hd hj
  have h2:=j6 hc0.1
  have h4:=hc0.2.1
  have ih:=Hb u M i hi m hm hu b hb Bl (j+1) (if aB F j<0 then F.set j.toNat i else F) (L.set j.toNat i) hc0.2.2.1 (by omega) (by split<;>simp[hF]) (by simp[hL])
  rw[kG,if_pos rfl,p7,sM,List.foldl_cons,List.foldl_cons,←p7,←sM,←ih]
  have f1:(aG F).length=m:=by simp[aG,hF]
  have f2:(aG L).length=m:=by simp[aG,hL]
  have f3:=(bO (zs:=F) hj (by omega)).1
  have f5:=(bO (zs:=L) hj (by omega)).1
  have g2:=dH L j.toNat i
  have g1:=dH F j.toNat i
  have f4:(aG (F.set j.toNat i)).length=m:=by simp[aG,hF]
  generalize aB L j=z3 at *
  conv=>lhs;unfold loopW;arg 1;unfold gL
  by_cases hn:aB F j<0
  ·rw[if_pos hn]
   generalize aB F j=z at *
   simp -implicitDefEqProofs (disch:=first|assumption|omega) only[go_sem,simprocAttr,h2,f1,f2,f3,f4,f5,g1,g2,hn,show j<u.fRegs by omega]
  ·rw[if_neg hn]
   generalize aB F j=z at *
   simp -implicitDefEqProofs (disch:=first|assumption|omega) only[go_sem,simprocAttr,h2,f1,f2,f3,f4,f5,g1,g2,hn,show j<u.fRegs by omega]
theorem Qv(u:ZD)(M:List BL)(m:Nat)(hm:m≤250)(hu:u.fRegs=m)(hM:∀o∈M,o.length=m)(hMl:M.length=u.fCode.length)(hCl:u.fCode.length≤900)(hC:∀t∈u.fCode,t.sm∧∀r∈aZ t++a8 t,0≤r∧r<m):∀(Bl:List ZC) (Ml:List BL) (j:Int) (P:List Int×List Int),u.fCode.drop j.toNat=Bl→M.drop j.toNat=Ml→0≤j→P.1.length=m→P.2.length=m →
  loopW tab [1,2,6,7,8] kJ {env:=upd (upd (upd (upd (upd emp 8 (some (I j))) 7 (some (.ref (0,1) []))) 6 (some (.ref (0,0) []))) 2 (some (uV u))) 1 (some (.d (.r (bMr M)))),heap:=spH P.1 P.2,fr:=0,next:=2} =
  some (.ext 0,{env:=upd (upd emp 7 (some (.ref (0,1) []))) 6 (some (.ref (0,0) [])),heap:=spH (jT Bl Ml j P).1 (jT Bl Ml j P).2,fr:=0,next:=2})
 |[],Ml,j,P,hd,hd2,hj,hF,hL=>by
  have hh:=cY hd hj
  unfold loopW
  conv=>lhs;arg 1;unfold kJ
  simp only[jT]
  simp -implicitDefEqProofs (disch:=first|assumption|omega) only[go_sem,simprocAttr,hh]
 |t::Bl,[],j,P,hd,hd2,hj,hF,hL=>by
  have h1:=(cA hd hj).2.1
  have h2:=cY hd2 hj
  omega
 |t::Bl,o::Ml,j,P,hd,hd2,hj,hF,hL=>by
  have hc:=cA hd hj
  have hc2:=cA hd2 hj
  obtain⟨ht1,ht2⟩:=hC t hc.2.2.2.1
  have ho:=hM o hc2.2.2.2.1
  have hin:∀r∈qI t o,0≤r∧r<m:=fun r hr=>by
   rcases List.mem_append.1 hr with h|h
   ·exact ht2 r h
   ·have:=vP h;omega
  have hsl:(aZ t).length≤2000000:=by have:=nC t;omega
  have hul:(a8 t).length≤2000000:=by have:=oN t;have:=ht1.2;omega
  have ih:=Qv u M m hm hu hM hMl hCl hC Bl Ml (j+1) (p7 j P.1 (qI t o),sM j P.2 (qI t o)) hc.2.2.1 hc2.2.2.1 (by omega) (by rw[zL];exact hF) (by rw[Ep];exact hL)
  have hcl:(aZ t++a8 t).length≤8000000:=by rw[la];omega
  have hbl:(bY true o (aZ t++a8 t)).length=m:=by rw[jY];exact ho
  have g0:=Qf u M P.1 P.2 j m hm (aZ t++a8 t) hcl ht2 (aZ t++a8 t) 0 o rfl (by omega) ho
  have g1:=Hb u M j hj m hm hu (bY true o (aZ t++a8 t)) hbl (bY true o (aZ t++a8 t)) 0 P.1 P.2 rfl (by omega) hF hL
  have hbit:=zx9 t o (fun r hr=>by have:=ht2 r hr;omega)
  have hnn:∀r∈dJ (bY true o (aZ t++a8 t)),0≤r:=fun r hr=>(vP hr).1
  have eF:=Zi (F:=P.1) hj hnn (fun r hr=>(hin r hr).1) hbit
  have eL:=zjg (j:=j) (F:=P.2) hnn (fun r hr=>(hin r hr).1) hbit
  rw[←dJ,eF,eL] at g1
  rw[jT,←ih]
  have h2:=gC ZC.r hc.1
  have h3:=gC (fun a=>[D.r (bR a)]) hc2.1
  have h4:=hc.2.1
  have s1:=qQ t
  have s2:=w7 t ht1.2
  simp only[ZC.r] at h2
  have e5:aG (aZ t++a8 t)=aG (aZ t)++aG (a8 t):=by simp[aG]
  simp only[z8s,e5] at g0
  have e1:(bMr M).length≤900:=by simp;omega
  have e6:(bR o).length≤250:=by simp;omega
  have e7:(aG (aZ t)).length≤2000000:=by simp[aG];exact hsl
  have e8:(aG (a8 t)).length≤2000000:=by simp[aG];exact hul
  have a1:=r8 (a8 t)
  have a2:((bR o).all fun el=>el.length==1)=true:=by simp
  have a3:=zzT o
  have a4:=Be (a8 t)
  have a5:=G3 o
  conv=>lhs;unfold loopW;arg 1;unfold kJ
  simp -implicitDefEqProofs (disch:=first|assumption|omega|(simp only[aE,aM,aF,i64,sa,aD,lm,la,lc,ln];omega)) only[go_sem,simprocAttr,h2,h3,h4,g0,g1,s1,s2,cN,e1,a1,a2,a3,a4,a5]
theorem Hf(u:ZD)(hs:u.sm)(hr:Right u)(hL:(bH u).Least (live u)):call tab u9 [u.x,.d (.r (bMr (live u)))]=some (.tup [.d (.s 1 (aG (spU u).1)),.d (.s 1 (aG (spU u).2))]):=by
 obtain⟨l1,l2⟩:=oT hL
 have hl:=hr.len
 obtain⟨hr0,hr1⟩:=hr.regs
 have e1:(u.fRegs.toNat:Int)=u.fRegs:=by omega
 have g0:=zqA u.fRegs hr0 hr1
 have g2:=Qv u (live u) u.fRegs.toNat (by omega) (by omega) l2 l1 (by omega) (fun t ht=>⟨hs.2.2 t ht,fun r hr0=>by have:=vT hr t ht r hr0;omega⟩) u.fCode (live u) 0 (List.replicate u.fRegs.toNat (-1),List.replicate u.fRegs.toNat (-1)) rfl rfl (by omega) (by simp) (by simp)
 rw[show jT u.fCode (live u) 0 (List.replicate u.fRegs.toNat (-1),List.replicate u.fRegs.toNat (-1))=spU u from rfl] at g2
 simp only[spH] at g2
 rw[aY Ip _ rfl,yF]
 simp -implicitDefEqProofs (disch:=first|assumption|omega|(simp only[aE,aM,aF,i64,sa,aD,lm,la,lc,ln];omega)) only[go_sem,simprocAttr,g0,g2]
set_option maxRecDepth 8000
set_option maxHeartbeats 4000000
def wQ(t:ZC)(o:BL):List Int:=if t.fOp=11∨t.fOp=27 then(dJ o).filter fun r=> !decide (r∈aZ t) else []
def j4:List ZC→List BL→List Int
 |t::ts,o::os=>wQ t o++j4 ts os
 |_,_=>[]
noncomputable def crU (u:ZD):List Int:=j4 u.fCode (live u)
theorem Kq(t:ZC)(o:BL):(wQ t o).length≤o.length:=by
 rw[wQ]
 split
 ·exact Nat.le_trans (List.length_filter_le _ _) (G7 o)
 ·simp
theorem Lk(m:Nat):∀(ts:List ZC) (os:List BL),(∀o∈os,o.length=m)→(j4 ts os).length≤ts.length*m
 |[],_,_=>by simp[j4]
 |_::_,[],_=>by simp[j4]
 |t::ts,o::os,h=>by
  rw[j4,la,lc,Nat.add_one_mul]
  have:=Lk m ts os (fun o ho=>h o (by simp[ho]))
  have:=Kq t o
  have:=h o (by simp)
  omega
theorem zwI(zs:List Int)(x:Int):x∈eS 1 zs↔x∈zs:=by
 simp[eS]
theorem Gv(u:ZD)(t:ZC)(N:List (List Int))(w jj:Int)(cs:List Int)(hcs:cs.length≤250):∀(Bl:List Int) (j:Int) (A:List Int),cs.drop j.toNat=Bl→0≤j→A.length≤1000000+j →
  loopW tab [1,3,6,14,15,16,34,35,36] iD {env:=upd (upd (upd (upd (upd (upd (upd (upd (upd emp 36 (some (I j))) 35 (some (I (cs.length:Int)))) 34 (some (.d (.r (aG cs))))) 16 (some (I jj))) 15 (some (I w))) 14 (some (.d (.r (nMr N))))) 6 (some (.ptr (0,1) [] 0 0))) 3 (some (.ref (0,0) []))) 1 (some (uV u)),heap:=upd (upd emp (0,1) (some (.s 7 [t.r]))) (0,0) (some (.s 1 (aG A))),fr:=0,next:=2} =
  some (.ext 2,{env:=upd (upd (upd (upd (upd emp 16 (some (I jj))) 15 (some (I w))) 14 (some (.d (.r (nMr N))))) 3 (some (.ref (0,0) []))) 1 (some (uV u)),heap:=upd emp (0,0) (some (.s 1 (aG (A++Bl.filter fun r=> !decide (r∈aZ t))))),fr:=0,next:=1})
 |[],j,A,hd,hj,hA=>by
  have hh:=cY hd hj
  unfold loopW
  conv=>lhs;arg 1;unfold iD
  simp -implicitDefEqProofs (disch:=first|assumption|omega) only[go_sem,simprocAttr,hh,List.filter_nil,List.append_nil]
 |r::Bl,j,A,hd,hj,hA=>by
  have hc:=cA hd hj
  have h2:=gC (fun n=>[DI n]) hc.1
  have h4:=hc.2.1
  have g1:=qT t
  have g2:=Hp (aZ t) r (by have:=nC t;omega)
  simp only[ZC.r]
  by_cases hm:r∈aZ t
  ·have ih:=Gv u t N w jj cs hcs Bl (j+1) A hc.2.2.1 (by omega) (by omega)
   rw[List.filter_cons,if_neg (by simp[hm]),←ih]
   rw[decide_eq_true hm] at g2
   simp only[ZC.r]
   conv=>lhs;unfold loopW;arg 1;unfold iD
   simp -implicitDefEqProofs (disch:=first|assumption|omega|(simp only[aE,aM,aF,i64,sa,aD,lm,la,lc,ln];omega)) only[go_sem,simprocAttr,h2,h4,g1,g2,cN]
  ·have ih:=Gv u t N w jj cs hcs Bl (j+1) (A++[r]) hc.2.2.1 (by omega) (by simp;omega)
   rw[List.filter_cons,if_pos (by simp[hm]),show A++r::Bl.filter (fun r=> !decide (r∈aZ t))=(A++[r])++Bl.filter (fun r=> !decide (r∈aZ t)) by simp,←ih]
   rw[decide_eq_false hm] at g2
   simp only[ZC.r]
   have e1:aG (A++[r])=aG A++[[DI r]]:=by simp[aG]
   have e2:(aG A).length≤1000000+j:=by simp[aG];omega
   rw[e1]
   generalize aG A=W at *
   conv=>lhs;unfold loopW;arg 1;unfold iD
   simp -implicitDefEqProofs (disch:=first|assumption|omega|(simp only[aE,aM,aF,i64,sa,aD,lm,la,lc,ln];omega)) only[go_sem,simprocAttr,h2,h4,g1,g2,cN]
theorem P6(u:ZD)(M:List BL)(m:Nat)(hm:m≤250)(hM:∀o∈M,o.length=m)(hMl:M.length=u.fCode.length)(hCl:u.fCode.length≤900)(hC:∀t∈u.fCode,t.sm):∀(Bl:List ZC) (Ml:List BL) (j:Int) (A:List Int),u.fCode.drop j.toNat=Bl→M.drop j.toNat=Ml→0≤j→A.length≤j*250 →
  loopW tab [1,3,14,15,16] lN {env:=upd (upd (upd (upd (upd emp 16 (some (I j))) 15 (some (I (u.fCode.length:Int)))) 14 (some (.d (.r (nMr (M.map dJ)))))) 3 (some (.ref (0,0) []))) 1 (some (uV u)),heap:=upd emp (0,0) (some (.s 1 (aG A))),fr:=0,next:=1} =
  some (.ext 0,{env:=upd emp 3 (some (.ref (0,0) [])),heap:=upd emp (0,0) (some (.s 1 (aG (A++j4 Bl Ml)))),fr:=0,next:=1})
 |[],Ml,j,A,hd,hd2,hj,hA=>by
  have hh:=cY hd hj
  unfold loopW
  conv=>lhs;arg 1;unfold lN
  simp only[j4]
  simp -implicitDefEqProofs (disch:=first|assumption|omega) only[go_sem,simprocAttr,hh,List.append_nil]
 |t::Bl,[],j,A,hd,hd2,hj,hA=>by
  have h1:=(cA hd hj).2.1
  have h2:=cY hd2 hj
  omega
 |t::Bl,o::Ml,j,A,hd,hd2,hj,hA=>by
  have hc:=cA hd hj
  have hc2:=cA hd2 hj
  have ho:=hM o hc2.2.2.2.1
  have hcl:=Kq t o
  have hnl:=G7 o
  have ih:=P6 u M m hm hM hMl hCl hC Bl Ml (j+1) (A++wQ t o) hc.2.2.1 hc2.2.2.1 (by omega) (by rw[la];omega)
  have h4:=hc.2.1
  have g0:=Gv u t (M.map dJ) u.fCode.length j (dJ o) (by omega) (dJ o) 0 A rfl (by omega) (by omega)
  rw[j4,←List.append_assoc,←ih]
  have h2:=gC ZC.r hc.1
  have h3:=gC (fun l=>[D.r (aG l)]) (gC dJ hc2.1)
  simp only[ZC.r] at h2 g0
  have e1:(nMr (M.map dJ)).length≤900:=by simp;omega
  rw[wQ]
  have e2:j<((M.map dJ).length:Int):=by simp;omega
  generalize M.map dJ=N at *
  conv=>lhs;unfold loopW;arg 1;unfold lN
  by_cases h11:t.fOp=11
  ·rw[if_pos (.inl h11)]
   rw[h11] at g0
   generalize dJ o=nl at *
   simp -implicitDefEqProofs (disch:=first|assumption|omega|(simp only[aE,aM,aF,i64,sa,aD,lm,la,lc,ln];omega)) only[go_sem,simprocAttr,h2,h3,h4,e2,g0,h11,show ¬(27:Int)=11 by omega]
  ·by_cases h27:t.fOp=27
   ·rw[if_pos (.inr h27)]
    rw[h27] at g0
    generalize dJ o=nl at *
    simp -implicitDefEqProofs (disch:=first|assumption|omega|(simp only[aE,aM,aF,i64,sa,aD,lm,la,lc,ln];omega)) only[go_sem,simprocAttr,h2,h3,h4,e2,g0,h11,h27,show ¬(27:Int)=11 by omega]
   ·rw[if_neg (by simp[h11,h27]),List.append_nil]
    generalize dJ o=nl at *
    simp -implicitDefEqProofs (disch:=first|assumption|omega|(simp only[aE,aM,aF,i64,sa,aD,lm,la,lc,ln];omega)) only[go_sem,simprocAttr,h2,h3,h4,e2,h11,h27]
set_option maxRecDepth 8000
set_option maxHeartbeats 4000000
theorem zxx(zs:List Int)(x:Int):x∈Ao zs↔x∈zs:=by
 unfold Ao
 simp only[List.mem_map,List.mem_filter,List.mem_range]
 constructor
 ·rintro ⟨j,⟨h1,h2⟩,rfl⟩
  rw[getElem!_pos zs j h1]
  exact List.getElem_mem h1
 ·intro h
  obtain⟨j,hj,rfl⟩:=List.getElem_of_mem h
  have key:∀(j:Nat) (hj:j<zs.length),∃a,(a<zs.length∧Ea zs a=true)∧zs[a]! = zs[j]:=by
   intro j
   induction j with
   |zero=>intro hj;exact⟨0,⟨hj,by simp[Ea]⟩,getElem!_pos zs 0 hj⟩
   |succ j ih =>
    intro hj
    by_cases e:zs[j+1]! = zs[j]!
    ·obtain⟨a,h1,h2⟩:=ih (by omega)
     exact⟨a,h1,by rw[h2,←getElem!_pos zs j (by omega),←e,getElem!_pos zs (j+1) hj]⟩
    ·exact⟨j+1,⟨hj,by unfold Ea;exact decide_eq_true (.inr e)⟩,getElem!_pos zs (j+1) hj⟩
  exact key j hj
theorem zxk(zs:List Int):(Ao zs).length≤zs.length:=by
 unfold Ao
 rw[lm]
 exact Nat.le_trans (List.length_filter_le _ _) (by simp)
noncomputable def crS (u:ZD):List Int:=eS 2 (eS 1 (crU u))
theorem zKU(u:ZD)(x:Int):x∈crS u↔x∈crU u:=by
 rw[crS,show eS 2 (eS 1 (crU u))=Ao (eS 1 (crU u)) from rfl,zxx,zwI]
theorem zWi(u:ZD):(crS u).length≤(crU u).length:=by
 rw[crS,show eS 2 (eS 1 (crU u))=Ao (eS 1 (crU u)) from rfl]
 refine Nat.le_trans (zxk _) ?_
 simp[eS]
theorem zjW{u:ZD}(hr:Right u)(hL:(bH u).Least (live u)):(crU u).length≤225000:=by
 obtain⟨l1,l2⟩:=oT hL
 have:=Lk u.fRegs.toNat u.fCode (live u) l2
 have h1:=hr.regs
 have h2:=hr.len
 rw[crU]
 refine Nat.le_trans this (Nat.le_trans (Nat.mul_le_mul (show u.fCode.length≤900 by omega) (show u.fRegs.toNat≤250 by omega)) (by omega))
theorem Ig(u:ZD)(hs:u.sm)(hu:s8 u=true):call tab xS [u.x]=some (.d (.s 1 (aG (crS u)))):=by
 have hr:=oQ hu
 obtain⟨I1,hI,hL,h1⟩:=kT u hr hs
 have h0:=nP u hs
 rw[hu] at h0
 have h2:=xU u hs hu
 obtain⟨l1,l2⟩:=oT hL
 have hl:=hr.len
 obtain⟨hr0,hr1⟩:=hr.regs
 have g2:=P6 u (live u) u.fRegs.toNat (by omega) l2 l1 (by omega) hs.2.2 u.fCode (live u) 0 [] rfl rfl (by omega) (by simp)
 rw[List.nil_append,show j4 u.fCode (live u)=crU u from rfl] at g2
 have e2:∀L,fzs (nM L)=nMr L:=fun L=>lE _ _ (fun l=>by simp only[fzl,D.fz,cN]) L
 have e3:(((live u).map dJ).length:Int)=u.fCode.length:=by simp;omega
 have e5:(nMr ((live u).map dJ)).length=u.fCode.length:=by simp;omega
 have hcl:=zjW hr hL
 have s0:=q8 (crU u) (by omega)
 have p0:=jI (eS 1 (crU u)) (by simp[eS];omega)
 rw[show eS 2 (eS 1 (crU u))=crS u from rfl] at p0
 rw[show aG []=[] from rfl] at g2
 generalize List.map dJ (live u)=N at *
 generalize crU u=zs at *
 generalize eS 1 zs=z1 at *
 generalize crS u=z2 at *
 rw[aY K4 _ rfl,yT]
 simp -implicitDefEqProofs (disch:=first|assumption|omega|(simp only[aE,aM,aF,i64,sa,aD,lm,la,lc,ln];omega)) only[go_sem,simprocAttr,h0,h2,e2,e3,e5,g2,s0,p0]
theorem zjr(t:ZC)(h:t.fOp=11∨t.fOp=27):∃b:Bool,aZ t=if b=true then [t.fD] else []:=by
 refine⟨hb t 1,?_⟩
 rw[aZ,if_neg (show ¬t.fOp=19 by omega),List.append_nil]
theorem Bz(u:ZD)(t:ZC)(M:List BL)(i:Int)(h0:0≤i)(o:BL)(ho:M[i.toNat]? = some o)(m:Nat)(hm:m≤250)(hol:o.length=m)(hu:u.fRegs=m)(sl:List Int)(hsl:sl=[]∨∃d,sl=[d]):∀(Bl:BL) (j:Int) (C:BL),o.drop j.toNat=Bl→0≤j→C.length=m →
  loopW tab [1,2,5,6,8,9] eW {env:=upd (upd (upd (upd (upd (upd emp 9 (some (I j))) 8 (some (.d (.r (aG sl))))) 6 (some (I i))) 5 (some (.ref (0,0) []))) 2 (some (uV u))) 1 (some (.d (.r (bMr M)))),heap:=upd emp (0,0) (some (.s 1 (bR C))),fr:=0,next:=1} =
  some (.ext 2,{env:=upd (upd (upd (upd emp 6 (some (I i))) 5 (some (.ref (0,0) []))) 2 (some (uV u))) 1 (some (.d (.r (bMr M)))),heap:=upd emp (0,0) (some (.s 1 (bR (bY true C ((kG Bl j).filter fun r=> !decide (r∈sl)))))),fr:=0,next:=1})
 |[],j,C,hd,hj,hC=>by
  have hh:=cY hd hj
  unfold loopW
  conv=>lhs;arg 1;unfold eW
  simp -implicitDefEqProofs (disch:=first|assumption|omega) only[go_sem,simprocAttr,show u.fRegs≤j by omega,kG,bY,List.foldl_nil,List.filter_nil]
 |false::Bl,j,C,hd,hj,hC=>by
  have hc:=cA hd hj
  have h2:=j6 hc.1
  have h4:=hc.2.1
  have h3:=gC (fun a=>[D.r (bR a)]) ho
  have hil:i<M.length:=by have:=(List.getElem?_eq_some_iff.1 ho).1;omega
  have ih:=Bz u t M i h0 o ho m hm hol hu sl hsl Bl (j+1) C hc.2.2.1 (by omega) hC
  rw[kG,if_neg (by simp),←ih]
  conv=>lhs;unfold loopW;arg 1;unfold eW
  simp -implicitDefEqProofs (disch:=first|assumption|omega) only[go_sem,simprocAttr,h2,h3,h4,hil,show j<u.fRegs by omega]
 |true::Bl,j,C,hd,hj,hC=>by
  have hc:=cA hd hj
  have h2:=j6 hc.1
  have h4:=hc.2.1
  have h3:=gC (fun a=>[D.r (bR a)]) ho
  have hil:i<M.length:=by have:=(List.getElem?_eq_some_iff.1 ho).1;omega
  have hlt:j.toNat<C.length:=by omega
  have f2:=j6 (List.getElem?_eq_getElem hlt)
  have f3:=Bd C j.toNat true
  rw[kG,if_pos rfl,List.filter_cons]
  have ih1:=Bz u t M i h0 o ho m hm hol hu sl hsl Bl (j+1) C hc.2.2.1 (by omega) hC
  have ih2:=Bz u t M i h0 o ho m hm hol hu sl hsl Bl (j+1) (C.set j.toNat true) hc.2.2.1 (by omega) (by simp[hC])
  conv=>lhs;unfold loopW;arg 1;unfold eW
  have f1:(bR C).length=m:=by simp[hC]
  rcases hsl with rfl|⟨d,rfl⟩
  ·rw[if_pos (by simp),bY,List.foldl_cons,←bY,←ih2]
   simp -implicitDefEqProofs (disch:=first|assumption|omega) only[go_sem,simprocAttr,h2,h3,h4,f1,f2,f3,hil,show j<u.fRegs by omega,aG,mn]
  ·by_cases e:j=d
   ·subst e
    rw[if_neg (by simp),←ih1]
    simp -implicitDefEqProofs (disch:=first|assumption|omega) only[go_sem,simprocAttr,h2,h3,h4,hil,show j<u.fRegs by omega,aG,mn,mc]
   ·rw[if_pos (by simp[e]),bY,List.foldl_cons,←bY,←ih2]
    simp -implicitDefEqProofs (disch:=first|assumption|omega) only[go_sem,simprocAttr,h2,h3,h4,f1,f2,f3,hil,show j<u.fRegs by omega,aG,mn,mc,e,show ¬d=j from fun h=>e h.symm]
theorem zq7(v:Bool)(a:BL)(k l':List Int):bY v a (k++l')=bY v (bY v a k) l':=by simp[bY,List.foldl_append]
theorem Pq(u:ZD)(M:List BL)(m:Nat)(hm:m≤250)(hu:u.fRegs=m)(hM:∀o∈M,o.length=m)(hMl:M.length=u.fCode.length)(hCl:u.fCode.length≤900):∀(Bl:List ZC) (Ml:List BL) (j:Int) (C:BL),u.fCode.drop j.toNat=Bl→M.drop j.toNat=Ml→0≤j→C.length=m →
  loopW tab [1,2,5,6] eV {env:=upd (upd (upd (upd emp 6 (some (I j))) 5 (some (.ref (0,0) []))) 2 (some (uV u))) 1 (some (.d (.r (bMr M)))),heap:=upd emp (0,0) (some (.s 1 (bR C))),fr:=0,next:=1} =
  some (.ext 0,{env:=upd emp 5 (some (.ref (0,0) [])),heap:=upd emp (0,0) (some (.s 1 (bR (bY true C (j4 Bl Ml))))),fr:=0,next:=1})
 |[],Ml,j,C,hd,hd2,hj,hC=>by
  have hh:=cY hd hj
  unfold loopW
  conv=>lhs;arg 1;unfold eV
  simp only[j4]
  simp -implicitDefEqProofs (disch:=first|assumption|omega) only[go_sem,simprocAttr,hh,bY,List.foldl_nil]
 |t::Bl,[],j,C,hd,hd2,hj,hC=>by
  have h1:=(cA hd hj).2.1
  have h2:=cY hd2 hj
  omega
 |t::Bl,o::Ml,j,C,hd,hd2,hj,hC=>by
  have hc:=cA hd hj
  have hc2:=cA hd2 hj
  have ho:=hM o hc2.2.2.2.1
  have ih:=Pq u M m hm hu hM hMl hCl Bl Ml (j+1) (bY true C (wQ t o)) hc.2.2.1 hc2.2.2.1 (by omega) (by rw[jY];exact hC)
  have h4:=hc.2.1
  have h2:=gC ZC.r hc.1
  have g1:=qQ t
  simp only[ZC.r] at h2
  rw[j4,zq7,←ih]
  rw[wQ]
  by_cases h11:t.fOp=11∨t.fOp=27
  ·obtain⟨b0,hb0⟩:=zjr t h11
   have hsl:aZ t=[]∨∃d,aZ t=[d]:=by
    rw[hb0];cases b0
    ·exact .inl rfl
    ·exact .inr ⟨_,rfl⟩
   have g0:=Bz u t M j hj o hc2.1 m hm ho hu (aZ t) hsl o 0 C rfl (by omega) hC
   rw[if_pos h11,dJ]
   clear hb0
   generalize aZ t=sl at *
   conv=>lhs;unfold loopW;arg 1;unfold eV
   rcases h11 with h11|h27
   ·rw[h11] at h2
    have g1':=g1
    simp only[ZC.x,h11] at g1'
    simp -implicitDefEqProofs (disch:=first|assumption|omega|(simp only[aE,aM,aF,i64,sa,aD,lm,la,lc,ln];omega)) only[go_sem,simprocAttr,h2,h4,g0,g1',h11,cN,show ¬(27:Int)=11 by omega]
   ·rw[h27] at h2
    have g1':=g1
    simp only[ZC.x,h27] at g1'
    simp -implicitDefEqProofs (disch:=first|assumption|omega|(simp only[aE,aM,aF,i64,sa,aD,lm,la,lc,ln];omega)) only[go_sem,simprocAttr,h2,h4,g0,g1',h27,cN,show ¬(27:Int)=11 by omega]
  ·rw[if_neg h11]
   conv=>lhs;unfold loopW;arg 1;unfold eV
   have a1:¬t.fOp=11:=fun h=>h11 (.inl h)
   have a2:¬t.fOp=27:=fun h=>h11 (.inr h)
   simp -implicitDefEqProofs (disch:=first|assumption|omega|(simp only[aE,aM,aF,i64,sa,aD,lm,la,lc,ln];omega)) only[go_sem,simprocAttr,h2,h4,a1,a2,bY,List.foldl_nil]
theorem Dq(u:ZD)(hr:Right u)(hL:(bH u).Least (live u)):call tab pX [u.x,.d (.r (bMr (live u)))]=some (.d (.s 1 (bR (bY true (zB u) (crU u))))):=by
 obtain⟨l1,l2⟩:=oT hL
 have hl:=hr.len
 obtain⟨hr0,hr1⟩:=hr.regs
 have g2:=Pq u (live u) u.fRegs.toNat (by omega) (by omega) l2 l1 (by omega) u.fCode (live u) 0 (zB u) rfl rfl (by omega) (by simp)
 rw[show j4 u.fCode (live u)=crU u from rfl] at g2
 have e1:=zJs u
 have e2:(bMr (live u)).length≤900:=by simp;omega
 rw[aY Ee _ rfl,tD]
 simp -implicitDefEqProofs (disch:=first|assumption|omega|(simp only[aE,aM,aF,i64,sa,aD,lm,la,lc,ln];omega)) only[go_sem,simprocAttr,g2,e1]
set_option maxRecDepth 8000
def iZ(pr:Int)(j:Int):Nat→List Int
 |0=>[]
 |k+1=>(if j<pr then 10+j else -1)::iZ pr (j+1) k
theorem Fd(pr:Int):∀(k:Nat) (j:Int),(iZ pr j k).length=k
 |0,j=>rfl
 |k+1,j=>by rw[iZ,lc,Fd pr k]
theorem P7{pr:Int}:∀(k:Nat) (j:Int),pr≤j→iZ pr j k=List.replicate k (-1)
 |0,j,h=>rfl
 |k+1,j,h=>by rw[iZ,if_neg (by omega),P7 k (j+1) (by omega),List.replicate_succ]
theorem Fa(pr:Int):∀(k:Nat) (j:Int) (p:Nat),p<k→(iZ pr j k)[p]? = some (if j+p<pr then 10+(j+p) else -1)
 |0,j,p,h=>by omega
 |k+1,j,0,h=>by simp[iZ]
 |k+1,j,p+1,h=>by
  rw[iZ,List.getElem?_cons_succ,Fa pr k (j+1) p (by omega)]
  rw[show j+1+(p:Int)=j+((p+1:Nat):Int) by omega]
def Ay(F:List Int)(pr:Int)(j:Int):Nat→List Int
 |0=>[]
 |k+1=>if j<pr then Ay F pr (j+1) k else if 0≤aB F j then j::Ay F pr (j+1) k else Ay F pr (j+1) k
theorem zP(F:List Int)(pr:Int):∀(k:Nat) (j r:Int),r∈Ay F pr j k↔j≤r∧r<j+k∧pr≤r∧0≤aB F r
 |0,j,r=>by simp[Ay];omega
 |k+1,j,r=>by
  have ih:=zP F pr k (j+1) r
  rw[Ay]
  by_cases h1:j<pr
  ·rw[if_pos h1,ih];omega
  ·rw[if_neg h1]
   by_cases h2:0≤aB F j
   ·rw[if_pos h2,List.mem_cons,ih]
    constructor
    ·rintro(rfl|h)
     ·exact⟨by omega,by omega,by omega,h2⟩
     ·exact⟨by omega,by omega,by omega,h.2.2.2⟩
    ·intro h
     by_cases e:r=j
     ·exact .inl e
     ·exact .inr ⟨by omega,by omega,by omega,h.2.2.2⟩
   ·rw[if_neg h2,ih]
    constructor
    ·intro h;exact⟨by omega,by omega,by omega,h.2.2.2⟩
    ·intro h
     have:r≠j:=fun e=>h2 (e ▸ h.2.2.2)
     exact⟨by omega,by omega,by omega,h.2.2.2⟩
theorem A9(F:List Int)(pr:Int):∀(k:Nat) (j:Int),(Ay F pr j k).Pairwise (· < ·)
 |0,j=>List.Pairwise.nil
 |k+1,j=>by
  rw[Ay]
  split
  ·exact A9 F pr k (j+1)
  ·split
   ·exact List.Pairwise.cons (fun r hr=>by have:=(zP F pr k (j+1) r).1 hr;omega) (A9 F pr k (j+1))
   ·exact A9 F pr k (j+1)
theorem Lc(F:List Int)(pr:Int):∀(k:Nat) (j:Int),(Ay F pr j k).length≤k
 |0,j=>by simp[Ay]
 |k+1,j=>by
  have:=Lc F pr k (j+1)
  rw[Ay]
  split
  ·omega
  ·split
   ·simp;omega
   ·omega
def qV(F:List Int)(q:Int)(j:Int):Nat→List Int
 |0=>[]
 |k+1=>if aB F j=q then j::qV F q (j+1) k else qV F q (j+1) k
theorem zV(F:List Int)(q:Int):∀(k:Nat) (j r:Int),r∈qV F q j k↔j≤r∧r<j+k∧aB F r=q
 |0,j,r=>by simp[qV];omega
 |k+1,j,r=>by
  have ih:=zV F q k (j+1) r
  rw[qV]
  by_cases h2:aB F j=q
  ·rw[if_pos h2,List.mem_cons,ih]
   constructor
   ·rintro(rfl|h)
    ·exact⟨by omega,by omega,h2⟩
    ·exact⟨by omega,by omega,h.2.2⟩
   ·intro h
    by_cases e:r=j
    ·exact .inl e
    ·exact .inr ⟨by omega,by omega,h.2.2⟩
  ·rw[if_neg h2,ih]
   constructor
   ·intro h;exact⟨by omega,by omega,h.2.2⟩
   ·intro h
    have:r≠j:=fun e=>h2 (e ▸ h.2.2)
    exact⟨by omega,by omega,h.2.2⟩
theorem Li(F:List Int)(q:Int):∀(k:Nat) (j:Int),(qV F q j k).Pairwise (· < ·)
 |0,j=>List.Pairwise.nil
 |k+1,j=>by
  rw[qV]
  split
  ·exact List.Pairwise.cons (fun r hr=>by have:=(zV F q k (j+1) r).1 hr;omega) (Li F q k (j+1))
  ·exact Li F q k (j+1)
def F2(F:List Int)(pr:Int)(w:Nat)(q:Int):Nat→List Int
 |0=>[]
 |k+1=>qV F q pr w++F2 F pr w (q+1) k
theorem Fm(F:List Int)(pr:Int)(w:Nat):∀(k:Nat) (q r:Int),r∈F2 F pr w q k↔pr≤r∧r<pr+w∧q≤aB F r∧aB F r<q+k
 |0,q,r=>by simp only[F2,List.not_mem_nil,false_iff];omega
 |k+1,q,r=>by
  have ih:=Fm F pr w k (q+1) r
  rw[F2,List.mem_append,zV,ih]
  omega
theorem R9(F:List Int)(pr:Int)(w:Nat):∀(k:Nat) (q:Int),(F2 F pr w q k).Pairwise (ltK (aB F))
 |0,q=>List.Pairwise.nil
 |k+1,q=>by
  rw[F2]
  refine List.pairwise_append.2 ⟨?_,R9 F pr w k (q+1),fun x hx y hy=> ?_⟩
  ·refine(Li F q w pr).imp_of_mem (fun hx hy h=> ?_)
   rw[zV] at hx hy
   exact .inr ⟨by omega,h⟩
  ·rw[zV] at hx
   rw[Fm] at hy
   exact .inl (by omega)
theorem zvh{F:Int→Int}{A:List Int}(h:A.Pairwise (ltK F)):A.Nodup:=h.imp (fun h e=>by subst e;rcases h with h|h<;>omega)
theorem zW6{F:List Int}{pr:Int}{m len:Nat}(h0:0≤pr)(hp:pr≤m)(hF:inJ len F)(hm:F.length=m):Mg (aB F) (Ay F pr 0 m) (F2 F pr (m-pr.toNat) 0 len):=by
 refine⟨?_,R9 F pr _ len 0⟩
 rw[List.perm_ext_iff_of_nodup (zvh (R9 F pr _ len 0)) ((A9 F pr m 0).imp (fun h=>by omega))]
 intro r
 rw[Fm,zP]
 constructor
 ·intro h;omega
 ·intro h
  have:aB F r∈F:=(bO (zs:=F) (k:=r) (by omega) (by omega)).2
  have:=hF _ this
  omega
def eK(F L H P:List Int)(r h:Int):Bool:=P.any fun k=>decide (aB H k=h)&&(decide (aB F k≤aB L r)&&decide (aB F r≤aB L k))
def tY(j:Int):Nat→List Int
 |0=>[]
 |k+1=>j::tY (j+1) k
theorem Km:∀(k:Nat) (j r:Int),r∈tY j k↔j≤r∧r<j+k
 |0,j,r=>by simp only[tY,List.not_mem_nil,false_iff];omega
 |k+1,j,r=>by rw[tY,List.mem_cons,Km k];omega
def qJ(F L H P:List Int)(r:Int):Int:=if eK F L H P r 0=false then 0 else if eK F L H P r 1=false then 1 else if eK F L H P r 2=false then 2 else -1
theorem Ks{F L H P:List Int}{m:Nat}(hP:∀k∈P,0≤k∧k<m)(hH:∀k:Int,0≤k→k<m→0≤aB H k→aB H k<3→k∈P){r h:Int}(h0:0≤h)(h3:h<3):eK F L H P r h=eK F L H (tY 0 m) r h:=by
 rw[Bool.eq_iff_iff]
 simp only[eK,List.any_eq_true,bE,decide_eq_true_eq]
 constructor
 ·rintro ⟨k,hk,e⟩
  have:=hP k hk
  exact⟨k,by rw[Km];omega,e⟩
 ·rintro ⟨k,hk,e⟩
  rw[Km] at hk
  exact⟨k,hH k (by omega) (by omega) (by omega) (by omega),e⟩
theorem zKn{F L H P:List Int}{m:Nat}(hP:∀k∈P,0≤k∧k<m)(hH:∀k:Int,0≤k→k<m→0≤aB H k→aB H k<3→k∈P)(r:Int):qJ F L H P r=qJ F L H (tY 0 m) r:=by
 rw[qJ,qJ,Ks hP hH (by omega) (by omega),Ks hP hH (by omega) (by omega),Ks hP hH (by omega) (by omega)]
theorem E9(F L H P:List Int)(r:Int): -1≤qJ F L H P r∧qJ F L H P r<3:=by
 unfold qJ
 split
 ·omega
 ·split
  ·omega
  ·split<;>omega
def asg(F L C:List Int)(S:List Int×Int)(r:Int):List Int×Int :=
 if qJ F L S.1 (tY 0 S.1.length) r<0∨r∈C then(S.1.set r.toNat (10+S.2),S.2+1) else(S.1.set r.toNat (qJ F L S.1 (tY 0 S.1.length) r),S.2)
theorem zqC(F L C:List Int)(S:List Int×Int)(r:Int):(asg F L C S r).1.length=S.1.length:=by
 unfold asg;split<;>simp
theorem Xi(F L C:List Int):∀(ls:List Int) (S:List Int×Int),(ls.foldl (asg F L C) S).1.length=S.1.length
 |[],S=>rfl
 |r::ls,S=>by rw[List.foldl_cons,Xi F L C ls,zqC]
theorem T5(F L C:List Int)(S:List Int×Int)(r:Int):S.2≤(asg F L C S r).2∧(asg F L C S r).2≤S.2+1:=by
 unfold asg;split
 ·exact⟨by show S.2≤S.2+1;omega,Int.le_refl _⟩
 ·exact⟨Int.le_refl _,by show S.2≤S.2+1;omega⟩
structure Hom (m:Nat) (P:List Int) (S:List Int×Int):Prop where
 len:S.1.length=m
 pos:∀k∈P,0≤k∧k<m∧0≤aB S.1 k
 low:∀k:Int,0≤k→k<m→0≤aB S.1 k→aB S.1 k<3→k∈P
 slot:0≤S.2∧S.2≤4+P.length
theorem rS{H:List Int}{r k x:Int}(h0:0≤r)(h1:r<H.length)(hk:0≤k):aB (H.set r.toNat x) k=if k=r then x else aB H k:=by
 unfold aB
 rw[List.getElem?_set]
 by_cases e:k=r
 ·subst e
  have:k.toNat<H.length:=by omega
  simp[this]
 ·simp only[show ¬r.toNat=k.toNat by omega,if_false,e]
theorem Hom.step{m:Nat}{P:List Int}{S:List Int×Int}(h:Hom m P S)(F L C:List Int){r:Int}(h0:0≤r)(h1:r<m):Hom m (P++[r]) (asg F L C S r):=by
 have hb:=E9 F L S.1 (tY 0 S.1.length) r
 have hs:=h.slot
 have key:∀x:Int,0≤x→∀s,0≤s→s≤S.2+1→Hom m (P++[r]) (S.1.set r.toNat x,s):=fun x hx s hs1 hs2=>by
  refine⟨by simp[h.len],fun k hk=> ?_,fun k a b c d=> ?_,hs1,by rw[la,List.length_singleton];show s≤_;omega⟩
  ·show 0≤k∧k<m∧0≤aB (S.1.set r.toNat x) k
   rcases List.mem_append.1 hk with hk|hk
   ·have:=h.pos k hk
    rw[rS h0 (by rw[h.len];exact h1) this.1]
    refine⟨this.1,this.2.1,?_⟩
    split<;>omega
   ·rw[List.mem_singleton] at hk
    subst hk
    rw[rS h0 (by rw[h.len];exact h1) h0,if_pos rfl]
    exact⟨h0,h1,hx⟩
  ·change 0≤aB (S.1.set r.toNat x) k at c
   change aB (S.1.set r.toNat x) k<3 at d
   rw[rS h0 (by rw[h.len];exact h1) a] at c d
   by_cases e:k=r
   ·simp[e]
   ·rw[if_neg e] at c d
    exact List.mem_append_left _ (h.low k a b c d)
 unfold asg
 split
 ·exact key (10+S.2) (by omega) (S.2+1) (by omega) (by omega)
 ·rename_i hn
  exact key _ (by omega) S.2 (by omega) (by omega)
theorem Hom.start{m:Nat}{pr:Int}(h0:0≤pr)(h4:pr≤4)(hm:pr≤m):Hom m [] (iZ pr 0 m,pr):=by
 refine⟨Fd pr m 0,fun k hk=>by simp at hk,fun k a b c d=> ?_,h0,by simp;exact h4⟩
 change 0≤aB (iZ pr 0 m) k at c
 change aB (iZ pr 0 m) k<3 at d
 exfalso
 have hg:=Fa pr m 0 k.toNat (by omega)
 unfold aB at c d
 rw[hg,Option.getD_some] at c d
 split at c<;>omega
noncomputable def homU (u:ZD):List Int×Int:=(F2 (spU u).1 u.fParams (u.fRegs.toNat-u.fParams.toNat) 0 u.fCode.length).foldl (asg (spU u).1 (spU u).2 (crU u)) (iZ u.fParams 0 u.fRegs.toNat,u.fParams)
set_option maxRecDepth 8000
set_option maxHeartbeats 8000000
theorem oY{H:List Int}{j:Int}{v:Int}(h0:0≤j)(h:j<H.length):(H.set j.toNat v).take (j+1).toNat=H.take j.toNat++[v]:=by
 rw[show(j+1).toNat=j.toNat+1 by omega,List.take_succ,List.take_set_of_le (Nat.le_refl _),List.getElem?_set]
 rw[if_pos rfl,if_pos (by omega)]
 rfl
abbrev hoH(F H T:List Int):Heap:=upd (upd (upd emp (0,2) (some (.s 1 (aG T)))) (0,1) (some (.s 1 (aG H)))) (0,0) (some (.s 1 [[.r (aG F)]]))
theorem Jn(u:ZD)(F L C:List Int)(m:Nat)(hm:m≤250)(hF:F.length=m)(hp0:0≤u.fParams)(hp4:u.fParams≤4):∀(k:Nat) (j:Int) (H T:List Int),0≤j→j+k=m→H.length=m→T.length≤j →
  loopW tab [1,4,5,6,7,8,29,30] iJ {env:=upd (upd (upd (upd (upd (upd (upd (upd emp 30 (some (I j))) 29 (some (I (m:Int)))) 8 (some (.ref (0,2) []))) 7 (some (.ref (0,1) []))) 6 (some (.d (.r (aG C))))) 5 (some (.d (.r (aG L))))) 4 (some (.ptr (0,0) [] 0 0))) 1 (some (uV u)),heap:=hoH F H T,fr:=0,next:=3} =
  some (.ext 0,{env:=upd (upd (upd (upd (upd (upd emp 8 (some (.ref (0,2) []))) 7 (some (.ref (0,1) []))) 6 (some (.d (.r (aG C))))) 5 (some (.d (.r (aG L))))) 4 (some (.ptr (0,0) [] 0 0))) 1 (some (uV u)),heap:=hoH F (H.take j.toNat++iZ u.fParams j k) (T++Ay F u.fParams j k),fr:=0,next:=3})
 |0,j,H,T,hj,hk,hH,hT=>by
  have e:H.take j.toNat=H:=List.take_of_length_le (by omega)
  unfold loopW
  conv=>lhs;arg 1;unfold iJ
  simp -implicitDefEqProofs (disch:=first|assumption|omega) only[go_sem,simprocAttr,show(m:Int)≤j by omega,e,iZ,Ay,List.append_nil]
 |k+1,j,H,T,hj,hk,hH,hT=>by
  have f1:(aG H).length=m:=by simp[aG,hH]
  have f3:=(bO (zs:=H) hj (by omega)).1
  generalize aB H j=z1 at *
  have g1:=dH H j.toNat (-1)
  have f4:=(bO (zs:=F) hj (by omega)).1
  have f5:(aG F).length=m:=by simp[aG,hF]
  rw[iZ,Ay]
  by_cases h1:j<u.fParams
  ·have ih:=Jn u F L C m hm hF hp0 hp4 k (j+1) (H.set j.toNat (10+j)) T (by omega) (by omega) (by simp[hH]) (by omega)
   rw[oY hj (by omega),List.append_assoc,List.singleton_append] at ih
   rw[if_pos h1,if_pos h1,←ih]
   have g2:=dH (H.set j.toNat (-1)) j.toNat (10+j)
   rw[List.set_set] at g2
   have f6:(aG (H.set j.toNat (-1))).length=m:=by simp[aG,hH]
   have f7:(aG (H.set j.toNat (-1)))[j.toNat]? = some [DI (-1)]:=fV (by rw[List.getElem?_set,if_pos rfl,if_pos (by omega)])
   generalize aB F j=z2 at *
   conv=>lhs;unfold loopW;arg 1;unfold iJ
   simp -implicitDefEqProofs (disch:=first|assumption|omega|(simp only[aE,aM,aF,i64,sa,aD,lm,la,lc,ln];omega)) only[go_sem,simprocAttr,show j<m by omega,h1,f1,f3,g1,g2,f6,f7]
  ·rw[if_neg h1,if_neg h1]
   by_cases h2:0≤aB F j
   ·have ih:=Jn u F L C m hm hF hp0 hp4 k (j+1) (H.set j.toNat (-1)) (T++[j]) (by omega) (by omega) (by simp[hH]) (by simp;omega)
    rw[oY hj (by omega),List.append_assoc,List.singleton_append,List.append_assoc,List.singleton_append] at ih
    rw[if_pos h2,←ih]
    have e1:aG (T++[j])=aG T++[[DI j]]:=by simp[aG]
    have e2:(aG T).length≤250:=by simp[aG];omega
    simp only[hoH,e1]
    generalize aG T=W at *
    generalize aB F j=z2 at *
    conv=>lhs;unfold loopW;arg 1;unfold iJ
    simp -implicitDefEqProofs (disch:=first|assumption|omega|(simp only[aE,aM,aF,i64,sa,aD,lm,la,lc,ln];omega)) only[go_sem,simprocAttr,show j<m by omega,h1,f1,f3,f4,f5,g1,h2]
   ·have ih:=Jn u F L C m hm hF hp0 hp4 k (j+1) (H.set j.toNat (-1)) T (by omega) (by omega) (by simp[hH]) (by omega)
    rw[oY hj (by omega),List.append_assoc,List.singleton_append] at ih
    rw[if_neg h2,←ih]
    generalize aB F j=z2 at *
    conv=>lhs;unfold loopW;arg 1;unfold iJ
    simp -implicitDefEqProofs (disch:=first|assumption|omega|(simp only[aE,aM,aF,i64,sa,aD,lm,la,lc,ln];omega)) only[go_sem,simprocAttr,show j<m by omega,h1,f1,f3,f4,f5,g1,h2]
abbrev z9J(F H:List Int):Heap:=upd (upd emp (0,1) (some (.s 1 (aG H)))) (0,0) (some (.s 1 [[.r (aG F)]]))
abbrev Pd(F H:List Int)(t:BL):Heap:=upd (upd (upd emp (0,2) (some (.s 1 (bR t)))) (0,1) (some (.s 1 (aG H)))) (0,0) (some (.s 1 [[.r (aG F)]]))
theorem zqz(F L C H M:List Int)(sl n2 jj r:Int)(m:Nat)(hm:m≤250)(hF:F.length=m)(hL:L.length=m)(hH:H.length=m)(hr0:0≤r)(hrm:r<m)(P:List Int)(hPl:P.length≤250)(hP:∀k∈P,0≤k∧k<m∧0≤aB H k):∀(Bl:List Int) (j:Int) (a b c:Bool),P.drop j.toNat=Bl→0≤j →
  loopW tab [4,5,6,7,8,10,12,13,60,61,62,70,71,72] nJ {env:=upd (upd (upd (upd (upd (upd (upd (upd (upd (upd (upd (upd (upd (upd emp 72 (some (I j))) 71 (some (I (P.length:Int)))) 70 (some (.d (.r (aG P))))) 62 (some (I jj))) 61 (some (I n2))) 60 (some (.d (.r (aG M))))) 13 (some (.ref (0,2) []))) 12 (some (I r))) 10 (some (I sl))) 8 (some (.d (.r (aG M))))) 7 (some (.ref (0,1) []))) 6 (some (.d (.r (aG C))))) 5 (some (.d (.r (aG L))))) 4 (some (.ptr (0,0) [] 0 0)),heap:=Pd F H [a,b,c],fr:=0,next:=3} =
  some (.ext 4,{env:=upd (upd (upd (upd (upd (upd (upd (upd (upd (upd (upd emp 62 (some (I jj))) 61 (some (I n2))) 60 (some (.d (.r (aG M))))) 13 (some (.ref (0,2) []))) 12 (some (I r))) 10 (some (I sl))) 8 (some (.d (.r (aG M))))) 7 (some (.ref (0,1) []))) 6 (some (.d (.r (aG C))))) 5 (some (.d (.r (aG L))))) 4 (some (.ptr (0,0) [] 0 0)),heap:=Pd F H [a||eK F L H Bl r 0,b||eK F L H Bl r 1,c||eK F L H Bl r 2],fr:=0,next:=3})
 |[],j,a,b,c,hd,hj=>by
  have hh:=cY hd hj
  unfold loopW
  conv=>lhs;arg 1;unfold nJ
  simp only[bR,mc,mn,Pd,eK,List.any_nil,Bool.or_false]
  simp -implicitDefEqProofs (disch:=first|assumption|omega) only[go_sem,simprocAttr,hh]
 |q::Bl,j,a,b,c,hd,hj=>by
  have hc0:=cA hd hj
  obtain⟨hs0,hsm,hsh⟩:=hP q hc0.2.2.2.1
  have h2:=gC (fun n=>[DI n]) hc0.1
  have h4:=hc0.2.1
  have ih:=fun a b c=>zqz F L C H M sl n2 jj r m hm hF hL hH hr0 hrm P hPl hP Bl (j+1) a b c hc0.2.2.1 (by omega)
  have f1:=(bO (zs:=H) hs0 (by omega)).1
  have f2:=(bO (zs:=F) hs0 (by omega)).1
  have f3:=(bO (zs:=L) hs0 (by omega)).1
  have f4:=(bO (zs:=F) hr0 (by omega)).1
  have f5:=(bO (zs:=L) hr0 (by omega)).1
  have n1:(aG H).length=m:=by simp[aG,hH]
  have n2:(aG F).length=m:=by simp[aG,hF]
  have n3:(aG L).length=m:=by simp[aG,hL]
  have hbz:∀h,eK F L H (q::Bl) r h=((decide (aB H q=h)&&(decide (aB F q≤aB L r)&&decide (aB F r≤aB L q)))||eK F L H Bl r h):=fun h=>by rw[eK,List.any_cons,←eK]
  rw[hbz,hbz,hbz]
  generalize eK F L H Bl r 0=B0 at *
  generalize eK F L H Bl r 1=B1 at *
  generalize eK F L H Bl r 2=B2 at *
  clear hbz hP
  generalize aB H q=hs at *
  generalize aB F q=fs at *
  generalize aB L q=ls at *
  generalize aB F r=fR at *
  generalize aB L r=lR at *
  conv=>lhs;unfold loopW;arg 1;unfold nJ
  by_cases c3:hs<3
  ·by_cases c1:fs≤lR
   ·by_cases c2:fR≤ls
    ·have hcase:hs=0∨hs=1∨hs=2:=by omega
     rcases hcase with rfl|rfl|rfl
     ·have ih0:=ih true b c
      simp only[bR,mc,mn,Pd] at ih0 ⊢
      simp -implicitDefEqProofs (disch:=first|assumption|omega) only[go_sem,simprocAttr,h2,h4,f1,f2,f3,f4,f5,n1,n2,n3,c1,c2,ih0,Bool.true_or,Bool.or_true,Bool.false_or,Bool.or_assoc,decide_true,decide_false,Bool.and_self,bfa,show ¬(0:Int)=1 by omega,show ¬(0:Int)=2 by omega]
     ·have ih0:=ih a true c
      simp only[bR,mc,mn,Pd] at ih0 ⊢
      simp -implicitDefEqProofs (disch:=first|assumption|omega) only[go_sem,simprocAttr,h2,h4,f1,f2,f3,f4,f5,n1,n2,n3,c1,c2,ih0,Bool.true_or,Bool.or_true,Bool.false_or,Bool.or_assoc,decide_true,decide_false,Bool.and_self,bfa,show ¬(1:Int)=0 by omega,show ¬(1:Int)=2 by omega]
     ·have ih0:=ih a b true
      simp only[bR,mc,mn,Pd] at ih0 ⊢
      simp -implicitDefEqProofs (disch:=first|assumption|omega) only[go_sem,simprocAttr,h2,h4,f1,f2,f3,f4,f5,n1,n2,n3,c1,c2,ih0,Bool.true_or,Bool.or_true,Bool.false_or,Bool.or_assoc,decide_true,decide_false,Bool.and_self,bfa,show ¬(2:Int)=0 by omega,show ¬(2:Int)=1 by omega]
    ·have ih0:=ih a b c
     simp only[bR,mc,mn,Pd] at ih0 ⊢
     simp -implicitDefEqProofs (disch:=first|assumption|omega) only[go_sem,simprocAttr,h2,h4,f1,f2,f3,f4,f5,n1,n2,n3,c1,c2,c3,ih0,decide_false,decide_true,zky,Bool.false_or]
   ·have ih0:=ih a b c
    simp only[bR,mc,mn,Pd] at ih0 ⊢
    simp -implicitDefEqProofs (disch:=first|assumption|omega) only[go_sem,simprocAttr,h2,h4,f1,f2,f3,f4,f5,n1,n2,n3,c1,c3,ih0,decide_false,decide_true,zky,bfa,Bool.false_or]
  ·have ih0:=ih a b c
   simp only[bR,mc,mn,Pd] at ih0 ⊢
   simp -implicitDefEqProofs (disch:=first|assumption|omega) only[go_sem,simprocAttr,h2,h4,f1,n1,c3,ih0,show ¬hs=0 by omega,show ¬hs=1 by omega,show ¬hs=2 by omega,decide_false,bfa,Bool.false_or]
set_option maxRecDepth 8000
set_option maxHeartbeats 8000000
theorem zXc(a b c:Bool):fzs [[DB a],[DB b],[DB c]]=[[DB a],[DB b],[DB c]]:=rfl
theorem zjQ(F L C M:List Int)(m:Nat)(hm:m≤250)(hF:F.length=m)(hL:L.length=m)(hC:C.length≤2000000)(hMl:M.length≤250)(hM:∀r∈M,0≤r∧r<m):∀(Bl:List Int) (j:Int) (S:List Int×Int),M.drop j.toNat=Bl→0≤j→j≤M.length→Hom m (M.take j.toNat) S →
  loopW tab [4,5,6,7,8,10,60,61,62] nK {env:=upd (upd (upd (upd (upd (upd (upd (upd (upd emp 62 (some (I j))) 61 (some (I (M.length:Int)))) 60 (some (.d (.r (aG M))))) 10 (some (I S.2))) 8 (some (.d (.r (aG M))))) 7 (some (.ref (0,1) []))) 6 (some (.d (.r (aG C))))) 5 (some (.d (.r (aG L))))) 4 (some (.ptr (0,0) [] 0 0)),heap:=z9J F S.1,fr:=0,next:=2} =
  some (.ext 2,{env:=upd (upd emp 10 (some (I (Bl.foldl (asg F L C) S).2))) 7 (some (.ref (0,0) [])),heap:=upd emp (0,0) (some (.s 1 (aG (Bl.foldl (asg F L C) S).1))),fr:=0,next:=1})
 |[],j,S,hd,hj,hjm,hS=>by
  have hh:=cY hd hj
  unfold loopW
  conv=>lhs;arg 1;unfold nK
  simp -implicitDefEqProofs (disch:=first|assumption|omega) only[go_sem,simprocAttr,hh,List.foldl_nil]
 |r::Bl,j,S,hd,hj,hjm,hS=>by
  have hc0:=cA hd hj
  obtain⟨hr0,hrm⟩:=hM r hc0.2.2.2.1
  have h2:=gC (fun n=>[DI n]) hc0.1
  have h4:=hc0.2.1
  have hst:=hS.step F L C hr0 hrm
  have htk:M.take (j+1).toNat=M.take j.toNat++[r]:=by
   rw[show(j+1).toNat=j.toNat+1 by omega,List.take_succ,hc0.1];rfl
  rw[←htk] at hst
  have ih:=zjQ F L C M m hm hF hL hC hMl hM Bl (j+1) (asg F L C S r) hc0.2.2.1 (by omega) (by omega) hst
  rw[List.foldl_cons,←ih]
  have hpl:(M.take j.toNat).length=j.toNat:=by rw[List.length_take];omega
  have g1:=zqz F L C S.1 M S.2 M.length j r m hm hF hL hS.len hr0 hrm (M.take j.toNat) (by omega) hS.pos (M.take j.toNat) 0 false false false rfl (by omega)
  rw[Bool.false_or,Bool.false_or,Bool.false_or] at g1
  have g2:=zw2 (eK F L S.1 (M.take j.toNat) r 0) (eK F L S.1 (M.take j.toNat) r 1) (eK F L S.1 (M.take j.toNat) r 2)
  rw[show(if eK F L S.1 (M.take j.toNat) r 0=false then(0:Int) else if eK F L S.1 (M.take j.toNat) r 1=false then 1 else if eK F L S.1 (M.take j.toNat) r 2=false then 2 else -1)=qJ F L S.1 (M.take j.toNat) r from rfl] at g2
  have e0:=zKn (F:=F) (L:=L) (fun k hk=>⟨(hS.pos k hk).1,(hS.pos k hk).2.1⟩) hS.low r
  have hfb:=E9 F L S.1 (M.take j.toNat) r
  have g3:=Hp C r (by omega)
  have a1:=(bO (zs:=S.1) hr0 (by rw[hS.len];exact hrm)).1
  have n1:(aG S.1).length=m:=by simp[aG,hS.len]
  have n2:=dH S.1 r.toNat (10+S.2)
  have n3:=dH S.1 r.toNat (qJ F L S.1 (M.take j.toNat) r)
  have hsl:=hS.slot
  have hml:(aG M).length=M.length:=by simp[aG]
  have hcut:(aG M).take j.toNat=aG (M.take j.toNat):=by simp[aG,List.map_take]
  rw[asg,hS.len,←e0]
  simp only[bR,mc,mn,Pd] at g1 g2
  generalize qJ F L S.1 (M.take j.toNat) r=fp at *
  generalize eK F L S.1 (M.take j.toNat) r 0=B0 at *
  generalize eK F L S.1 (M.take j.toNat) r 1=B1 at *
  generalize eK F L S.1 (M.take j.toNat) r 2=B2 at *
  generalize aB S.1 r=z0 at *
  have hjl:j.toNat≤250:=by omega
  clear hst hS ih hM htk e0 hd hcut
  generalize hPP:M.take j.toNat=P at *
  have hcut:(aG M).take j.toNat=aG P:=by rw[←hPP];simp[aG,List.map_take]
  clear hPP
  obtain⟨H,sl⟩:=S
  simp only at *
  conv=>lhs;unfold loopW;arg 1;unfold nK
  by_cases hf:fp<0
  ·rw[if_pos (.inl hf)]
   simp -implicitDefEqProofs (disch:=first|assumption|omega|(simp only[aE,aM,aF,i64,sa,aD,lm,la,lc,ln];omega)) only[go_sem,simprocAttr,h2,h4,g1,g2,g3,a1,n1,n2,hf,hcut,hml,r8,zXc,List.replicate_succ,List.replicate_zero]
  ·by_cases hc:r∈C
   ·rw[if_pos (.inr hc)]
    rw[decide_eq_true hc] at g3
    simp -implicitDefEqProofs (disch:=first|assumption|omega|(simp only[aE,aM,aF,i64,sa,aD,lm,la,lc,ln];omega)) only[go_sem,simprocAttr,h2,h4,g1,g2,g3,a1,n1,n2,hf,hcut,hml,r8,zXc,List.replicate_succ,List.replicate_zero]
   ·rw[if_neg (by rintro(h|h);exact hf h;exact hc h)]
    rw[decide_eq_false hc] at g3
    simp -implicitDefEqProofs (disch:=first|assumption|omega|(simp only[aE,aM,aF,i64,sa,aD,lm,la,lc,ln];omega)) only[go_sem,simprocAttr,h2,h4,g1,g2,g3,a1,n1,n3,hf,hcut,hml,r8,zXc,List.replicate_succ,List.replicate_zero]
abbrev hoK(F H:List Int):Heap:=upd (upd emp (0,1) (some (.s 1 (aG H)))) (0,0) (some (.s 1 [[.r (aG F)]]))
theorem Ye(F H T:List Int):sH (hoK F H) 2 T=hoH F H T:=by
 funext id
 simp only[sH,hoK,hoH,upd]
 by_cases h0:id=(0,0)
 ·subst h0;simp
 ·by_cases h1:id=(0,1)
  ·subst h1;simp
  ·by_cases h2:id=(0,2)<;>simp[h0,h1,h2]
theorem Wm(F H:List Int):uW (hoK F H) 2:=fun fr h1 x=>by
 funext id
 simp only[cB]
 split
 ·rename_i h
  have h0:∀k,id≠(0,k):=fun k e=>by rw[e] at h;simp at h;omega
  simp[upd,h0,emp]
 ·rfl
theorem zXV(F H:List Int)(m:Nat)(hm:m≤250)(hF:F.length=m)(n:Int)(hn:n≤1000)(hin:inJ n F):Cmp (hoK F H) 2 0 xH (aB F) (fun r=>0≤r∧r<m):=fun zs fr x y h2 hx hy=>by
 have hd:=Wm F H fr (by omega)
 obtain⟨hx0,hxm⟩:=hx
 obtain⟨hy0,hym⟩:=hy
 have f1:=(bO (zs:=F) hx0 (by omega)).1
 have f2:=(bO (zs:=F) hy0 (by omega)).1
 have i1:=hin _ (bO (zs:=F) hx0 (by omega)).2
 have i2:=hin _ (bO (zs:=F) hy0 (by omega)).2
 have n1:(aG F).length=m:=by simp[aG,hF]
 have e:=Ye F H zs
 simp only[sH] at e ⊢
 have hd2:=hd (some (D.s 1 (aG zs)))
 rw[e] at hd2 ⊢
 generalize aB F x=fx at *
 generalize aB F y=fy at *
 rw[aR J6 _ _ _ rfl,As]
 simp -implicitDefEqProofs (disch:=first|assumption|omega) only[go_sem,simprocAttr,f1,f2,n1,hd2,show ¬0=fr by omega]
set_option maxRecDepth 8000
set_option maxHeartbeats 8000000
theorem Jo(u:ZD):(spU u).1.length=u.fRegs.toNat∧(spU u).2.length=u.fRegs.toNat:=by
 have:=Qj u.fCode (live u) 0 (List.replicate u.fRegs.toNat (-1),List.replicate u.fRegs.toNat (-1))
 simpa[spU] using this
theorem zzY{u:ZD}(hr:Right u):inJ u.fCode.length (spU u).1∧inJ u.fCode.length (spU u).2:=by
 have h1:inJ u.fCode.length (List.replicate u.fRegs.toNat (-1)):=fun x hx=>by have:=(List.mem_replicate.1 hx).2;omega
 exact Vp u.fCode.length u.fRegs.toNat u.fCode (live u) 0 _ (by omega) (by omega) (fun t ht r h=>(vT hr t ht r h).1) h1 h1
theorem zVa(F L:List Int)(u:ZD):asg F L (crS u)=asg F L (crU u):=by
 funext S r
 simp only[asg,zKU]
noncomputable abbrev ordU (u:ZD):List Int:=Ay (spU u).1 u.fParams 0 u.fRegs.toNat
noncomputable abbrev refU (u:ZD):List Int:=F2 (spU u).1 u.fParams (u.fRegs.toNat-u.fParams.toNat) 0 u.fCode.length
theorem R4{u:ZD}(hr:Right u):Mg (aB (spU u).1) (ordU u) (refU u) :=
 zW6 hr.pars.1 (by have:=hr.pars;omega) (zzY hr).1 (Jo u).1
theorem N5(u:ZD)(hs:u.sm)(hu:s8 u=true):call tab D9 [u.x]=some (.tup [.d (.s 1 (aG (homU u).1)),I (homU u).2]):=by
 have hr:=oQ hu
 obtain⟨I1,hI,hL,h1⟩:=kT u hr hs
 have h2:=Nx u hs hu
 have h3:=Ig u hs hu
 obtain⟨hr0,hr1⟩:=hr.regs
 obtain⟨hp0,hp4,hpm⟩:=hr.pars
 have hl:=hr.len
 obtain⟨hF,hLl⟩:=Jo u
 have hin:=(zzY hr).1
 have hcl:=zWi u
 have hcl2:=zjW hr hL
 have e1:(u.fRegs.toNat:Int)=u.fRegs:=by omega
 have g0:=Jn u (spU u).1 (spU u).2 (crS u) u.fRegs.toNat (by omega) hF hp0 hp4 u.fRegs.toNat 0 (List.replicate u.fRegs.toNat 0) [] (by omega) (by omega) (by simp) (by simp)
 rw[show(0:Int).toNat=0 from rfl,List.take_zero,List.nil_append,List.nil_append] at g0
 have hom0:∀r∈ordU u,0≤r∧r<u.fRegs.toNat:=fun r hr=>by rw[zP] at hr;omega
 have hol:(ordU u).length≤250:=Nat.le_trans (Lc (spU u).1 u.fParams u.fRegs.toNat 0) (by omega)
 obtain⟨M,hM,g1⟩:=Oo (Wm (spU u).1 (iZ u.fParams 0 u.fRegs.toNat)) (zXV (spU u).1 (iZ u.fParams 0 u.fRegs.toNat) u.fRegs.toNat (by omega) hF u.fCode.length (by omega) hin) 1 (by omega) (ordU u) (A9 _ _ _ _) hol hom0
 have hMr:=Mg.unique hM (R4 hr)
 rw[Ye,Ye] at g1
 have hMl:M.length≤250:=by rw[hM.len];exact hol
 have g2:=zjQ (spU u).1 (spU u).2 (crS u) M u.fRegs.toNat (by omega) hF hLl (by omega) hMl (fun r hr=>hom0 r (hM.perm.subset hr)) M 0 (iZ u.fParams 0 u.fRegs.toNat,u.fParams) rfl (by omega) (by omega) (Hom.start hp0 hp4 (by omega))
 rw[zVa] at g2
 have hfin:M.foldl (asg (spU u).1 (spU u).2 (crU u)) (iZ u.fParams 0 u.fRegs.toNat,u.fParams)=homU u:=by rw[hMr];rfl
 rw[hfin] at g2
 have e4:List.replicate u.fRegs.toNat [DI 0]=aG (List.replicate u.fRegs.toNat 0):=by simp[aG]
 rw[e1] at g0
 rw[aY R8 _ rfl,Fi]
 clear hfin hMr hM hom0 hin hcl
 generalize homU u=S at *
 obtain⟨S1,S2⟩:=S
 have e5:aG ([]:List Int)=[]:=rfl
 rw[show Ay (spU u).1 u.fParams 0 u.fRegs.toNat=ordU u from rfl] at g0
 rw[hoH,e5] at g0
 simp only[z9J,cl] at g2 g1
 generalize ordU u=T at *
 generalize iZ u.fParams 0 u.fRegs.toNat=H at *
 generalize (spU u).1=F at *
 generalize (spU u).2=L at *
 generalize crS u=C at *
 have hml:(aG M).length=M.length:=by simp[aG]
 simp -implicitDefEqProofs (disch:=first|assumption|omega|(simp only[aE,aM,aF,i64,sa,aD,lm,la,lc,ln];omega)) only[go_sem,simprocAttr,h2,h3,e4,g0,g1,g2,cN,hml]
set_option maxRecDepth 8000
set_option maxHeartbeats 8000000
abbrev wkH(F L H:List Int)(n:Int):Heap:=upd emp (0,0) (some (.s 4 [[.s 1 (aG F),.s 1 (aG L),.s 1 (aG H),DI n]]))
theorem Lw(F L H:List Int)(n:Int)(fr:Nat)(h1:1≤fr):cB fr (wkH F L H n)=wkH F L H n:=by
 funext id
 simp only[cB]
 split
 ·rename_i h
  have h0:∀k,id≠(0,k):=fun k e=>by rw[e] at h;simp at h;omega
  simp[upd,h0,emp]
 ·rfl
theorem M4(F L H:List Int)(sl r h:Int)(m:Nat)(hm:m≤250)(hF:F.length=m)(hL:L.length=m)(hH:H.length=m)(hr0:0≤r)(hrm:r<m):∀(n:Nat) (k:Int) (ok:Bool),0≤k→k+n=m →
  loopW tab [0,1,5,6,7] lO {env:=upd (upd (upd (upd (upd emp 7 (some (I k))) 6 (some (B ok))) 5 (some (I h))) 1 (some (I r))) 0 (some (.ptr (0,0) [] 0 0)),heap:=wkH F L H sl,fr:=1,next:=0} =
  some (.ext 2,{env:=upd (upd (upd (upd emp 6 (some (B (ok&& !eK F L H (tY k n) r h)))) 5 (some (I h))) 1 (some (I r))) 0 (some (.ptr (0,0) [] 0 0)),heap:=wkH F L H sl,fr:=1,next:=0})
 |0,k,ok,h0,hk=>by
  have hd:=Lw F L H sl 1 (by omega)
  have n1:(aG H).length=m:=by simp[aG,hH]
  simp only[tY,eK,List.any_nil,Bool.not_false,bat]
  unfold loopW
  conv=>lhs;arg 1;unfold lO
  simp -implicitDefEqProofs (disch:=first|assumption|omega) only[go_sem,simprocAttr,show(m:Int)≤k by omega,n1,hd]
 |n+1,k,ok,h0,hk=>by
  have hd:=Lw F L H sl 1 (by omega)
  have ih1:=M4 F L H sl r h m hm hF hL hH hr0 hrm n (k+1) ok (by omega) (by omega)
  have ih2:=M4 F L H sl r h m hm hF hL hH hr0 hrm n (k+1) false (by omega) (by omega)
  have f1:=(bO (zs:=H) h0 (by omega)).1
  have f2:=(bO (zs:=F) h0 (by omega)).1
  have f3:=(bO (zs:=L) h0 (by omega)).1
  have f4:=(bO (zs:=F) hr0 (by omega)).1
  have f5:=(bO (zs:=L) hr0 (by omega)).1
  have n1:(aG H).length=m:=by simp[aG,hH]
  have n2:(aG F).length=m:=by simp[aG,hF]
  have n3:(aG L).length=m:=by simp[aG,hL]
  rw[tY,eK,List.any_cons,←eK]
  generalize eK F L H (tY (k+1) n) r h=B0 at *
  generalize aB H k=hs at *
  generalize aB F k=fs at *
  generalize aB L k=ls at *
  generalize aB F r=fR at *
  generalize aB L r=lR at *
  conv=>lhs;unfold loopW;arg 1;unfold lO
  have hkm:k<(m:Int):=by omega
  by_cases c3:hs=h
  ·subst c3
   by_cases c1:fs≤lR
   ·by_cases c2:fR≤ls
    ·rw[bfa] at ih2
     simp only[decide_true,bta,c1,c2,Bool.true_or,Bool.not_true,zky]
     rw[←ih2]
     simp -implicitDefEqProofs (disch:=first|assumption|omega) only[go_sem,simprocAttr,f1,f2,f3,f4,f5,n1,n2,n3,c1,c2,hd,hkm]
    ·simp only[decide_false,decide_true,bta,zky,c2,Bool.false_or]
     rw[←ih1]
     simp -implicitDefEqProofs (disch:=first|assumption|omega) only[go_sem,simprocAttr,f1,f2,f3,f4,f5,n1,n2,n3,c1,c2,hd,hkm]
   ·simp only[decide_false,decide_true,bta,bfa,c1,Bool.false_or]
    rw[←ih1]
    simp -implicitDefEqProofs (disch:=first|assumption|omega) only[go_sem,simprocAttr,f1,f2,f3,f4,f5,n1,n2,n3,c1,hd,hkm]
  ·simp only[decide_false,bfa,c3,Bool.false_or]
   rw[←ih1]
   simp -implicitDefEqProofs (disch:=first|assumption|omega) only[go_sem,simprocAttr,f1,n1,c3,hd,hkm]
theorem zxf(F L H:List Int)(sl r:Int)(m:Nat)(hm:m≤250)(hF:F.length=m)(hL:L.length=m)(hH:H.length=m)(hr0:0≤r)(hrm:r<m) :
  evCW tab xD [.ptr (0,0) [] 0 0,I r] (wkH F L H sl) 1=some (I (qJ F L H (tY 0 m) r),wkH F L H sl):=by
 have hd:=Lw F L H sl 1 (by omega)
 have g:=fun h=>M4 F L H sl r h m hm hF hL hH hr0 hrm m 0 true (by omega) (by omega)
 simp only[bta] at g
 have l3:loopW tab [0,1,5] cC {env:=upd (upd (upd emp 5 (some (I 3))) 1 (some (I r))) 0 (some (.ptr (0,0) [] 0 0)),heap:=wkH F L H sl,fr:=1,next:=0}=some (.ext 0,{env:=emp,heap:=wkH F L H sl,fr:=1,next:=0}):=by
  unfold loopW
  conv=>lhs;arg 1;unfold cC
  simp -implicitDefEqProofs (disch:=first|assumption|omega) only[go_sem,simprocAttr,hd]
 rw[aR L0 _ _ _ rfl,zU]
 unfold qJ
 have g0:=g 0
 have g1:=g 1
 have g2:=g 2
 generalize eK F L H (tY 0 m) r 0=B0 at *
 generalize eK F L H (tY 0 m) r 1=B1 at *
 generalize eK F L H (tY 0 m) r 2=B2 at *
 have l2:loopW tab [0,1,5] cC {env:=upd (upd (upd emp 5 (some (I 2))) 1 (some (I r))) 0 (some (.ptr (0,0) [] 0 0)),heap:=wkH F L H sl,fr:=1,next:=0}=if B2=false then some (.ret,{env:=upd emp 4 (some (I 2)),heap:=wkH F L H sl,fr:=1,next:=0}) else some (.ext 0,{env:=emp,heap:=wkH F L H sl,fr:=1,next:=0}):=by
  cases B2<;>simp only[if_true,if_false,Bool.true_eq_false,←l3,Bool.not_true,Bool.not_false] at *
  ·conv=>lhs;unfold loopW;arg 1;unfold cC
   simp -implicitDefEqProofs (disch:=first|assumption|omega) only[go_sem,simprocAttr,g2,hd]
  ·conv=>lhs;unfold loopW;arg 1;unfold cC
   simp -implicitDefEqProofs (disch:=first|assumption|omega) only[go_sem,simprocAttr,g2,hd]
 have l1:loopW tab [0,1,5] cC {env:=upd (upd (upd emp 5 (some (I 1))) 1 (some (I r))) 0 (some (.ptr (0,0) [] 0 0)),heap:=wkH F L H sl,fr:=1,next:=0}=if B1=false then some (.ret,{env:=upd emp 4 (some (I 1)),heap:=wkH F L H sl,fr:=1,next:=0}) else if B2=false then some (.ret,{env:=upd emp 4 (some (I 2)),heap:=wkH F L H sl,fr:=1,next:=0}) else some (.ext 0,{env:=emp,heap:=wkH F L H sl,fr:=1,next:=0}):=by
  rw[←l2]
  clear l2 g0 g2
  cases B1<;>simp only[if_true,if_false,Bool.true_eq_false,Bool.not_true,Bool.not_false] at *
  ·conv=>lhs;unfold loopW;arg 1;unfold cC
   simp -implicitDefEqProofs (disch:=first|assumption|omega) only[go_sem,simprocAttr,g1,hd]
  ·conv=>lhs;unfold loopW;arg 1;unfold cC
   simp -implicitDefEqProofs (disch:=first|assumption|omega) only[go_sem,simprocAttr,g1,hd]
 have l0:loopW tab [0,1,5] cC {env:=upd (upd (upd emp 5 (some (I 0))) 1 (some (I r))) 0 (some (.ptr (0,0) [] 0 0)),heap:=wkH F L H sl,fr:=1,next:=0}=if B0=false then some (.ret,{env:=upd emp 4 (some (I 0)),heap:=wkH F L H sl,fr:=1,next:=0}) else if B1=false then some (.ret,{env:=upd emp 4 (some (I 1)),heap:=wkH F L H sl,fr:=1,next:=0}) else if B2=false then some (.ret,{env:=upd emp 4 (some (I 2)),heap:=wkH F L H sl,fr:=1,next:=0}) else some (.ext 0,{env:=emp,heap:=wkH F L H sl,fr:=1,next:=0}):=by
  rw[←l1]
  clear l1 l2 g1 g2
  cases B0<;>simp only[if_true,if_false,Bool.true_eq_false,Bool.not_true,Bool.not_false] at *
  ·conv=>lhs;unfold loopW;arg 1;unfold cC
   simp -implicitDefEqProofs (disch:=first|assumption|omega) only[go_sem,simprocAttr,g0,hd]
  ·conv=>lhs;unfold loopW;arg 1;unfold cC
   simp -implicitDefEqProofs (disch:=first|assumption|omega) only[go_sem,simprocAttr,g0,hd]
 clear g0 g1 g2 l1 l2 l3
 cases B0<;>cases B1<;>cases B2<;>simp only[if_true,if_false,Bool.true_eq_false] at l0 ⊢ <;> simp -implicitDefEqProofs (disch:=first|assumption|omega) only[go_sem,simprocAttr,l0,hd]
set_option maxRecDepth 8000
set_option maxHeartbeats 8000000
theorem zqo(u:ZD)(F L:List Int)(Cb:BL)(sl:Int)(m:Nat)(hm:m≤250)(hp0:0≤u.fParams)(hp4:u.fParams≤4)(hpm:u.fParams≤m):∀(n:Nat) (j:Int) (H:List Int),0≤j→j+n=u.fParams→H.length=m →
  loopW tab [1,4,5,6] kC {env:=upd (upd (upd (upd emp 6 (some (I j))) 5 (some (.ptr (0,0) [] 0 0))) 4 (some (.d (.r (bR Cb))))) 1 (some (uV u)),heap:=wkH F L H sl,fr:=0,next:=1} =
  some (.ext 0,{env:=upd (upd (upd emp 5 (some (.ptr (0,0) [] 0 0))) 4 (some (.d (.r (bR Cb))))) 1 (some (uV u)),heap:=wkH F L (H.take j.toNat++(iZ u.fParams j n++H.drop u.fParams.toNat)) sl,fr:=0,next:=1})
 |0,j,H,h0,hk,hH=>by
  have e:H.take j.toNat++(iZ u.fParams j 0++H.drop u.fParams.toNat)=H:=by
   rw[show j=u.fParams by omega,iZ,List.nil_append,List.take_append_drop]
  rw[e]
  unfold loopW
  conv=>lhs;arg 1;unfold kC
  simp -implicitDefEqProofs (disch:=first|assumption|omega) only[go_sem,simprocAttr,show u.fParams≤j by omega]
 |n+1,j,H,h0,hk,hH=>by
  have ih:=zqo u F L Cb sl m hm hp0 hp4 hpm n (j+1) (H.set j.toNat (10+j)) (by omega) (by omega) (by simp[hH])
  rw[oY h0 (by omega),List.drop_set_of_lt (by omega)] at ih
  rw[iZ,if_pos (by omega),show H.take j.toNat++((10+j)::iZ u.fParams (j+1) n++H.drop u.fParams.toNat)=H.take j.toNat++[10+j]++(iZ u.fParams (j+1) n++H.drop u.fParams.toNat) by simp,←ih]
  have n1:(aG H).length=m:=by simp[aG,hH]
  have f1:=(bO (zs:=H) h0 (by omega)).1
  have g1:=dH H j.toNat (10+j)
  generalize aB H j=z at *
  conv=>lhs;unfold loopW;arg 1;unfold kC
  simp -implicitDefEqProofs (disch:=first|assumption|omega) only[go_sem,simprocAttr,show j<u.fParams by omega,n1,f1,g1]
theorem S8(u:ZD)(F L C:List Int)(Cb:BL)(m:Nat)(hu:u.fRegs=m)(hm:m≤250)(hF:F.length=m)(hL:L.length=m)(hCb:Cb.length=m)(hC:∀r:Int,0≤r→(Cb[r.toNat]? = some true↔r∈C))(q:Int):∀(n:Nat) (r:Int) (H:List Int) (sl:Int),0≤r→r+n=m→H.length=m→0≤sl→sl≤1000000+r →
  loopW tab [1,4,5,7,8] gK {env:=upd (upd (upd (upd (upd emp 8 (some (I r))) 7 (some (I q))) 5 (some (.ptr (0,0) [] 0 0))) 4 (some (.d (.r (bR Cb))))) 1 (some (uV u)),heap:=wkH F L H sl,fr:=0,next:=1} =
  some (.ext 4,{env:=upd (upd (upd (upd emp 7 (some (I q))) 5 (some (.ptr (0,0) [] 0 0))) 4 (some (.d (.r (bR Cb))))) 1 (some (uV u)),heap:=wkH F L ((qV F q r n).foldl (asg F L C) (H,sl)).1 ((qV F q r n).foldl (asg F L C) (H,sl)).2,fr:=0,next:=1})
 |0,r,H,sl,h0,hk,hH,hs0,hs1=>by
  unfold loopW
  conv=>lhs;arg 1;unfold gK
  simp -implicitDefEqProofs (disch:=first|assumption|omega) only[go_sem,simprocAttr,show u.fRegs≤r by omega,qV,List.foldl_nil]
 |n+1,r,H,sl,h0,hk,hH,hs0,hs1=>by
  have n1:(aG H).length=m:=by simp[aG,hH]
  have n2:(aG F).length=m:=by simp[aG,hF]
  have f2:=(bO (zs:=F) h0 (by omega)).1
  have f1:=(bO (zs:=H) h0 (by omega)).1
  have hru:r<u.fRegs:=by omega
  rw[qV]
  by_cases hq:aB F r=q
  ·rw[if_pos hq,List.foldl_cons]
   have hsl:=T5 F L C (H,sl) r
   have ih:=S8 u F L C Cb m hu hm hF hL hCb hC q n (r+1) (asg F L C (H,sl) r).1 (asg F L C (H,sl) r).2 (by omega) (by omega) (by rw[zqC];exact hH) (by have:=hsl.1;simp only at this;omega) (by have:=hsl.2;simp only at this;omega)
   rw[show((asg F L C (H,sl) r).1,(asg F L C (H,sl) r).2)=asg F L C (H,sl) r from rfl] at ih
   rw[←ih]
   have g0:=zxf F L H sl r m hm hF hL hH h0 (by omega)
   have hb:=E9 F L H (tY 0 m) r
   have c1:=hC r h0
   have hlt:r.toNat<Cb.length:=by omega
   have c2:=j6 (List.getElem?_eq_getElem hlt)
   rw[List.getElem?_eq_getElem hlt,oi] at c1
   have n4:(bR Cb).length=m:=by simp[hCb]
   generalize Cb[r.toNat]=cb at *
   have s1:=dH H r.toNat (10+sl)
   have s2:=dH H r.toNat (qJ F L H (tY 0 m) r)
   unfold asg
   simp only[hH]
   generalize qJ F L H (tY 0 m) r=fp at *
   generalize aB H r=z at *
   rw[hq] at f2
   clear hsl ih
   conv=>lhs;unfold loopW;arg 1;unfold gK
   cases cb
   ·have hc:¬r∈C:=fun h=>by simpa using c1.2 h
    by_cases hf:fp<0
    ·rw[if_pos (.inl hf)]
     simp -implicitDefEqProofs (disch:=first|assumption|omega) only[go_sem,simprocAttr,n1,n2,f1,f2,n4,c2,g0,s1,hf,hru]
    ·rw[if_neg (by rintro(h|h);exact hf h;exact hc h)]
     simp -implicitDefEqProofs (disch:=first|assumption|omega) only[go_sem,simprocAttr,n1,n2,f1,f2,n4,c2,g0,s2,hf,hru]
   ·rw[if_pos (.inr (c1.1 rfl))]
    simp -implicitDefEqProofs (disch:=first|assumption|omega) only[go_sem,simprocAttr,n1,n2,f1,f2,n4,c2,s1,hru]
  ·rw[if_neg hq]
   have ih:=S8 u F L C Cb m hu hm hF hL hCb hC q n (r+1) H sl (by omega) (by omega) hH hs0 (by omega)
   rw[←ih]
   generalize aB F r=z at *
   conv=>lhs;unfold loopW;arg 1;unfold gK
   simp -implicitDefEqProofs (disch:=first|assumption|omega) only[go_sem,simprocAttr,n2,f2,hq,hru]
theorem Pr(F L C:List Int):∀(ls:List Int) (S:List Int×Int),S.2≤(ls.foldl (asg F L C) S).2∧(ls.foldl (asg F L C) S).2≤S.2+ls.length
 |[],S=>by simp
 |r::ls,S=>by
  have h1:=T5 F L C S r
  have h2:=Pr F L C ls (asg F L C S r)
  rw[List.foldl_cons,lc]
  omega
theorem Wk(F:List Int)(q:Int):∀(k:Nat) (j:Int),(qV F q j k).length≤k
 |0,j=>by simp[qV]
 |k+1,j=>by
  have:=Wk F q k (j+1)
  rw[qV]
  split
  ·simp;omega
  ·omega
theorem zjE(u:ZD)(F L C:List Int)(Cb:BL)(m:Nat)(hu:u.fRegs=m)(hm:m≤250)(hF:F.length=m)(hL:L.length=m)(hCb:Cb.length=m)(hC:∀r:Int,0≤r→(Cb[r.toNat]? = some true↔r∈C))(hp0:0≤u.fParams)(hpm:u.fParams≤m)(hcl:u.fCode.length≤900):∀(n:Nat) (q:Int) (H:List Int) (sl:Int),0≤q→q+n=u.fCode.length→H.length=m→0≤sl→sl≤4+250*q →
  loopW tab [1,4,5,7] kD {env:=upd (upd (upd (upd emp 7 (some (I q))) 5 (some (.ptr (0,0) [] 0 0))) 4 (some (.d (.r (bR Cb))))) 1 (some (uV u)),heap:=wkH F L H sl,fr:=0,next:=1} =
  some (.ext 2,{env:=upd emp 5 (some (.ptr (0,0) [] 0 0)),heap:=wkH F L ((F2 F u.fParams (m-u.fParams.toNat) q n).foldl (asg F L C) (H,sl)).1 ((F2 F u.fParams (m-u.fParams.toNat) q n).foldl (asg F L C) (H,sl)).2,fr:=0,next:=1})
 |0,q,H,sl,h0,hk,hH,hs0,hs1=>by
  unfold loopW
  conv=>lhs;arg 1;unfold kD
  simp -implicitDefEqProofs (disch:=first|assumption|omega) only[go_sem,simprocAttr,show(u.fCode.length:Int)≤q by omega,F2,List.foldl_nil]
 |n+1,q,H,sl,h0,hk,hH,hs0,hs1=>by
  rw[F2,List.foldl_append]
  have g:=S8 u F L C Cb m hu hm hF hL hCb hC q (m-u.fParams.toNat) u.fParams H sl hp0 (by omega) hH hs0 (by omega)
  have hsl:=Pr F L C (qV F q u.fParams (m-u.fParams.toNat)) (H,sl)
  have hln:=Xi F L C (qV F q u.fParams (m-u.fParams.toNat)) (H,sl)
  have hse:=Wk F q (m-u.fParams.toNat) u.fParams
  simp only at hsl hln
  have ih:=zjE u F L C Cb m hu hm hF hL hCb hC hp0 hpm hcl n (q+1) ((qV F q u.fParams (m-u.fParams.toNat)).foldl (asg F L C) (H,sl)).1 ((qV F q u.fParams (m-u.fParams.toNat)).foldl (asg F L C) (H,sl)).2 (by omega) (by omega) (by rw[hln];exact hH) (by omega) (by omega)
  rw[show(((qV F q u.fParams (m-u.fParams.toNat)).foldl (asg F L C) (H,sl)).1,((qV F q u.fParams (m-u.fParams.toNat)).foldl (asg F L C) (H,sl)).2)=(qV F q u.fParams (m-u.fParams.toNat)).foldl (asg F L C) (H,sl) from rfl] at ih
  rw[←ih]
  clear ih hsl hln hse
  generalize ((qV F q u.fParams (m-u.fParams.toNat)).foldl (asg F L C) (H,sl)).1=S1 at *
  generalize ((qV F q u.fParams (m-u.fParams.toNat)).foldl (asg F L C) (H,sl)).2=S2 at *
  conv=>lhs;unfold loopW;arg 1;unfold kD
  simp -implicitDefEqProofs (disch:=first|assumption|omega) only[go_sem,simprocAttr,show q<(u.fCode.length:Int) by omega,g]
theorem L7(pr:Int):∀(a b:Nat) (j:Int),j+a=pr→iZ pr j (a+b)=iZ pr j a++List.replicate b (-1)
 |0,b,j,h=>by rw[Nat.zero_add,iZ,List.nil_append,P7 b j (by omega)]
 |a+1,b,j,h=>by
  rw[show a+1+b=(a+b)+1 by omega,iZ,iZ,L7 pr a b (j+1) (by omega),List.cons_append]
theorem zkN{t:ZC}{o:BL}{r:Int}(h:r∈wQ t o):0≤r∧r<o.length:=by
 unfold wQ at h
 split at h
 ·exact vP (List.mem_filter.1 h).1
 ·simp at h
theorem Ql{m z:Nat}(hz:z=m):∀{ts:List ZC} {os:List BL},(∀o∈os,o.length=m)→∀r∈j4 ts os,0≤r∧r<z
 |[],_,_,r,h=>by simp[j4] at h
 |_::_,[],_,r,h=>by simp[j4] at h
 |t::ts,o::os,ho,r,h=>by
  rw[j4,List.mem_append] at h
  rcases h with h|h
  ·have:=zkN h
   have:=ho o (by simp)
   omega
  ·exact Ql hz (fun o h=>ho o (by simp[h])) r h
theorem F9(u:ZD)(hs:u.sm)(hr:Right u):∃F L:List Int,call tab vD [u.x]=some (.rop [.r (aG F),.r (aG L),.r (aG (homU u).1),DI (homU u).2]):=by
 refine⟨(spU u).1,(spU u).2,?_⟩
 obtain⟨hL,h1⟩:=Jv u hr hs
 have h2:=Dq u hr hL
 have h3:=Hf u hs hr hL
 obtain⟨hr0,hr1⟩:=hr.regs
 obtain⟨hp0,hp4,hpm⟩:=hr.pars
 have hl:=hr.len
 obtain⟨hF,hLl⟩:=Jo u
 have h4:=zqA u.fRegs hr0 hr1
 have g0:=zqo u (spU u).1 (spU u).2 (bY true (zB u) (crU u)) u.fParams u.fRegs.toNat (by omega) hp0 hp4 (by omega) u.fParams.toNat 0 (List.replicate u.fRegs.toNat (-1)) (by omega) (by omega) (by simp)
 have e1:(List.replicate u.fRegs.toNat (-1:Int)).take (0:Int).toNat++(iZ u.fParams 0 u.fParams.toNat++(List.replicate u.fRegs.toNat (-1)).drop u.fParams.toNat)=iZ u.fParams 0 u.fRegs.toNat:=by
  rw[show(0:Int).toNat=0 from rfl,List.take_zero,List.nil_append,List.drop_replicate,←L7 u.fParams u.fParams.toNat (u.fRegs.toNat-u.fParams.toNat) 0 (by omega),show u.fParams.toNat+(u.fRegs.toNat-u.fParams.toNat)=u.fRegs.toNat by omega]
 rw[e1] at g0
 have hcb:∀r∈crU u,0≤r∧r<(zB u).length:=Ql (by simp) (oT hL).2
 have g1:=zjE u (spU u).1 (spU u).2 (crU u) (bY true (zB u) (crU u)) u.fRegs.toNat (by omega) (by omega) hF hLl (by rw[jY];simp) (fun r h0=>by
  have:=Hd r.toNat (crU u) (zB u) hcb
  rw[this,show(r.toNat:Int)=r by omega]
  constructor
  ·rintro(h|h)
   ·exact h
   ·exact absurd h (Sn _ _)
  ·exact .inl) hp0 (by omega) (by omega) u.fCode.length 0 (iZ u.fParams 0 u.fRegs.toNat) u.fParams (by omega) (by omega) (Fd _ _ _) hp0 (by omega)
 rw[show(F2 (spU u).1 u.fParams (u.fRegs.toNat-u.fParams.toNat) 0 u.fCode.length).foldl (asg (spU u).1 (spU u).2 (crU u)) (iZ u.fParams 0 u.fRegs.toNat,u.fParams)=homU u from rfl] at g1
 have e2:fzs (bM (live u))=bMr (live u):=zx7 _
 have e3:=G3 (bY true (zB u) (crU u))
 rw[aY Ic _ rfl,yA]
 clear e1 hcb
 simp only[wkH] at g0 g1
 generalize bY true (zB u) (crU u)=Cb at *
 generalize iZ u.fParams 0 u.fRegs.toNat=H at *
 generalize (spU u).1=F at *
 generalize (spU u).2=L at *
 generalize homU u=S at *
 obtain⟨S1,S2⟩:=S
 simp -implicitDefEqProofs (disch:=first|assumption|omega|(simp only[aE,aM,aF,i64,sa,aD,lm,la,lc,ln];omega)) only[go_sem,simprocAttr,h1,h2,h3,h4,e2,e3,g0,g1,cN]
end Go.Ev.G
