import Derived.Test.YtenclibcnjkamaaGreatEvPLiv5
import Derived.Test.YtenclibcnjkamaaGreatEvPSrt9
set_option linter.all false
namespace Go.Ev.G
set_option maxRecDepth 8000
set_option maxHeartbeats 4000000
theorem Kp(xs:List Int)(y:Int)(hx:xs.length≤140737488351232):∀(Bl:List Int) (j:Int),xs.drop j.toNat=Bl→0≤j →
  loopW tab [0,1,7,8] cV {env:=upd (upd (upd (upd emp 8 (some (I j))) 7 (some (I (xs.length:Int)))) 1 (some (I y))) 0 (some (.d (.r (aK xs)))),heap:=emp,fr:=0,next:=0} =
  if aR (fun x=>decide (x=y)) j Bl= -1 then some (.ext 0,{env:=emp,heap:=emp,fr:=0,next:=0}) else some (.ret,{env:=upd emp 4 (some (I (aR (fun x=>decide (x=y)) j Bl))),heap:=emp,fr:=0,next:=0})
 |[],j,hd,hj=>by
  have hh:=cN hd hj
  unfold loopW
  conv=>lhs;arg 1;unfold cV
  simp only[aR,if_true]
  simp -implicitDefEqProofs (disch:=first|assumption|omega) only[go_sem,simprocAttr,hh]
 |x::Bl,j,hd,hj=>by
  have hc:=bL hd hj
  have h4:=hc.2.1
  have h2:=eM (fun n=>[DI n]) hc.1
  have ih:=Kp xs y hx Bl (j+1) hc.2.2.1 (by omega)
  by_cases hp:x=y
  ·have hf:aR (fun x=>decide (x=y)) j (x::Bl)=j:=by rw[aR];exact if_pos (by simpa using hp)
   rw[hf,if_neg (by omega)]
   conv=>lhs;unfold loopW;arg 1;unfold cV
   simp -implicitDefEqProofs (disch:=first|assumption|omega) only[go_sem,simprocAttr,h2,h4,hp]
  ·have hf:aR (fun x=>decide (x=y)) j (x::Bl)=aR (fun x=>decide (x=y)) (j+1) Bl:=by rw[aR];exact if_neg (by simpa using hp)
   rw[hf,←ih]
   conv=>lhs;unfold loopW;arg 1;unfold cV
   simp -implicitDefEqProofs (disch:=first|assumption|omega) only[go_sem,simprocAttr,h2,h4,show ¬y=x from fun h=>hp h.symm]
theorem Ao{α:Type}(p:α→Bool):∀(xs:List α) (j:Int),0≤j→(aR p j xs= -1↔∀x∈xs,p x=false)
 |[],j,h=>by simp[aR]
 |x::xs,j,h=>by
  rw[aR]
  split
  ·rename_i hp
   constructor
   ·intro h;omega
   ·intro h;have:=h x (by simp);rw[hp] at this;simp at this
  ·rename_i hp
   rw[Ao p xs (j+1) (by omega)]
   simp[hp]
theorem zwd(xs:List Int)(y:Int)(hx:xs.length≤140737488351232):call tab i8 [.d (.r (aK xs)),I y]=some (I (aR (fun x=>decide (x=y)) 0 xs)):=by
 rw[aS tO _ rfl,lJ]
 have h0:=Kp xs y hx xs 0 rfl (by omega)
 by_cases hp:aR (fun x=>decide (x=y)) 0 xs= -1
 ·rw[if_pos hp] at h0
  simp -implicitDefEqProofs (disch:=first|assumption|omega) only[go_sem,simprocAttr,h0,hp]
 ·rw[if_neg hp] at h0
  simp -implicitDefEqProofs (disch:=first|assumption|omega) only[go_sem,simprocAttr,h0,hp]
theorem Dj(xs:List Int)(y:Int)(hx:xs.length≤140737488351232):call tab dY [.d (.r (aK xs)),I y]=some (B (decide (y∈xs))):=by
 rw[aS pX _ rfl,jW]
 have h0:=zwd xs y hx
 have h1:=mO (fun x=>decide (x=y)) xs 0 (by omega)
 have h2:=Ao (fun x=>decide (x=y)) xs 0 (by omega)
 have h3:decide (y∈xs)=decide (0≤aR (fun x=>decide (x=y)) 0 xs):=by
  rw[decide_eq_decide]
  constructor
  ·intro hm
   have:¬aR (fun x=>decide (x=y)) 0 xs= -1:=fun h=>by have:=h2.1 h y hm;simp at this
   omega
  ·intro h
   refine Classical.byContradiction fun hm=> ?_
   have:=h2.2 (fun x hx=>by simp;exact fun e=>hm (e ▸ hx))
   omega
 rw[h3]
 generalize aR (fun x=>decide (x=y)) 0 xs=k at *
 simp -implicitDefEqProofs (disch:=first|assumption|omega) only[go_sem,simprocAttr,h0]
theorem zjl(a b c:Bool):call tab gW [.d (.r (bR [a,b,c])),B false]=some (I (if a=false then 0 else if b=false then 1 else if c=false then 2 else -1)):=by
 rw[aS q7 _ rfl,j7]
 have l3:loopW tab [0,1,7,8] aU {env:=upd (upd (upd (upd emp 8 (some (I 3))) 7 (some (I 3))) 1 (some (B false))) 0 (some (.d (.r (bR [a,b,c])))),heap:=emp,fr:=0,next:=0}=some (.ext 0,{env:=emp,heap:=emp,fr:=0,next:=0}):=by
  unfold loopW
  conv=>lhs;arg 1;unfold aU
  simp -implicitDefEqProofs (disch:=first|assumption|omega) only[go_sem,simprocAttr,show(false==true)=false from rfl]
 have l2:loopW tab [0,1,7,8] aU {env:=upd (upd (upd (upd emp 8 (some (I 2))) 7 (some (I 3))) 1 (some (B false))) 0 (some (.d (.r (bR [a,b,c])))),heap:=emp,fr:=0,next:=0}=if c=false then some (.ret,{env:=upd emp 4 (some (I 2)),heap:=emp,fr:=0,next:=0}) else some (.ext 0,{env:=emp,heap:=emp,fr:=0,next:=0}):=by
  cases c<;>simp only[Bool.true_eq_false,if_true,if_false,bR,mc,mn] at l3 ⊢
  ·conv=>lhs;unfold loopW;arg 1;unfold aU
   simp -implicitDefEqProofs (disch:=first|assumption|omega) only[go_sem,simprocAttr,show(false==true)=false from rfl]
  ·rw[←l3]
   conv=>lhs;unfold loopW;arg 1;unfold aU
   simp -implicitDefEqProofs (disch:=first|assumption|omega) only[go_sem,simprocAttr,show(false==true)=false from rfl]
 have l1:loopW tab [0,1,7,8] aU {env:=upd (upd (upd (upd emp 8 (some (I 1))) 7 (some (I 3))) 1 (some (B false))) 0 (some (.d (.r (bR [a,b,c])))),heap:=emp,fr:=0,next:=0}=if b=false then some (.ret,{env:=upd emp 4 (some (I 1)),heap:=emp,fr:=0,next:=0}) else if c=false then some (.ret,{env:=upd emp 4 (some (I 2)),heap:=emp,fr:=0,next:=0}) else some (.ext 0,{env:=emp,heap:=emp,fr:=0,next:=0}):=by
  cases b<;>simp only[Bool.true_eq_false,if_true,if_false,bR,mc,mn] at l2 ⊢
  ·conv=>lhs;unfold loopW;arg 1;unfold aU
   simp -implicitDefEqProofs (disch:=first|assumption|omega) only[go_sem,simprocAttr,show(false==true)=false from rfl]
  ·rw[←l2]
   conv=>lhs;unfold loopW;arg 1;unfold aU
   simp -implicitDefEqProofs (disch:=first|assumption|omega) only[go_sem,simprocAttr,show(false==true)=false from rfl]
 have l0:loopW tab [0,1,7,8] aU {env:=upd (upd (upd (upd emp 8 (some (I 0))) 7 (some (I 3))) 1 (some (B false))) 0 (some (.d (.r (bR [a,b,c])))),heap:=emp,fr:=0,next:=0}=if a=false then some (.ret,{env:=upd emp 4 (some (I 0)),heap:=emp,fr:=0,next:=0}) else if b=false then some (.ret,{env:=upd emp 4 (some (I 1)),heap:=emp,fr:=0,next:=0}) else if c=false then some (.ret,{env:=upd emp 4 (some (I 2)),heap:=emp,fr:=0,next:=0}) else some (.ext 0,{env:=emp,heap:=emp,fr:=0,next:=0}):=by
  cases a<;>simp only[Bool.true_eq_false,if_true,if_false,bR,mc,mn] at l1 ⊢
  ·conv=>lhs;unfold loopW;arg 1;unfold aU
   simp -implicitDefEqProofs (disch:=first|assumption|omega) only[go_sem,simprocAttr,show(false==true)=false from rfl]
  ·rw[←l1]
   conv=>lhs;unfold loopW;arg 1;unfold aU
   simp -implicitDefEqProofs (disch:=first|assumption|omega) only[go_sem,simprocAttr,show(false==true)=false from rfl]
 simp only[bR,mc,mn] at l0 ⊢
 cases a<;>cases b<;>cases c<;>simp only[Bool.true_eq_false,if_true,if_false,bR,mc,mn] at l0 ⊢ <;> simp -implicitDefEqProofs (disch:=first|assumption|omega) only[go_sem,simprocAttr,l0]
theorem Yd(n:Int)(hn:n≤250):∀(k:Nat) (j:Int),n-j=k→0≤j →
  loopW tab [0,3,4] jJ {env:=upd (upd (upd emp 4 (some (I j))) 3 (some (.ref (0,0) []))) 0 (some (I n)),heap:=upd emp (0,0) (some (.s 1 (aK (List.replicate j.toNat (-1))))),fr:=0,next:=1} =
  some (.ext 0,{env:=upd emp 3 (some (.ref (0,0) [])),heap:=upd emp (0,0) (some (.s 1 (aK (List.replicate n.toNat (-1))))),fr:=0,next:=1})
 |0,j,hk,hj=>by
  have e:j=n:=by omega
  subst e
  unfold loopW
  conv=>lhs;arg 1;unfold jJ
  simp -implicitDefEqProofs (disch:=first|assumption|omega) only[go_sem,simprocAttr]
 |k+1,j,hk,hj=>by
  have ih:=Yd n hn k (j+1) (by omega) (by omega)
  rw[←ih]
  have hs:aK (List.replicate (j+1).toNat (-1))=aK (List.replicate j.toNat (-1))++[[DI (-1)]]:=by
   rw[show(j+1).toNat=j.toNat+1 by omega,List.replicate_succ']
   simp[aK]
  rw[hs]
  have hl:(aK (List.replicate j.toNat (-1))).length≤250:=by simp[aK];omega
  generalize aK (List.replicate j.toNat (-1))=W at *
  conv=>lhs;unfold loopW;arg 1;unfold jJ
  simp -implicitDefEqProofs (disch:=first|assumption|omega|(simp only[aI,aP,aH,i64,sa,aC,lm,la,lc,ln];omega)) only[go_sem,simprocAttr,show j<n by omega]
theorem Yu(n:Int)(h0:0≤n)(hn:n≤250):call tab lX [I n]=some (.d (.s 1 (aK (List.replicate n.toNat (-1))))):=by
 rw[aS E8 _ rfl,u7]
 have h:=Yd n hn n.toNat 0 (by omega) (by omega)
 rw[show(0:Int).toNat=0 from rfl,List.replicate_zero,aK,mn,aK] at h
 simp -implicitDefEqProofs (disch:=first|assumption|omega|(simp only[aI,aP,aH,i64,sa,aC,lm,la,lc,ln];omega)) only[go_sem,simprocAttr,h]
set_option maxRecDepth 8000
set_option maxHeartbeats 4000000
theorem zjr(n:Int)(h0:0≤n)(h1:n≤1000000000)(fr:Nat)(hh:fr=1):evCW tab j5 [.d (.s 1 []),I n] emp fr=some (.d (.s 1 []),emp):=by
 subst hh
 rw[dM uZ _ _ _ rfl,mE,Mc]
 have h:libS 3 {env:=iA 0 [.d (.s 1 []),I n],heap:=emp,fr:=1,next:=0}=some (.ret,{env:=upd emp 0 (some (.ref (1,0) [])),heap:=upd emp (1,0) (some (.s 1 [])),fr:=1,next:=0}):=by
  simp[libS,X6,zwn,iA,upd,h0,h1]
 rw[h]
 simp -implicitDefEqProofs (disch:=first|assumption|omega|(simp only[aI,aP,aH,i64,sa,aC,lm,la,lc,ln];omega)) only[go_sem,simprocAttr]
theorem pK(a:List Int):((aK a).all fun el=>el.length==1)=true:=by simp[aK]
abbrev r3(a b c:List Int):List (List D):=[[.r (aK a)],[.r (aK b)],[.r (aK c)]]
theorem zzL(a b c:List Int)(ha:a.length≤2000000)(hb:b.length≤2000000)(hc:c.length≤2000000) :
  loopW tab [0,3,9,10,11] bA {env:=upd (upd (upd (upd (upd emp 11 (some (I 0))) 10 (some (I 3))) 9 (some (.d (.r (r3 a b c))))) 3 (some (I 0))) 0 (some (.d (.r (r3 a b c)))),heap:=emp,fr:=0,next:=0} =
  some (.ext 0,{env:=upd (upd emp 3 (some (I (a.length+b.length+c.length:Int)))) 0 (some (.d (.r (r3 a b c)))),heap:=emp,fr:=0,next:=0}):=by
 have l3:loopW tab [0,3,9,10,11] bA {env:=upd (upd (upd (upd (upd emp 11 (some (I 3))) 10 (some (I 3))) 9 (some (.d (.r (r3 a b c))))) 3 (some (I (a.length+b.length+c.length:Int)))) 0 (some (.d (.r (r3 a b c)))),heap:=emp,fr:=0,next:=0} =
  some (.ext 0,{env:=upd (upd emp 3 (some (I (a.length+b.length+c.length:Int)))) 0 (some (.d (.r (r3 a b c)))),heap:=emp,fr:=0,next:=0}):=by
  unfold loopW
  conv=>lhs;arg 1;unfold bA
  simp -implicitDefEqProofs (disch:=first|assumption|omega) only[go_sem,simprocAttr]
 have l2:loopW tab [0,3,9,10,11] bA {env:=upd (upd (upd (upd (upd emp 11 (some (I 2))) 10 (some (I 3))) 9 (some (.d (.r (r3 a b c))))) 3 (some (I (a.length+b.length:Int)))) 0 (some (.d (.r (r3 a b c)))),heap:=emp,fr:=0,next:=0} =
  some (.ext 0,{env:=upd (upd emp 3 (some (I (a.length+b.length+c.length:Int)))) 0 (some (.d (.r (r3 a b c)))),heap:=emp,fr:=0,next:=0}):=by
  rw[←l3]
  conv=>lhs;unfold loopW;arg 1;unfold bA
  simp -implicitDefEqProofs (disch:=first|assumption|omega) only[go_sem,simprocAttr,aK,lm,show ¬(a.length+b.length+c.length:Int)<0 by omega]
 have l1:loopW tab [0,3,9,10,11] bA {env:=upd (upd (upd (upd (upd emp 11 (some (I 1))) 10 (some (I 3))) 9 (some (.d (.r (r3 a b c))))) 3 (some (I (a.length:Int)))) 0 (some (.d (.r (r3 a b c)))),heap:=emp,fr:=0,next:=0} =
  some (.ext 0,{env:=upd (upd emp 3 (some (I (a.length+b.length+c.length:Int)))) 0 (some (.d (.r (r3 a b c)))),heap:=emp,fr:=0,next:=0}):=by
  rw[←l2]
  conv=>lhs;unfold loopW;arg 1;unfold bA
  simp -implicitDefEqProofs (disch:=first|assumption|omega) only[go_sem,simprocAttr,aK,lm,show ¬(a.length+b.length:Int)<0 by omega]
 rw[←l1]
 conv=>lhs;unfold loopW;arg 1;unfold bA
 simp -implicitDefEqProofs (disch:=first|assumption|omega) only[go_sem,simprocAttr,aK,lm,show ¬(a.length:Int)<0 by omega,show(0:Int)+a.length=a.length by omega]
theorem zjA(a b c:List Int)(ha:a.length≤2000000)(hb:b.length≤2000000)(hc:c.length≤2000000) :
  loopW tab [6,25,26,27] a8 {env:=upd (upd (upd (upd emp 27 (some (I 0))) 26 (some (I 3))) 25 (some (.d (.r (r3 a b c))))) 6 (some (.ref (0,0) [])),heap:=upd emp (0,0) (some (.s 1 [])),fr:=0,next:=1} =
  some (.ext 2,{env:=upd emp 6 (some (.ref (0,0) [])),heap:=upd emp (0,0) (some (.s 1 (aK (a++b++c)))),fr:=0,next:=1}):=by
 have l3:loopW tab [6,25,26,27] a8 {env:=upd (upd (upd (upd emp 27 (some (I 3))) 26 (some (I 3))) 25 (some (.d (.r (r3 a b c))))) 6 (some (.ref (0,0) [])),heap:=upd emp (0,0) (some (.s 1 (aK (a++b++c)))),fr:=0,next:=1} =
  some (.ext 2,{env:=upd emp 6 (some (.ref (0,0) [])),heap:=upd emp (0,0) (some (.s 1 (aK (a++b++c)))),fr:=0,next:=1}):=by
  unfold loopW
  conv=>lhs;arg 1;unfold a8
  simp -implicitDefEqProofs (disch:=first|assumption|omega) only[go_sem,simprocAttr]
 have l2:loopW tab [6,25,26,27] a8 {env:=upd (upd (upd (upd emp 27 (some (I 2))) 26 (some (I 3))) 25 (some (.d (.r (r3 a b c))))) 6 (some (.ref (0,0) [])),heap:=upd emp (0,0) (some (.s 1 (aK (a++b)))),fr:=0,next:=1} =
  some (.ext 2,{env:=upd emp 6 (some (.ref (0,0) [])),heap:=upd emp (0,0) (some (.s 1 (aK (a++b++c)))),fr:=0,next:=1}):=by
  rw[←l3]
  have e:aK (a++b++c)=aK (a++b)++aK c:=by simp[aK]
  rw[e]
  have e1:(aK (a++b)).length≤4000000:=by simp[aK];omega
  have e2:(aK c).length≤2000000:=by simp[aK];omega
  have e3:=cO c
  have e4:=cO (a++b)
  generalize aK (a++b)=W at *
  conv=>lhs;unfold loopW;arg 1;unfold a8
  simp -implicitDefEqProofs (disch:=first|assumption|omega|(simp only[aI,aP,aH,i64,sa,aC,lm,la,lc,ln];omega)) only[go_sem,simprocAttr,wF,pK]
 have l1:loopW tab [6,25,26,27] a8 {env:=upd (upd (upd (upd emp 27 (some (I 1))) 26 (some (I 3))) 25 (some (.d (.r (r3 a b c))))) 6 (some (.ref (0,0) [])),heap:=upd emp (0,0) (some (.s 1 (aK a))),fr:=0,next:=1} =
  some (.ext 2,{env:=upd emp 6 (some (.ref (0,0) [])),heap:=upd emp (0,0) (some (.s 1 (aK (a++b++c)))),fr:=0,next:=1}):=by
  rw[←l2]
  have e:aK (a++b)=aK a++aK b:=by simp[aK]
  rw[e]
  have e1:(aK a).length≤4000000:=by simp[aK];omega
  have e2:(aK b).length≤2000000:=by simp[aK];omega
  conv=>lhs;unfold loopW;arg 1;unfold a8
  simp -implicitDefEqProofs (disch:=first|assumption|omega|(simp only[aI,aP,aH,i64,sa,aC,lm,la,lc,ln];omega)) only[go_sem,simprocAttr,wF,pK]
 rw[←l1]
 have e2:(aK a).length≤2000000:=by simp[aK];omega
 conv=>lhs;unfold loopW;arg 1;unfold a8
 simp -implicitDefEqProofs (disch:=first|assumption|omega|(simp only[aI,aP,aH,i64,sa,aC,lm,la,lc,ln];omega)) only[go_sem,simprocAttr,wF,pK]
theorem zq2(a b c:List Int)(ha:a.length≤2000000)(hb:b.length≤2000000)(hc:c.length≤2000000):call tab iH [.d (.r (r3 a b c))]=some (.d (.s 1 (aK (a++b++c)))):=by
 rw[aS sV _ rfl,lC]
 have h0:=zzL a b c ha hb hc
 have h1:=zjA a b c ha hb hc
 have h2:=zjr (a.length+b.length+c.length) (by omega) (by omega) 1 rfl
 simp -implicitDefEqProofs (disch:=first|assumption|omega|(simp only[aI,aP,aH,i64,sa,aC,lm,la,lc,ln];omega)) only[go_sem,simprocAttr,h0,h1,h2]
set_option maxRecDepth 8000
def pY(j:Int)(F:List Int)(ls:List Int):List Int:=ls.foldl (fun F r=>if aX F r<0 then F.set r.toNat j else F) F
def p6(j:Int)(L:List Int)(ls:List Int):List Int:=ls.foldl (fun L r=>L.set r.toNat j) L
theorem Bg(j:Int):∀(ls F:List Int),(pY j F ls).length=F.length
 |[],F=>rfl
 |r::ls,F=>by
  rw[pY,List.foldl_cons,←pY,Bg]
  split<;>simp
theorem Bh(j:Int):∀(ls L:List Int),(p6 j L ls).length=L.length
 |[],L=>rfl
 |r::ls,L=>by rw[p6,List.foldl_cons,←p6,Bh,List.length_set]
theorem Ah(j:Int)(hj:0≤j)(p:Nat):∀(ls F:List Int),(∀r∈ls,0≤r)→(pY j F ls)[p]? = F[p]?.map fun x=>if (p:Int)∈ls∧x<0 then j else x
 |[],F,h=>by simp[pY]
 |r::ls,F,h=>by
  have h0:=h r (by simp)
  rw[pY,List.foldl_cons,←pY,Ah j hj p ls _ (fun r hr=>h r (by simp[hr]))]
  cases hF:F[p]? with
  |none =>
   have:(if aX F r<0 then F.set r.toNat j else F)[p]? = none:=by
    rw[List.getElem?_eq_none_iff] at hF ⊢
    split<;>simpa using hF
   rw[this];rfl
  |some x =>
   by_cases e:r=p
   ·subst e
    have hg:aX F (p:Int)=x:=by simp[aX,hF]
    by_cases hx:x<0
    ·rw[if_pos (by rw[hg];exact hx),List.getElem?_set]
     have hp:p<F.length:=by
      refine Classical.byContradiction fun hn=> ?_
      rw[List.getElem?_eq_none (by omega)] at hF
      simp at hF
     simp only[Int.toNat_natCast,if_true,hp,oms,List.mem_cons,true_or,true_and,hx]
     have:¬j<0:=by omega
     simp[this]
    ·rw[if_neg (by rw[hg];exact hx),hF]
     simp[hx]
   ·have e2:(if aX F r<0 then F.set r.toNat j else F)[p]? = F[p]? := by
     split
     ·rw[List.getElem?_set,if_neg (by omega)]
     ·rfl
    rw[e2,hF]
    simp[show ¬(p:Int)=r by omega]
theorem Aw(j:Int)(p:Nat):∀(ls L:List Int),(∀r∈ls,0≤r)→(p6 j L ls)[p]? = L[p]?.map fun x=>if (p:Int)∈ls then j else x
 |[],F,h=>by simp[p6]
 |r::ls,F,h=>by
  have h0:=h r (by simp)
  rw[p6,List.foldl_cons,←p6,Aw j p ls _ (fun r hr=>h r (by simp[hr])),List.getElem?_set]
  by_cases e:r=p
  ·subst e
   simp only[Int.toNat_natCast,if_true,List.mem_cons,true_or]
   by_cases hp:p<F.length
   ·simp[hp]
   ·simp[hp]
  ·rw[if_neg (by omega)]
   simp[show ¬(p:Int)=r by omega]
theorem Ui{j:Int}(hj:0≤j){a b F:List Int}(ha:∀r∈a,0≤r)(hb:∀r∈b,0≤r)(h:∀p:Nat,(p:Int)∈a↔(p:Int)∈b):pY j F a=pY j F b :=
 List.ext_getElem? fun p=>by rw[Ah j hj p a F ha,Ah j hj p b F hb];simp only[h p]
theorem U0{j:Int}{a b F:List Int}(ha:∀r∈a,0≤r)(hb:∀r∈b,0≤r)(h:∀p:Nat,(p:Int)∈a↔(p:Int)∈b):p6 j F a=p6 j F b :=
 List.ext_getElem? fun p=>by rw[Aw j p a F ha,Aw j p b F hb];simp only[h p]
theorem Ka:∀(a:BL) (j r:Int),r∈iS a j↔j≤r∧a[(r-j).toNat]? = some true
 |[],j,r=>by simp[iS]
 |x::a,j,r=>by
  have ih:=Ka a (j+1) r
  have hh:∀k:Int,j+1≤k→(x::a)[(k-j).toNat]? = a[(k-(j+1)).toNat]? := fun k hk=>by
   rw[show(k-j).toNat=(k-(j+1)).toNat+1 by omega,List.getElem?_cons_succ]
  have hz:(x::a)[(j-j).toNat]? = some x:=by rw[show(j-j).toNat=0 by omega];rfl
  rw[iS]
  by_cases e:r=j
  ·subst e
   rw[hz]
   cases x
   ·simp only[Bool.false_eq_true,if_false,ih]
    constructor
    ·intro h;omega
    ·intro h;simp at h
   ·simp
  ·cases x
   ·simp only[Bool.false_eq_true,if_false,ih]
    constructor
    ·intro h;rw[hh r h.1];exact⟨by omega,h.2⟩
    ·intro h;rw[hh r (by omega)] at h;exact⟨by omega,h.2⟩
   ·simp only[if_true,List.mem_cons,e,false_or,ih]
    constructor
    ·intro h;rw[hh r h.1];exact⟨by omega,h.2⟩
    ·intro h;rw[hh r (by omega)] at h;exact⟨by omega,h.2⟩
theorem Cs(a:BL)(r:Int):r∈cU a↔0≤r∧a[r.toNat]? = some true:=by
 rw[cU,Ka];simp
theorem v8{a:BL}{r:Int}(h:r∈cU a):0≤r∧r<a.length:=by
 rw[Cs] at h
 refine⟨h.1,?_⟩
 refine Classical.byContradiction fun hn=> ?_
 rw[List.getElem?_eq_none (by omega)] at h
 simp at h
theorem K4:∀(a:BL) (j:Int),(iS a j).length≤a.length
 |[],j=>by simp[iS]
 |x::a,j=>by
  rw[iS]
  have:=K4 a (j+1)
  split<;>simp<;>omega
theorem Ck(a:BL):(cU a).length≤a.length:=K4 a 0
theorem Ca(p:Nat):∀(ls:List Int) (a:BL),(∀r∈ls,0≤r∧r<a.length)→((bH true a ls)[p]? = some true↔(p:Int)∈ls∨a[p]? = some true)
 |[],a,h=>by simp[bH]
 |r::ls,a,h=>by
  have h0:=h r (by simp)
  rw[bH,List.foldl_cons,←bH,Ca p ls _ (fun r hr=>by rw[List.length_set];exact h r (by simp[hr])),List.getElem?_set]
  by_cases e:r=p
  ·subst e
   simp;omega
  ·rw[if_neg (by omega)]
   simp[show ¬(p:Int)=r by omega]
def tY(t:ZA)(o:BL):List Int:=bP t++cD t++cU o
def jX:List ZA→List BL→Int→List Int×List Int→List Int×List Int
 |t::ts,o::os,j,P=>jX ts os (j+1) (pY j P.1 (tY t o),p6 j P.2 (tY t o))
 |_,_,_,P=>P
theorem Lg:∀(ts:List ZA) (os:List BL) (j:Int) (P:List Int×List Int),(jX ts os j P).1.length=P.1.length∧(jX ts os j P).2.length=P.2.length
 |[],_,j,P=>by simp[jX]
 |_::_,[],j,P=>by simp[jX]
 |t::ts,o::os,j,P=>by
  rw[jX]
  have:=Lg ts os (j+1) (pY j P.1 (tY t o),p6 j P.2 (tY t o))
  simp only[Bg,Bh] at this
  exact this
theorem zwu(t:ZA)(o:BL)(h:∀r∈bP t++cD t,0≤r∧r<o.length)(p:Nat):(p:Int)∈cU (bH true o (bP t++cD t))↔(p:Int)∈tY t o:=by
 rw[Cs,tY,List.mem_append,Cs]
 simp only[Int.natCast_nonneg,true_and,Int.toNat_natCast]
 exact Ca p _ _ h
def inJ(n:Int)(F:List Int):Prop:=∀x∈F,-1≤x∧x<n
theorem Yp{n:Int}{F:List Int}(h:inJ n F){p:Nat}{x:Int}(hx:F[p]? = some x): -1≤x∧x<n:=h x (List.mem_of_getElem? hx)
theorem zJs{n j:Int}(h0:0≤j)(h1:j<n){F:List Int}(hF:inJ n F){ls:List Int}(hl:∀r∈ls,0≤r):inJ n (pY j F ls):=fun x hx=>by
 obtain⟨p,hp⟩:=List.mem_iff_getElem?.1 hx
 rw[Ah j h0 p ls F hl] at hp
 cases e:F[p]? with
 |none=>rw[e] at hp;simp at hp
 |some y =>
  rw[e] at hp
  simp only[oms,oi] at hp
  have:=Yp hF e
  split at hp<;>omega
theorem zQx{n j:Int}(h0:0≤j)(h1:j<n){F:List Int}(hF:inJ n F){ls:List Int}(hl:∀r∈ls,0≤r):inJ n (p6 j F ls):=fun x hx=>by
 obtain⟨p,hp⟩:=List.mem_iff_getElem?.1 hx
 rw[Aw j p ls F hl] at hp
 cases e:F[p]? with
 |none=>rw[e] at hp;simp at hp
 |some y =>
  rw[e] at hp
  simp only[oms,oi] at hp
  have:=Yp hF e
  split at hp<;>omega
theorem Sh(n:Int)(m:Nat):∀(ts:List ZA) (os:List BL) (j:Int) (P:List Int×List Int),0≤j→j+ts.length≤n→(∀t∈ts,∀r∈bP t++cD t,0≤r)→inJ n P.1→inJ n P.2→inJ n (jX ts os j P).1∧inJ n (jX ts os j P).2
 |[],_,j,P,_,_,_,h1,h2=>by simp only[jX];exact⟨h1,h2⟩
 |_::_,[],j,P,_,_,_,h1,h2=>by simp only[jX];exact⟨h1,h2⟩
 |t::ts,o::os,j,P,h0,hn,ht,h1,h2=>by
  rw[jX]
  simp only[lc] at hn
  have hl:∀r∈tY t o,0≤r:=fun r hr=>by
   rcases List.mem_append.1 hr with h|h
   ·exact ht t (by simp) r h
   ·exact(v8 h).1
  exact Sh n m ts os (j+1) _ (by omega) (by omega) (fun t h=>ht t (by simp[h])) (zJs h0 (by omega) h1 hl) (zQx h0 (by omega) h2 hl)
noncomputable def spU (u:ZB):List Int×List Int:=jX u.fCode (live u) 0 (List.replicate u.fRegs.toNat (-1),List.replicate u.fRegs.toNat (-1))
set_option maxRecDepth 8000
set_option maxHeartbeats 4000000
abbrev spH(F L:List Int):Heap:=upd (upd emp (0,1) (some (.s 1 (aK L)))) (0,0) (some (.s 1 (aK F)))
theorem Kl(u:ZB)(m:Nat)(hm:m≤250):∀(k:Nat) (F L:List Int) (j:Int),j+k=m→0≤j→F.length=m→L.length=m→(∀x∈F.take j.toNat,x= -1)→(∀x∈L.take j.toNat,x= -1) →
  loopW tab [1,4,5,22,23] l7 {env:=upd (upd (upd (upd (upd emp 23 (some (I j))) 22 (some (I (m:Int)))) 5 (some (.ref (0,1) []))) 4 (some (.ref (0,0) []))) 1 (some (.vp [Str u.fName,I u.fParams,I u.fRegs,.d (.r (u.fCode.map ZA.r))])),heap:=spH F L,fr:=0,next:=2} =
  some (.ext 0,{env:=upd (upd (upd emp 5 (some (.ref (0,1) []))) 4 (some (.ref (0,0) []))) 1 (some (.vp [Str u.fName,I u.fParams,I u.fRegs,.d (.r (u.fCode.map ZA.r))])),heap:=spH (List.replicate m (-1)) (List.replicate m (-1)),fr:=0,next:=2})
 |0,F,L,j,hk,hj,hF,hL,h1,h2=>by
  have e1:F=List.replicate m (-1):=List.eq_replicate_iff.2 ⟨hF,fun x hx=>h1 x (by rw[List.take_of_length_le (by omega)];exact hx)⟩
  have e2:L=List.replicate m (-1):=List.eq_replicate_iff.2 ⟨hL,fun x hx=>h2 x (by rw[List.take_of_length_le (by omega)];exact hx)⟩
  rw[e1,e2]
  unfold loopW
  conv=>lhs;arg 1;unfold l7
  simp -implicitDefEqProofs (disch:=first|assumption|omega) only[go_sem,simprocAttr,show(m:Int)≤j by omega]
 |k+1,F,L,j,hk,hj,hF,hL,h1,h2=>by
  have ht:∀(A:List Int),A.length=m→(∀x∈A.take j.toNat,x= -1)→∀x∈(A.set j.toNat (-1)).take (j+1).toNat,x= -1:=fun A hA h x hx=>by
   rw[show(j+1).toNat=j.toNat+1 by omega,List.take_succ,List.take_set_of_le (Nat.le_refl _)] at hx
   rcases List.mem_append.1 hx with hx|hx
   ·exact h x hx
   ·simp[show j.toNat<A.length by omega] at hx;exact hx
  have ih:=Kl u m hm k (F.set j.toNat (-1)) (L.set j.toNat (-1)) (j+1) (by omega) (by omega) (by simp[hF]) (by simp[hL]) (ht F hF h1) (ht L hL h2)
  rw[←ih]
  have f1:(aK F).length=m:=by simp[aK,hF]
  have f2:(aK L).length=m:=by simp[aK,hL]
  have g1:=cS F j.toNat (-1)
  have g2:=cS L j.toNat (-1)
  have f3:=(bF (zs:=F) hj (by omega)).1
  have f4:=(bF (zs:=L) hj (by omega)).1
  generalize aX F j=z1 at *
  generalize aX L j=z2 at *
  conv=>lhs;unfold loopW;arg 1;unfold l7
  simp -implicitDefEqProofs (disch:=first|assumption|omega) only[go_sem,simprocAttr,show j<m by omega,f1,f2,f3,f4,g1,g2]
theorem Kk(C:List ZA)(N:List (List Int))(w:Int)(i:Int)(jj:Int)(m:Nat)(hm:m≤250)(hi:0≤i)(cs:List Int)(hcs:cs.length≤8000000)(hc:∀r∈cs,0≤r∧r<m):∀(Bl:List Int) (j:Int) (F L:List Int),cs.drop j.toNat=Bl→0≤j→F.length=m→L.length=m →
  loopW tab [4,5,7,8,36,37,38,52,53,54] lZ {env:=upd (upd (upd (upd (upd (upd (upd (upd (upd (upd emp 54 (some (I j))) 53 (some (I (cs.length:Int)))) 52 (some (.d (.r (aK cs))))) 38 (some (I jj))) 37 (some (I w))) 36 (some (.d (.r (C.map ZA.r))))) 8 (some (I i))) 7 (some (.d (.r (nMr N))))) 5 (some (.ref (0,1) []))) 4 (some (.ref (0,0) [])),heap:=spH F L,fr:=0,next:=2} =
  some (.ext 4,{env:=upd (upd (upd (upd (upd (upd emp 38 (some (I jj))) 37 (some (I w))) 36 (some (.d (.r (C.map ZA.r))))) 7 (some (.d (.r (nMr N))))) 5 (some (.ref (0,1) []))) 4 (some (.ref (0,0) [])),heap:=spH (pY i F Bl) (p6 i L Bl),fr:=0,next:=2})
 |[],j,F,L,hd,hj,hF,hL=>by
  have hh:=cN hd hj
  unfold loopW
  conv=>lhs;arg 1;unfold lZ
  simp -implicitDefEqProofs (disch:=first|assumption|omega) only[go_sem,simprocAttr,hh,pY,p6,List.foldl_nil]
 |r::Bl,j,F,L,hd,hj,hF,hL=>by
  have hc0:=bL hd hj
  have hr:=hc r hc0.2.2.2.1
  have h2:=eM (fun n=>[DI n]) hc0.1
  have h4:=hc0.2.1
  have ih:=Kk C N w i jj m hm hi cs hcs hc Bl (j+1) (if aX F r<0 then F.set r.toNat i else F) (L.set r.toNat i) hc0.2.2.1 (by omega) (by split<;>simp[hF]) (by simp[hL])
  rw[pY,p6,List.foldl_cons,List.foldl_cons,←pY,←p6,←ih]
  have f1:(aK F).length=m:=by simp[aK,hF]
  have f2:(aK L).length=m:=by simp[aK,hL]
  have f3:=(bF (zs:=F) hr.1 (by omega)).1
  have f5:=(bF (zs:=L) hr.1 (by omega)).1
  generalize aX L r=z3 at *
  have g2:=cS L r.toNat i
  have g1:=cS F r.toNat i
  have f4:(aK (F.set r.toNat i)).length=m:=by simp[aK,hF]
  obtain⟨hr1,hr2⟩:=hr
  conv=>lhs;unfold loopW;arg 1;unfold lZ
  by_cases hn:aX F r<0
  ·rw[if_pos hn]
   generalize aX F r=z at *
   simp -implicitDefEqProofs (disch:=first|assumption|omega) only[go_sem,simprocAttr,h2,h4,f1,f2,f3,f4,f5,g1,g2,hn]
  ·rw[if_neg hn]
   generalize aX F r=z at *
   simp -implicitDefEqProofs (disch:=first|assumption|omega) only[go_sem,simprocAttr,h2,h4,f1,f2,f3,f4,f5,g1,g2,hn]
theorem Lh(C:List ZA)(M:List BL)(m:Nat)(hm:m≤250)(hM:∀o∈M,o.length=m)(hMl:M.length=C.length)(hCl:C.length≤900)(hC:∀t∈C,t.sm∧∀r∈bP t++cD t,0≤r∧r<m):∀(Bl:List ZA) (Ml:List BL) (j:Int) (P:List Int×List Int),C.drop j.toNat=Bl→M.drop j.toNat=Ml→0≤j→P.1.length=m→P.2.length=m →
  loopW tab [4,5,7,36,37,38] l6 {env:=upd (upd (upd (upd (upd (upd emp 38 (some (I j))) 37 (some (I (C.length:Int)))) 36 (some (.d (.r (C.map ZA.r))))) 7 (some (.d (.r (nMr (M.map cU)))))) 5 (some (.ref (0,1) []))) 4 (some (.ref (0,0) [])),heap:=spH P.1 P.2,fr:=0,next:=2} =
  some (.ext 2,{env:=upd (upd emp 5 (some (.ref (0,1) []))) 4 (some (.ref (0,0) [])),heap:=spH (jX Bl Ml j P).1 (jX Bl Ml j P).2,fr:=0,next:=2})
 |[],Ml,j,P,hd,hd2,hj,hF,hL=>by
  have hh:=cN hd hj
  unfold loopW
  conv=>lhs;arg 1;unfold l6
  simp only[jX]
  simp -implicitDefEqProofs (disch:=first|assumption|omega) only[go_sem,simprocAttr,hh]
 |t::Bl,[],j,P,hd,hd2,hj,hF,hL=>by
  have h1:=(bL hd hj).2.1
  have h2:=cN hd2 hj
  omega
 |t::Bl,o::Ml,j,P,hd,hd2,hj,hF,hL=>by
  have hc:=bL hd hj
  have hc2:=bL hd2 hj
  obtain⟨ht1,ht2⟩:=hC t hc.2.2.2.1
  have ho:=hM o hc2.2.2.2.1
  have hnl:(cU o).length≤250:=by have:=Ck o;omega
  have hin:∀r∈tY t o,0≤r∧r<m:=fun r hr=>by
   rcases List.mem_append.1 hr with h|h
   ·exact ht2 r h
   ·have:=v8 h;omega
  have hsl:(bP t).length≤2000000:=by have:=lB t;omega
  have hul:(cD t).length≤2000000:=by have:=mL t;have:=ht1.2;omega
  have hcl:(tY t o).length≤8000000:=by rw[tY,la,la];omega
  have ih:=Lh C M m hm hM hMl hCl hC Bl Ml (j+1) (pY j P.1 (tY t o),p6 j P.2 (tY t o)) hc.2.2.1 hc2.2.2.1 (by omega) (by rw[Bg];exact hF) (by rw[Bh];exact hL)
  rw[jX,←ih]
  have g0:=Kk C (M.map cU) C.length j j m hm hj (tY t o) hcl hin (tY t o) 0 P.1 P.2 rfl (by omega) hF hL
  have h2:=eM ZA.r hc.1
  have h3:=eM (fun l=>[D.r (aK l)]) (eM cU hc2.1)
  have h4:=hc.2.1
  have h5:=zq2 (bP t) (cD t) (cU o) hsl hul (by omega)
  rw[show bP t++cD t++cU o=tY t o from rfl] at h5
  have g1:=n5 t
  have g2:=tB t ht1.2
  simp only[ZA.r] at h2
  generalize tY t o=cs at *
  generalize bP t=sl at *
  generalize cD t=ul at *
  generalize cU o=nl at *
  have e2:fzs [[D.r (aK sl)],[D.r (aK ul)],[D.r (aK nl)]]=[[D.r (aK sl)],[D.r (aK ul)],[D.r (aK nl)]]:=by simp[fzs,fzl,D.fz,cO]
  simp only[r3] at h5
  have e3:D.noR.noRss (aK cs)=true:=oI _ (fun n=>by simp[D.noR.noRs,D.noR]) cs
  have e1:(nMr (M.map cU)).length≤140737488351232:=by simp;omega
  conv=>lhs;unfold loopW;arg 1;unfold l6
  simp -implicitDefEqProofs (disch:=first|assumption|omega|(simp only[aI,aP,aH,i64,sa,aC,lm,la,lc,ln];omega)) only[go_sem,simprocAttr,h2,h3,h4,h5,g0,g1,g2,cO,e2,e3]
theorem oF{u:ZB}(h:(aV u).Least (live u)):(live u).length=u.fCode.length∧∀o∈live u,o.length=u.fRegs.toNat :=
 ⟨h.rows.len,fun a ha=>by
  obtain⟨k,hk,rfl⟩:=List.getElem_of_mem ha
  have:=h.rows.row k (by rw[←h.rows.len];exact hk)
  simp only[bB,List.getElem?_eq_getElem hk,Option.getD_some] at this
  exact this⟩
theorem Ge{u:ZB}(hr:Right u):∀t∈u.fCode,∀r∈bP t++cD t,0≤r∧r<u.fRegs:=fun t ht=>by
 obtain⟨k,hk,rfl⟩:=List.getElem_of_mem ht
 exact hr.rs k _ (List.getElem?_eq_getElem hk)
theorem Jf(u:ZB)(hs:u.sm)(hu:sT u=true):call tab zF [u.x]=some (.tup [.d (.s 1 (aK (spU u).1)),.d (.s 1 (aK (spU u).2))]):=by
 have hr:=mR hu
 obtain⟨I1,hI,hL,h1⟩:=lT u hr hs
 have h0:=lY u hs
 rw[hu] at h0
 have h2:=uO u hs hu
 obtain⟨l1,l2⟩:=oF hL
 have hl:=hr.len
 obtain⟨hr0,hr1⟩:=hr.regs
 have e1:(u.fRegs.toNat:Int)=u.fRegs:=by omega
 have g0:=Kl u u.fRegs.toNat (by omega) u.fRegs.toNat (List.replicate u.fRegs.toNat 0) (List.replicate u.fRegs.toNat 0) 0 (by omega) (by omega) (by simp) (by simp) (by simp) (by simp)
 have g2:=Lh u.fCode (live u) u.fRegs.toNat (by omega) l2 l1 (by omega) (fun t ht=>⟨hs.2.2 t ht,fun r hr0=>by have:=Ge hr t ht r hr0;omega⟩) u.fCode (live u) 0 (List.replicate u.fRegs.toNat (-1),List.replicate u.fRegs.toNat (-1)) rfl rfl (by omega) (by simp) (by simp)
 have e2:∀L,fzs (nM L)=nMr L:=fun L=>oE _ _ (fun l=>by simp only[fzl,D.fz,cO]) L
 have e3:(nMr ((live u).map cU)).length≤900:=by simp;omega
 rw[show jX u.fCode (live u) 0 (List.replicate u.fRegs.toNat (-1),List.replicate u.fRegs.toNat (-1))=spU u from rfl] at g2
 simp only[e1,spH] at g0 g2
 rw[aS Lu _ rfl,Bv]
 have e4:List.replicate u.fRegs.toNat [DI 0]=aK (List.replicate u.fRegs.toNat 0):=by simp[aK]
 generalize List.map cU (live u)=N at *
 simp -implicitDefEqProofs (disch:=first|assumption|omega|(simp only[aI,aP,aH,i64,sa,aC,lm,la,lc,ln];omega)) only[go_sem,simprocAttr,h0,h2,e2,e4,g0,g2]
set_option maxRecDepth 8000
set_option maxHeartbeats 4000000
abbrev zWL(F L:List Int)(b:BL):Heap:=upd (upd (upd emp (0,2) (some (.s 1 (bR b)))) (0,1) (some (.s 1 (aK L)))) (0,0) (some (.s 1 (aK F)))
abbrev zWw(F L:List Int)(b:BL)(cs:List Int):Heap:=upd (upd (upd (upd emp (0,3) (some (.s 1 (aK cs)))) (0,2) (some (.s 1 (bR b)))) (0,1) (some (.s 1 (aK L)))) (0,0) (some (.s 1 (aK F)))
abbrev uV(u:ZB):X:= .vp [Str u.fName,I u.fParams,I u.fRegs,.d (.r (u.fCode.map ZA.r))]
theorem Ki(u:ZB)(M:List BL)(F L:List Int)(i:Int)(m:Nat)(hm:m≤250)(cs:List Int)(hcs:cs.length≤8000000)(hc:∀r∈cs,0≤r∧r<m):∀(Bl:List Int) (j:Int) (b:BL),cs.drop j.toNat=Bl→0≤j→b.length=m →
  loopW tab [1,2,6,7,8,9,10,11] iW {env:=upd (upd (upd (upd (upd (upd (upd (upd emp 11 (some (I j))) 10 (some (.ref (0,3) []))) 9 (some (.ref (0,2) []))) 8 (some (I i))) 7 (some (.ref (0,1) []))) 6 (some (.ref (0,0) []))) 2 (some (uV u))) 1 (some (.d (.r (bMr M)))),heap:=zWw F L b cs,fr:=0,next:=4} =
  some (.ext 2,{env:=upd (upd (upd (upd (upd (upd emp 9 (some (.ref (0,2) []))) 8 (some (I i))) 7 (some (.ref (0,1) []))) 6 (some (.ref (0,0) []))) 2 (some (uV u))) 1 (some (.d (.r (bMr M)))),heap:=zWL F L (bH true b Bl),fr:=0,next:=3})
 |[],j,b,hd,hj,hb=>by
  have hh:=cN hd hj
  unfold loopW
  conv=>lhs;arg 1;unfold iW
  simp -implicitDefEqProofs (disch:=first|assumption|omega) only[go_sem,simprocAttr,hh,bH,List.foldl_nil]
 |r::Bl,j,b,hd,hj,hb=>by
  have hc0:=bL hd hj
  obtain⟨hr1,hr2⟩:=hc r hc0.2.2.2.1
  have h2:=eM (fun n=>[DI n]) hc0.1
  have h4:=hc0.2.1
  have ih:=Ki u M F L i m hm cs hcs hc Bl (j+1) (b.set r.toNat true) hc0.2.2.1 (by omega) (by simp[hb])
  rw[bH,List.foldl_cons,←bH,←ih]
  have f1:(bR b).length=m:=by simp[hb]
  have hlt:r.toNat<b.length:=by omega
  have f2:=iG (List.getElem?_eq_getElem hlt)
  have f3:=xB b r.toNat true
  conv=>lhs;unfold loopW;arg 1;unfold iW
  simp -implicitDefEqProofs (disch:=first|assumption|omega) only[go_sem,simprocAttr,h2,h4,f1,f2,f3]
theorem B5(u:ZB)(M:List BL)(i:Int)(hi:0≤i)(m:Nat)(hm:m≤250)(hu:u.fRegs=m)(b:BL)(hb:b.length=m):∀(Bl:BL) (j:Int) (F L:List Int),b.drop j.toNat=Bl→0≤j→F.length=m→L.length=m →
  loopW tab [1,2,6,7,8,9,12] fF {env:=upd (upd (upd (upd (upd (upd (upd emp 12 (some (I j))) 9 (some (.ref (0,2) []))) 8 (some (I i))) 7 (some (.ref (0,1) []))) 6 (some (.ref (0,0) []))) 2 (some (uV u))) 1 (some (.d (.r (bMr M)))),heap:=zWL F L b,fr:=0,next:=3} =
  some (.ext 4,{env:=upd (upd (upd (upd (upd emp 8 (some (I i))) 7 (some (.ref (0,1) []))) 6 (some (.ref (0,0) []))) 2 (some (uV u))) 1 (some (.d (.r (bMr M)))),heap:=spH (pY i F (iS Bl j)) (p6 i L (iS Bl j)),fr:=0,next:=2})
 |[],j,F,L,hd,hj,hF,hL=>by
  have hh:=cN hd hj
  unfold loopW
  conv=>lhs;arg 1;unfold fF
  simp -implicitDefEqProofs (disch:=first|assumption|omega) only[go_sem,simprocAttr,show u.fRegs≤j by omega,iS,pY,p6,List.foldl_nil]
 |false::Bl,j,F,L,hd,hj,hF,hL=>by
  have hc0:=bL hd hj
  have h2:=iG hc0.1
  have h4:=hc0.2.1
  have ih:=B5 u M i hi m hm hu b hb Bl (j+1) F L hc0.2.2.1 (by omega) hF hL
  rw[iS,if_neg (by simp),←ih]
  conv=>lhs;unfold loopW;arg 1;unfold fF
  simp -implicitDefEqProofs (disch:=first|assumption|omega) only[go_sem,simprocAttr,h2,show j<u.fRegs by omega]
 |true::Bl,j,F,L,hd,hj,hF,hL=>by
  have hc0:=bL hd hj
  have h2:=iG hc0.1
  have h4:=hc0.2.1
  have ih:=B5 u M i hi m hm hu b hb Bl (j+1) (if aX F j<0 then F.set j.toNat i else F) (L.set j.toNat i) hc0.2.2.1 (by omega) (by split<;>simp[hF]) (by simp[hL])
  rw[iS,if_pos rfl,pY,p6,List.foldl_cons,List.foldl_cons,←pY,←p6,←ih]
  have f1:(aK F).length=m:=by simp[aK,hF]
  have f2:(aK L).length=m:=by simp[aK,hL]
  have f3:=(bF (zs:=F) hj (by omega)).1
  have f5:=(bF (zs:=L) hj (by omega)).1
  have g2:=cS L j.toNat i
  have g1:=cS F j.toNat i
  have f4:(aK (F.set j.toNat i)).length=m:=by simp[aK,hF]
  generalize aX L j=z3 at *
  conv=>lhs;unfold loopW;arg 1;unfold fF
  by_cases hn:aX F j<0
  ·rw[if_pos hn]
   generalize aX F j=z at *
   simp -implicitDefEqProofs (disch:=first|assumption|omega) only[go_sem,simprocAttr,h2,f1,f2,f3,f4,f5,g1,g2,hn,show j<u.fRegs by omega]
  ·rw[if_neg hn]
   generalize aX F j=z at *
   simp -implicitDefEqProofs (disch:=first|assumption|omega) only[go_sem,simprocAttr,h2,f1,f2,f3,f4,f5,g1,g2,hn,show j<u.fRegs by omega]
theorem Ku(u:ZB)(M:List BL)(m:Nat)(hm:m≤250)(hu:u.fRegs=m)(hM:∀o∈M,o.length=m)(hMl:M.length=u.fCode.length)(hCl:u.fCode.length≤900)(hC:∀t∈u.fCode,t.sm∧∀r∈bP t++cD t,0≤r∧r<m):∀(Bl:List ZA) (Ml:List BL) (j:Int) (P:List Int×List Int),u.fCode.drop j.toNat=Bl→M.drop j.toNat=Ml→0≤j→P.1.length=m→P.2.length=m →
  loopW tab [1,2,6,7,8] iY {env:=upd (upd (upd (upd (upd emp 8 (some (I j))) 7 (some (.ref (0,1) []))) 6 (some (.ref (0,0) []))) 2 (some (uV u))) 1 (some (.d (.r (bMr M)))),heap:=spH P.1 P.2,fr:=0,next:=2} =
  some (.ext 0,{env:=upd (upd emp 7 (some (.ref (0,1) []))) 6 (some (.ref (0,0) [])),heap:=spH (jX Bl Ml j P).1 (jX Bl Ml j P).2,fr:=0,next:=2})
 |[],Ml,j,P,hd,hd2,hj,hF,hL=>by
  have hh:=cN hd hj
  unfold loopW
  conv=>lhs;arg 1;unfold iY
  simp only[jX]
  simp -implicitDefEqProofs (disch:=first|assumption|omega) only[go_sem,simprocAttr,hh]
 |t::Bl,[],j,P,hd,hd2,hj,hF,hL=>by
  have h1:=(bL hd hj).2.1
  have h2:=cN hd2 hj
  omega
 |t::Bl,o::Ml,j,P,hd,hd2,hj,hF,hL=>by
  have hc:=bL hd hj
  have hc2:=bL hd2 hj
  obtain⟨ht1,ht2⟩:=hC t hc.2.2.2.1
  have ho:=hM o hc2.2.2.2.1
  have hin:∀r∈tY t o,0≤r∧r<m:=fun r hr=>by
   rcases List.mem_append.1 hr with h|h
   ·exact ht2 r h
   ·have:=v8 h;omega
  have hsl:(bP t).length≤2000000:=by have:=lB t;omega
  have hul:(cD t).length≤2000000:=by have:=mL t;have:=ht1.2;omega
  have ih:=Ku u M m hm hu hM hMl hCl hC Bl Ml (j+1) (pY j P.1 (tY t o),p6 j P.2 (tY t o)) hc.2.2.1 hc2.2.2.1 (by omega) (by rw[Bg];exact hF) (by rw[Bh];exact hL)
  have hcl:(bP t++cD t).length≤8000000:=by rw[la];omega
  have hbl:(bH true o (bP t++cD t)).length=m:=by rw[iC];exact ho
  have g0:=Ki u M P.1 P.2 j m hm (bP t++cD t) hcl ht2 (bP t++cD t) 0 o rfl (by omega) ho
  have g1:=B5 u M j hj m hm hu (bH true o (bP t++cD t)) hbl (bH true o (bP t++cD t)) 0 P.1 P.2 rfl (by omega) hF hL
  have hbit:=zwu t o (fun r hr=>by have:=ht2 r hr;omega)
  have hnn:∀r∈cU (bH true o (bP t++cD t)),0≤r:=fun r hr=>(v8 hr).1
  have eF:=Ui (F:=P.1) hj hnn (fun r hr=>(hin r hr).1) hbit
  have eL:=U0 (j:=j) (F:=P.2) hnn (fun r hr=>(hin r hr).1) hbit
  rw[←cU,eF,eL] at g1
  rw[jX,←ih]
  have h2:=eM ZA.r hc.1
  have h3:=eM (fun a=>[D.r (bR a)]) hc2.1
  have h4:=hc.2.1
  have s1:=n7 t
  have s2:=tQ t ht1.2
  simp only[ZA.r] at h2
  have e5:aK (bP t++cD t)=aK (bP t)++aK (cD t):=by simp[aK]
  simp only[zWw,e5] at g0
  have e1:(bMr M).length≤900:=by simp;omega
  have e6:(bR o).length≤250:=by simp;omega
  have e7:(aK (bP t)).length≤2000000:=by simp[aK];exact hsl
  have e8:(aK (cD t)).length≤2000000:=by simp[aK];exact hul
  have a1:=pK (cD t)
  have a2:((bR o).all fun el=>el.length==1)=true:=by simp
  have a3:=Wi o
  have a4:=wF (cD t)
  have a5:=Cq o
  conv=>lhs;unfold loopW;arg 1;unfold iY
  simp -implicitDefEqProofs (disch:=first|assumption|omega|(simp only[aI,aP,aH,i64,sa,aC,lm,la,lc,ln];omega)) only[go_sem,simprocAttr,h2,h3,h4,g0,g1,s1,s2,cO,e1,a1,a2,a3,a4,a5]
theorem By(u:ZB)(hs:u.sm)(hr:Right u)(hL:(aV u).Least (live u)):call tab rE [u.x,.d (.r (bMr (live u)))]=some (.tup [.d (.s 1 (aK (spU u).1)),.d (.s 1 (aK (spU u).2))]):=by
 obtain⟨l1,l2⟩:=oF hL
 have hl:=hr.len
 obtain⟨hr0,hr1⟩:=hr.regs
 have e1:(u.fRegs.toNat:Int)=u.fRegs:=by omega
 have g0:=Yu u.fRegs hr0 hr1
 have g2:=Ku u (live u) u.fRegs.toNat (by omega) (by omega) l2 l1 (by omega) (fun t ht=>⟨hs.2.2 t ht,fun r hr0=>by have:=Ge hr t ht r hr0;omega⟩) u.fCode (live u) 0 (List.replicate u.fRegs.toNat (-1),List.replicate u.fRegs.toNat (-1)) rfl rfl (by omega) (by simp) (by simp)
 rw[show jX u.fCode (live u) 0 (List.replicate u.fRegs.toNat (-1),List.replicate u.fRegs.toNat (-1))=spU u from rfl] at g2
 simp only[spH] at g2
 rw[aS D4 _ rfl,uW]
 simp -implicitDefEqProofs (disch:=first|assumption|omega|(simp only[aI,aP,aH,i64,sa,aC,lm,la,lc,ln];omega)) only[go_sem,simprocAttr,g0,g2]
set_option maxRecDepth 8000
set_option maxHeartbeats 4000000
def tC(t:ZA)(o:BL):List Int:=if t.fOp=11∨t.fOp=27 then(cU o).filter fun r=> !decide (r∈bP t) else []
def iI:List ZA→List BL→List Int
 |t::ts,o::os=>tC t o++iI ts os
 |_,_=>[]
noncomputable def crU (u:ZB):List Int:=iI u.fCode (live u)
theorem Fm(t:ZA)(o:BL):(tC t o).length≤o.length:=by
 rw[tC]
 split
 ·exact Nat.le_trans (List.length_filter_le _ _) (Ck o)
 ·simp
theorem Hf(m:Nat):∀(ts:List ZA) (os:List BL),(∀o∈os,o.length=m)→(iI ts os).length≤ts.length*m
 |[],_,_=>by simp[iI]
 |_::_,[],_=>by simp[iI]
 |t::ts,o::os,h=>by
  rw[iI,la,lc,Nat.add_one_mul]
  have:=Hf m ts os (fun o ho=>h o (by simp[ho]))
  have:=Fm t o
  have:=h o (by simp)
  omega
theorem zqV(zs:List Int)(x:Int):x∈d9 1 zs↔x∈zs:=by
 simp[d9]
theorem C1(u:ZB)(t:ZA)(N:List (List Int))(w jj:Int)(cs:List Int)(hcs:cs.length≤250):∀(Bl:List Int) (j:Int) (A:List Int),cs.drop j.toNat=Bl→0≤j→A.length≤1000000+j →
  loopW tab [1,3,6,14,15,16,34,35,36] gG {env:=upd (upd (upd (upd (upd (upd (upd (upd (upd emp 36 (some (I j))) 35 (some (I (cs.length:Int)))) 34 (some (.d (.r (aK cs))))) 16 (some (I jj))) 15 (some (I w))) 14 (some (.d (.r (nMr N))))) 6 (some (.ptr (0,1) [] 0 0))) 3 (some (.ref (0,0) []))) 1 (some (uV u)),heap:=upd (upd emp (0,1) (some (.s 7 [t.r]))) (0,0) (some (.s 1 (aK A))),fr:=0,next:=2} =
  some (.ext 2,{env:=upd (upd (upd (upd (upd emp 16 (some (I jj))) 15 (some (I w))) 14 (some (.d (.r (nMr N))))) 3 (some (.ref (0,0) []))) 1 (some (uV u)),heap:=upd emp (0,0) (some (.s 1 (aK (A++Bl.filter fun r=> !decide (r∈bP t))))),fr:=0,next:=1})
 |[],j,A,hd,hj,hA=>by
  have hh:=cN hd hj
  unfold loopW
  conv=>lhs;arg 1;unfold gG
  simp -implicitDefEqProofs (disch:=first|assumption|omega) only[go_sem,simprocAttr,hh,List.filter_nil,List.append_nil]
 |r::Bl,j,A,hd,hj,hA=>by
  have hc:=bL hd hj
  have h2:=eM (fun n=>[DI n]) hc.1
  have h4:=hc.2.1
  have g1:=n5 t
  have g2:=Dj (bP t) r (by have:=lB t;omega)
  simp only[ZA.r]
  by_cases hm:r∈bP t
  ·have ih:=C1 u t N w jj cs hcs Bl (j+1) A hc.2.2.1 (by omega) (by omega)
   rw[List.filter_cons,if_neg (by simp[hm]),←ih]
   rw[decide_eq_true hm] at g2
   simp only[ZA.r]
   conv=>lhs;unfold loopW;arg 1;unfold gG
   simp -implicitDefEqProofs (disch:=first|assumption|omega|(simp only[aI,aP,aH,i64,sa,aC,lm,la,lc,ln];omega)) only[go_sem,simprocAttr,h2,h4,g1,g2,cO]
  ·have ih:=C1 u t N w jj cs hcs Bl (j+1) (A++[r]) hc.2.2.1 (by omega) (by simp;omega)
   rw[List.filter_cons,if_pos (by simp[hm]),show A++r::Bl.filter (fun r=> !decide (r∈bP t))=(A++[r])++Bl.filter (fun r=> !decide (r∈bP t)) by simp,←ih]
   rw[decide_eq_false hm] at g2
   simp only[ZA.r]
   have e1:aK (A++[r])=aK A++[[DI r]]:=by simp[aK]
   have e2:(aK A).length≤1000000+j:=by simp[aK];omega
   rw[e1]
   generalize aK A=W at *
   conv=>lhs;unfold loopW;arg 1;unfold gG
   simp -implicitDefEqProofs (disch:=first|assumption|omega|(simp only[aI,aP,aH,i64,sa,aC,lm,la,lc,ln];omega)) only[go_sem,simprocAttr,h2,h4,g1,g2,cO]
theorem K7(u:ZB)(M:List BL)(m:Nat)(hm:m≤250)(hM:∀o∈M,o.length=m)(hMl:M.length=u.fCode.length)(hCl:u.fCode.length≤900)(hC:∀t∈u.fCode,t.sm):∀(Bl:List ZA) (Ml:List BL) (j:Int) (A:List Int),u.fCode.drop j.toNat=Bl→M.drop j.toNat=Ml→0≤j→A.length≤j*250 →
  loopW tab [1,3,14,15,16] jO {env:=upd (upd (upd (upd (upd emp 16 (some (I j))) 15 (some (I (u.fCode.length:Int)))) 14 (some (.d (.r (nMr (M.map cU)))))) 3 (some (.ref (0,0) []))) 1 (some (uV u)),heap:=upd emp (0,0) (some (.s 1 (aK A))),fr:=0,next:=1} =
  some (.ext 0,{env:=upd emp 3 (some (.ref (0,0) [])),heap:=upd emp (0,0) (some (.s 1 (aK (A++iI Bl Ml)))),fr:=0,next:=1})
 |[],Ml,j,A,hd,hd2,hj,hA=>by
  have hh:=cN hd hj
  unfold loopW
  conv=>lhs;arg 1;unfold jO
  simp only[iI]
  simp -implicitDefEqProofs (disch:=first|assumption|omega) only[go_sem,simprocAttr,hh,List.append_nil]
 |t::Bl,[],j,A,hd,hd2,hj,hA=>by
  have h1:=(bL hd hj).2.1
  have h2:=cN hd2 hj
  omega
 |t::Bl,o::Ml,j,A,hd,hd2,hj,hA=>by
  have hc:=bL hd hj
  have hc2:=bL hd2 hj
  have ho:=hM o hc2.2.2.2.1
  have hcl:=Fm t o
  have hnl:=Ck o
  have ih:=K7 u M m hm hM hMl hCl hC Bl Ml (j+1) (A++tC t o) hc.2.2.1 hc2.2.2.1 (by omega) (by rw[la];omega)
  have h4:=hc.2.1
  have g0:=C1 u t (M.map cU) u.fCode.length j (cU o) (by omega) (cU o) 0 A rfl (by omega) (by omega)
  rw[iI,←List.append_assoc,←ih]
  have h2:=eM ZA.r hc.1
  have h3:=eM (fun l=>[D.r (aK l)]) (eM cU hc2.1)
  simp only[ZA.r] at h2 g0
  have e1:(nMr (M.map cU)).length≤900:=by simp;omega
  rw[tC]
  have e2:j<((M.map cU).length:Int):=by simp;omega
  generalize M.map cU=N at *
  conv=>lhs;unfold loopW;arg 1;unfold jO
  by_cases h11:t.fOp=11
  ·rw[if_pos (.inl h11)]
   rw[h11] at g0
   generalize cU o=nl at *
   simp -implicitDefEqProofs (disch:=first|assumption|omega|(simp only[aI,aP,aH,i64,sa,aC,lm,la,lc,ln];omega)) only[go_sem,simprocAttr,h2,h3,h4,e2,g0,h11,show ¬(27:Int)=11 by omega]
  ·by_cases h27:t.fOp=27
   ·rw[if_pos (.inr h27)]
    rw[h27] at g0
    generalize cU o=nl at *
    simp -implicitDefEqProofs (disch:=first|assumption|omega|(simp only[aI,aP,aH,i64,sa,aC,lm,la,lc,ln];omega)) only[go_sem,simprocAttr,h2,h3,h4,e2,g0,h11,h27,show ¬(27:Int)=11 by omega]
   ·rw[if_neg (by simp[h11,h27]),List.append_nil]
    generalize cU o=nl at *
    simp -implicitDefEqProofs (disch:=first|assumption|omega|(simp only[aI,aP,aH,i64,sa,aC,lm,la,lc,ln];omega)) only[go_sem,simprocAttr,h2,h3,h4,e2,h11,h27]
set_option maxRecDepth 8000
set_option maxHeartbeats 4000000
theorem zxE(zs:List Int)(x:Int):x∈xL zs↔x∈zs:=by
 unfold xL
 simp only[List.mem_map,List.mem_filter,List.mem_range]
 constructor
 ·rintro ⟨j,⟨h1,h2⟩,rfl⟩
  rw[getElem!_pos zs j h1]
  exact List.getElem_mem h1
 ·intro h
  obtain⟨j,hj,rfl⟩:=List.getElem_of_mem h
  have key:∀(j:Nat) (hj:j<zs.length),∃a,(a<zs.length∧z6 zs a=true)∧zs[a]! = zs[j]:=by
   intro j
   induction j with
   |zero=>intro hj;exact⟨0,⟨hj,by simp[z6]⟩,getElem!_pos zs 0 hj⟩
   |succ j ih =>
    intro hj
    by_cases e:zs[j+1]! = zs[j]!
    ·obtain⟨a,h1,h2⟩:=ih (by omega)
     exact⟨a,h1,by rw[h2,←getElem!_pos zs j (by omega),←e,getElem!_pos zs (j+1) hj]⟩
    ·exact⟨j+1,⟨hj,by unfold z6;exact decide_eq_true (.inr e)⟩,getElem!_pos zs (j+1) hj⟩
  exact key j hj
theorem zq7(zs:List Int):(xL zs).length≤zs.length:=by
 unfold xL
 rw[lm]
 exact Nat.le_trans (List.length_filter_le _ _) (by simp)
noncomputable def crS (u:ZB):List Int:=d9 2 (d9 1 (crU u))
theorem zJY(u:ZB)(x:Int):x∈crS u↔x∈crU u:=by
 rw[crS,show d9 2 (d9 1 (crU u))=xL (d9 1 (crU u)) from rfl,zxE,zqV]
theorem zJj(u:ZB):(crS u).length≤(crU u).length:=by
 rw[crS,show d9 2 (d9 1 (crU u))=xL (d9 1 (crU u)) from rfl]
 refine Nat.le_trans (zq7 _) ?_
 simp[d9]
theorem Zg{u:ZB}(hr:Right u)(hL:(aV u).Least (live u)):(crU u).length≤225000:=by
 obtain⟨l1,l2⟩:=oF hL
 have:=Hf u.fRegs.toNat u.fCode (live u) l2
 have h1:=hr.regs
 have h2:=hr.len
 rw[crU]
 refine Nat.le_trans this (Nat.le_trans (Nat.mul_le_mul (show u.fCode.length≤900 by omega) (show u.fRegs.toNat≤250 by omega)) (by omega))
theorem D3(u:ZB)(hs:u.sm)(hu:sT u=true):call tab uC [u.x]=some (.d (.s 1 (aK (crS u)))):=by
 have hr:=mR hu
 obtain⟨I1,hI,hL,h1⟩:=lT u hr hs
 have h0:=lY u hs
 rw[hu] at h0
 have h2:=uO u hs hu
 obtain⟨l1,l2⟩:=oF hL
 have hl:=hr.len
 obtain⟨hr0,hr1⟩:=hr.regs
 have g2:=K7 u (live u) u.fRegs.toNat (by omega) l2 l1 (by omega) hs.2.2 u.fCode (live u) 0 [] rfl rfl (by omega) (by simp)
 rw[List.nil_append,show iI u.fCode (live u)=crU u from rfl] at g2
 have e2:∀L,fzs (nM L)=nMr L:=fun L=>oE _ _ (fun l=>by simp only[fzl,D.fz,cO]) L
 have e3:(((live u).map cU).length:Int)=u.fCode.length:=by simp;omega
 have e5:(nMr ((live u).map cU)).length=u.fCode.length:=by simp;omega
 have hcl:=Zg hr hL
 have s0:=oG (crU u) (by omega)
 have p0:=gO (d9 1 (crU u)) (by simp[d9];omega)
 rw[show d9 2 (d9 1 (crU u))=crS u from rfl] at p0
 rw[show aK []=[] from rfl] at g2
 generalize List.map cU (live u)=N at *
 generalize crU u=zs at *
 generalize d9 1 zs=z1 at *
 generalize crS u=z2 at *
 rw[aS Hl _ rfl,vK]
 simp -implicitDefEqProofs (disch:=first|assumption|omega|(simp only[aI,aP,aH,i64,sa,aC,lm,la,lc,ln];omega)) only[go_sem,simprocAttr,h0,h2,e2,e3,e5,g2,s0,p0]
theorem Ww(t:ZA)(h:t.fOp=11∨t.fOp=27):∃b:Bool,bP t=if b=true then [t.fD] else []:=by
 refine⟨hb t 1,?_⟩
 rw[bP,if_neg (show ¬t.fOp=19 by omega),List.append_nil]
theorem xX(u:ZB)(t:ZA)(M:List BL)(i:Int)(h0:0≤i)(o:BL)(ho:M[i.toNat]? = some o)(m:Nat)(hm:m≤250)(hol:o.length=m)(hu:u.fRegs=m)(sl:List Int)(hsl:sl=[]∨∃d,sl=[d]):∀(Bl:BL) (j:Int) (C:BL),o.drop j.toNat=Bl→0≤j→C.length=m →
  loopW tab [1,2,5,6,8,9] d8 {env:=upd (upd (upd (upd (upd (upd emp 9 (some (I j))) 8 (some (.d (.r (aK sl))))) 6 (some (I i))) 5 (some (.ref (0,0) []))) 2 (some (uV u))) 1 (some (.d (.r (bMr M)))),heap:=upd emp (0,0) (some (.s 1 (bR C))),fr:=0,next:=1} =
  some (.ext 2,{env:=upd (upd (upd (upd emp 6 (some (I i))) 5 (some (.ref (0,0) []))) 2 (some (uV u))) 1 (some (.d (.r (bMr M)))),heap:=upd emp (0,0) (some (.s 1 (bR (bH true C ((iS Bl j).filter fun r=> !decide (r∈sl)))))),fr:=0,next:=1})
 |[],j,C,hd,hj,hC=>by
  have hh:=cN hd hj
  unfold loopW
  conv=>lhs;arg 1;unfold d8
  simp -implicitDefEqProofs (disch:=first|assumption|omega) only[go_sem,simprocAttr,show u.fRegs≤j by omega,iS,bH,List.foldl_nil,List.filter_nil]
 |false::Bl,j,C,hd,hj,hC=>by
  have hc:=bL hd hj
  have h2:=iG hc.1
  have h4:=hc.2.1
  have h3:=eM (fun a=>[D.r (bR a)]) ho
  have hil:i<M.length:=by have:=(List.getElem?_eq_some_iff.1 ho).1;omega
  have ih:=xX u t M i h0 o ho m hm hol hu sl hsl Bl (j+1) C hc.2.2.1 (by omega) hC
  rw[iS,if_neg (by simp),←ih]
  conv=>lhs;unfold loopW;arg 1;unfold d8
  simp -implicitDefEqProofs (disch:=first|assumption|omega) only[go_sem,simprocAttr,h2,h3,h4,hil,show j<u.fRegs by omega]
 |true::Bl,j,C,hd,hj,hC=>by
  have hc:=bL hd hj
  have h2:=iG hc.1
  have h4:=hc.2.1
  have h3:=eM (fun a=>[D.r (bR a)]) ho
  have hil:i<M.length:=by have:=(List.getElem?_eq_some_iff.1 ho).1;omega
  have hlt:j.toNat<C.length:=by omega
  have f2:=iG (List.getElem?_eq_getElem hlt)
  have f3:=xB C j.toNat true
  rw[iS,if_pos rfl,List.filter_cons]
  have ih1:=xX u t M i h0 o ho m hm hol hu sl hsl Bl (j+1) C hc.2.2.1 (by omega) hC
  have ih2:=xX u t M i h0 o ho m hm hol hu sl hsl Bl (j+1) (C.set j.toNat true) hc.2.2.1 (by omega) (by simp[hC])
  conv=>lhs;unfold loopW;arg 1;unfold d8
  have f1:(bR C).length=m:=by simp[hC]
  rcases hsl with rfl|⟨d,rfl⟩
  ·rw[if_pos (by simp),bH,List.foldl_cons,←bH,←ih2]
   simp -implicitDefEqProofs (disch:=first|assumption|omega) only[go_sem,simprocAttr,h2,h3,h4,f1,f2,f3,hil,show j<u.fRegs by omega,aK,mn]
  ·by_cases e:j=d
   ·subst e
    rw[if_neg (by simp),←ih1]
    simp -implicitDefEqProofs (disch:=first|assumption|omega) only[go_sem,simprocAttr,h2,h3,h4,hil,show j<u.fRegs by omega,aK,mn,mc]
   ·rw[if_pos (by simp[e]),bH,List.foldl_cons,←bH,←ih2]
    simp -implicitDefEqProofs (disch:=first|assumption|omega) only[go_sem,simprocAttr,h2,h3,h4,f1,f2,f3,hil,show j<u.fRegs by omega,aK,mn,mc,e,show ¬d=j from fun h=>e h.symm]
theorem zz4(v:Bool)(a:BL)(k l':List Int):bH v a (k++l')=bH v (bH v a k) l':=by simp[bH,List.foldl_append]
theorem Kg(u:ZB)(M:List BL)(m:Nat)(hm:m≤250)(hu:u.fRegs=m)(hM:∀o∈M,o.length=m)(hMl:M.length=u.fCode.length)(hCl:u.fCode.length≤900):∀(Bl:List ZA) (Ml:List BL) (j:Int) (C:BL),u.fCode.drop j.toNat=Bl→M.drop j.toNat=Ml→0≤j→C.length=m →
  loopW tab [1,2,5,6] d6 {env:=upd (upd (upd (upd emp 6 (some (I j))) 5 (some (.ref (0,0) []))) 2 (some (uV u))) 1 (some (.d (.r (bMr M)))),heap:=upd emp (0,0) (some (.s 1 (bR C))),fr:=0,next:=1} =
  some (.ext 0,{env:=upd emp 5 (some (.ref (0,0) [])),heap:=upd emp (0,0) (some (.s 1 (bR (bH true C (iI Bl Ml))))),fr:=0,next:=1})
 |[],Ml,j,C,hd,hd2,hj,hC=>by
  have hh:=cN hd hj
  unfold loopW
  conv=>lhs;arg 1;unfold d6
  simp only[iI]
  simp -implicitDefEqProofs (disch:=first|assumption|omega) only[go_sem,simprocAttr,hh,bH,List.foldl_nil]
 |t::Bl,[],j,C,hd,hd2,hj,hC=>by
  have h1:=(bL hd hj).2.1
  have h2:=cN hd2 hj
  omega
 |t::Bl,o::Ml,j,C,hd,hd2,hj,hC=>by
  have hc:=bL hd hj
  have hc2:=bL hd2 hj
  have ho:=hM o hc2.2.2.2.1
  have ih:=Kg u M m hm hu hM hMl hCl Bl Ml (j+1) (bH true C (tC t o)) hc.2.2.1 hc2.2.2.1 (by omega) (by rw[iC];exact hC)
  have h4:=hc.2.1
  have h2:=eM ZA.r hc.1
  have g1:=n7 t
  simp only[ZA.r] at h2
  rw[iI,zz4,←ih]
  rw[tC]
  by_cases h11:t.fOp=11∨t.fOp=27
  ·obtain⟨b0,hb0⟩:=Ww t h11
   have hsl:bP t=[]∨∃d,bP t=[d]:=by
    rw[hb0];cases b0
    ·exact .inl rfl
    ·exact .inr ⟨_,rfl⟩
   have g0:=xX u t M j hj o hc2.1 m hm ho hu (bP t) hsl o 0 C rfl (by omega) hC
   rw[if_pos h11,cU]
   clear hb0
   generalize bP t=sl at *
   conv=>lhs;unfold loopW;arg 1;unfold d6
   rcases h11 with h11|h27
   ·rw[h11] at h2
    have g1':=g1
    simp only[ZA.x,h11] at g1'
    simp -implicitDefEqProofs (disch:=first|assumption|omega|(simp only[aI,aP,aH,i64,sa,aC,lm,la,lc,ln];omega)) only[go_sem,simprocAttr,h2,h4,g0,g1',h11,cO,show ¬(27:Int)=11 by omega]
   ·rw[h27] at h2
    have g1':=g1
    simp only[ZA.x,h27] at g1'
    simp -implicitDefEqProofs (disch:=first|assumption|omega|(simp only[aI,aP,aH,i64,sa,aC,lm,la,lc,ln];omega)) only[go_sem,simprocAttr,h2,h4,g0,g1',h27,cO,show ¬(27:Int)=11 by omega]
  ·rw[if_neg h11]
   conv=>lhs;unfold loopW;arg 1;unfold d6
   have a1:¬t.fOp=11:=fun h=>h11 (.inl h)
   have a2:¬t.fOp=27:=fun h=>h11 (.inr h)
   simp -implicitDefEqProofs (disch:=first|assumption|omega|(simp only[aI,aP,aH,i64,sa,aC,lm,la,lc,ln];omega)) only[go_sem,simprocAttr,h2,h4,a1,a2,bH,List.foldl_nil]
theorem zJ(u:ZB)(hr:Right u)(hL:(aV u).Least (live u)):call tab nV [u.x,.d (.r (bMr (live u)))]=some (.d (.s 1 (bR (bH true (zB u) (crU u))))):=by
 obtain⟨l1,l2⟩:=oF hL
 have hl:=hr.len
 obtain⟨hr0,hr1⟩:=hr.regs
 have g2:=Kg u (live u) u.fRegs.toNat (by omega) (by omega) l2 l1 (by omega) u.fCode (live u) 0 (zB u) rfl rfl (by omega) (by simp)
 rw[show iI u.fCode (live u)=crU u from rfl] at g2
 have e1:=zvS u
 have e2:(bMr (live u)).length≤900:=by simp;omega
 rw[aS Aa _ rfl,qI]
 simp -implicitDefEqProofs (disch:=first|assumption|omega|(simp only[aI,aP,aH,i64,sa,aC,lm,la,lc,ln];omega)) only[go_sem,simprocAttr,g2,e1]
set_option maxRecDepth 8000
def hY(pr:Int)(j:Int):Nat→List Int
 |0=>[]
 |k+1=>(if j<pr then 10+j else -1)::hY pr (j+1) k
theorem G7(pr:Int):∀(k:Nat) (j:Int),(hY pr j k).length=k
 |0,j=>rfl
 |k+1,j=>by rw[hY,lc,G7 pr k]
theorem K6{pr:Int}:∀(k:Nat) (j:Int),pr≤j→hY pr j k=List.replicate k (-1)
 |0,j,h=>rfl
 |k+1,j,h=>by rw[hY,if_neg (by omega),K6 k (j+1) (by omega),List.replicate_succ]
theorem P8(pr:Int):∀(k:Nat) (j:Int) (p:Nat),p<k→(hY pr j k)[p]? = some (if j+p<pr then 10+(j+p) else -1)
 |0,j,p,h=>by omega
 |k+1,j,0,h=>by simp[hY]
 |k+1,j,p+1,h=>by
  rw[hY,List.getElem?_cons_succ,P8 pr k (j+1) p (by omega)]
  rw[show j+1+(p:Int)=j+((p+1:Nat):Int) by omega]
def vO(F:List Int)(pr:Int)(j:Int):Nat→List Int
 |0=>[]
 |k+1=>if j<pr then vO F pr (j+1) k else if 0≤aX F j then j::vO F pr (j+1) k else vO F pr (j+1) k
theorem Ak(F:List Int)(pr:Int):∀(k:Nat) (j r:Int),r∈vO F pr j k↔j≤r∧r<j+k∧pr≤r∧0≤aX F r
 |0,j,r=>by simp[vO];omega
 |k+1,j,r=>by
  have ih:=Ak F pr k (j+1) r
  rw[vO]
  by_cases h1:j<pr
  ·rw[if_pos h1,ih];omega
  ·rw[if_neg h1]
   by_cases h2:0≤aX F j
   ·rw[if_pos h2,List.mem_cons,ih]
    constructor
    ·rintro(rfl|h)
     ·exact⟨by omega,by omega,by omega,h2⟩
     ·exact⟨by omega,by omega,by omega,h.2.2.2⟩
    ·intro h
     by_cases e:r=j
     ·exact .inl e
     ·exact .inr ⟨by omega,by omega,by omega,h.2.2.2⟩
   ·rw[if_neg h2,ih]
    constructor
    ·intro h;exact⟨by omega,by omega,by omega,h.2.2.2⟩
    ·intro h
     have:r≠j:=fun e=>h2 (e ▸ h.2.2.2)
     exact⟨by omega,by omega,by omega,h.2.2.2⟩
theorem vL(F:List Int)(pr:Int):∀(k:Nat) (j:Int),(vO F pr j k).Pairwise (· < ·)
 |0,j=>List.Pairwise.nil
 |k+1,j=>by
  rw[vO]
  split
  ·exact vL F pr k (j+1)
  ·split
   ·exact List.Pairwise.cons (fun r hr=>by have:=(Ak F pr k (j+1) r).1 hr;omega) (vL F pr k (j+1))
   ·exact vL F pr k (j+1)
theorem F6(F:List Int)(pr:Int):∀(k:Nat) (j:Int),(vO F pr j k).length≤k
 |0,j=>by simp[vO]
 |k+1,j=>by
  have:=F6 F pr k (j+1)
  rw[vO]
  split
  ·omega
  ·split
   ·simp;omega
   ·omega
def n8(F:List Int)(q:Int)(j:Int):Nat→List Int
 |0=>[]
 |k+1=>if aX F j=q then j::n8 F q (j+1) k else n8 F q (j+1) k
theorem u5(F:List Int)(q:Int):∀(k:Nat) (j r:Int),r∈n8 F q j k↔j≤r∧r<j+k∧aX F r=q
 |0,j,r=>by simp[n8];omega
 |k+1,j,r=>by
  have ih:=u5 F q k (j+1) r
  rw[n8]
  by_cases h2:aX F j=q
  ·rw[if_pos h2,List.mem_cons,ih]
   constructor
   ·rintro(rfl|h)
    ·exact⟨by omega,by omega,h2⟩
    ·exact⟨by omega,by omega,h.2.2⟩
   ·intro h
    by_cases e:r=j
    ·exact .inl e
    ·exact .inr ⟨by omega,by omega,h.2.2⟩
  ·rw[if_neg h2,ih]
   constructor
   ·intro h;exact⟨by omega,by omega,h.2.2⟩
   ·intro h
    have:r≠j:=fun e=>h2 (e ▸ h.2.2)
    exact⟨by omega,by omega,h.2.2⟩
theorem F0(F:List Int)(q:Int):∀(k:Nat) (j:Int),(n8 F q j k).Pairwise (· < ·)
 |0,j=>List.Pairwise.nil
 |k+1,j=>by
  rw[n8]
  split
  ·exact List.Pairwise.cons (fun r hr=>by have:=(u5 F q k (j+1) r).1 hr;omega) (F0 F q k (j+1))
  ·exact F0 F q k (j+1)
def Bi(F:List Int)(pr:Int)(w:Nat)(q:Int):Nat→List Int
 |0=>[]
 |k+1=>n8 F q pr w++Bi F pr w (q+1) k
theorem Hi(F:List Int)(pr:Int)(w:Nat):∀(k:Nat) (q r:Int),r∈Bi F pr w q k↔pr≤r∧r<pr+w∧q≤aX F r∧aX F r<q+k
 |0,q,r=>by simp only[Bi,List.not_mem_nil,false_iff];omega
 |k+1,q,r=>by
  have ih:=Hi F pr w k (q+1) r
  rw[Bi,List.mem_append,u5,ih]
  omega
theorem L3(F:List Int)(pr:Int)(w:Nat):∀(k:Nat) (q:Int),(Bi F pr w q k).Pairwise (ltK (aX F))
 |0,q=>List.Pairwise.nil
 |k+1,q=>by
  rw[Bi]
  refine List.pairwise_append.2 ⟨?_,L3 F pr w k (q+1),fun x hx y hy=> ?_⟩
  ·refine(F0 F q w pr).imp_of_mem (fun hx hy h=> ?_)
   rw[u5] at hx hy
   exact .inr ⟨by omega,h⟩
  ·rw[u5] at hx
   rw[Hi] at hy
   exact .inl (by omega)
theorem zj6{F:Int→Int}{A:List Int}(h:A.Pairwise (ltK F)):A.Nodup:=h.imp (fun h e=>by subst e;rcases h with h|h<;>omega)
theorem zQk{F:List Int}{pr:Int}{m len:Nat}(h0:0≤pr)(hp:pr≤m)(hF:inJ len F)(hm:F.length=m):Mg (aX F) (vO F pr 0 m) (Bi F pr (m-pr.toNat) 0 len):=by
 refine⟨?_,L3 F pr _ len 0⟩
 rw[List.perm_ext_iff_of_nodup (zj6 (L3 F pr _ len 0)) ((vL F pr m 0).imp (fun h=>by omega))]
 intro r
 rw[Hi,Ak]
 constructor
 ·intro h;omega
 ·intro h
  have:aX F r∈F:=(bF (zs:=F) (k:=r) (by omega) (by omega)).2
  have:=hF _ this
  omega
def dX(F L H P:List Int)(r h:Int):Bool:=P.any fun k=>decide (aX H k=h)&&(decide (aX F k≤aX L r)&&decide (aX F r≤aX L k))
def sJ(j:Int):Nat→List Int
 |0=>[]
 |k+1=>j::sJ (j+1) k
theorem F3:∀(k:Nat) (j r:Int),r∈sJ j k↔j≤r∧r<j+k
 |0,j,r=>by simp only[sJ,List.not_mem_nil,false_iff];omega
 |k+1,j,r=>by rw[sJ,List.mem_cons,F3 k];omega
def nW(F L H P:List Int)(r:Int):Int:=if dX F L H P r 0=false then 0 else if dX F L H P r 1=false then 1 else if dX F L H P r 2=false then 2 else -1
theorem Hb{F L H P:List Int}{m:Nat}(hP:∀k∈P,0≤k∧k<m)(hH:∀k:Int,0≤k→k<m→0≤aX H k→aX H k<3→k∈P){r h:Int}(h0:0≤h)(h3:h<3):dX F L H P r h=dX F L H (sJ 0 m) r h:=by
 rw[Bool.eq_iff_iff]
 simp only[dX,List.any_eq_true,bE,decide_eq_true_eq]
 constructor
 ·rintro ⟨k,hk,e⟩
  have:=hP k hk
  exact⟨k,by rw[F3];omega,e⟩
 ·rintro ⟨k,hk,e⟩
  rw[F3] at hk
  exact⟨k,hH k (by omega) (by omega) (by omega) (by omega),e⟩
theorem zxv{F L H P:List Int}{m:Nat}(hP:∀k∈P,0≤k∧k<m)(hH:∀k:Int,0≤k→k<m→0≤aX H k→aX H k<3→k∈P)(r:Int):nW F L H P r=nW F L H (sJ 0 m) r:=by
 rw[nW,nW,Hb hP hH (by omega) (by omega),Hb hP hH (by omega) (by omega),Hb hP hH (by omega) (by omega)]
theorem Ie(F L H P:List Int)(r:Int): -1≤nW F L H P r∧nW F L H P r<3:=by
 unfold nW
 split
 ·omega
 ·split
  ·omega
  ·split<;>omega
def asg(F L C:List Int)(S:List Int×Int)(r:Int):List Int×Int :=
 if nW F L S.1 (sJ 0 S.1.length) r<0∨r∈C then(S.1.set r.toNat (10+S.2),S.2+1) else(S.1.set r.toNat (nW F L S.1 (sJ 0 S.1.length) r),S.2)
theorem X8(F L C:List Int)(S:List Int×Int)(r:Int):(asg F L C S r).1.length=S.1.length:=by
 unfold asg;split<;>simp
theorem Pe(F L C:List Int):∀(ls:List Int) (S:List Int×Int),(ls.foldl (asg F L C) S).1.length=S.1.length
 |[],S=>rfl
 |r::ls,S=>by rw[List.foldl_cons,Pe F L C ls,X8]
theorem Sv(F L C:List Int)(S:List Int×Int)(r:Int):S.2≤(asg F L C S r).2∧(asg F L C S r).2≤S.2+1:=by
 unfold asg;split
 ·exact⟨by show S.2≤S.2+1;omega,Int.le_refl _⟩
 ·exact⟨Int.le_refl _,by show S.2≤S.2+1;omega⟩
structure Hom (m:Nat) (P:List Int) (S:List Int×Int):Prop where
 len:S.1.length=m
 pos:∀k∈P,0≤k∧k<m∧0≤aX S.1 k
 low:∀k:Int,0≤k→k<m→0≤aX S.1 k→aX S.1 k<3→k∈P
 slot:0≤S.2∧S.2≤4+P.length
theorem Hv{H:List Int}{r k x:Int}(h0:0≤r)(h1:r<H.length)(hk:0≤k):aX (H.set r.toNat x) k=if k=r then x else aX H k:=by
 unfold aX
 rw[List.getElem?_set]
 by_cases e:k=r
 ·subst e
  have:k.toNat<H.length:=by omega
  simp[this]
 ·simp only[show ¬r.toNat=k.toNat by omega,if_false,e]
theorem Hom.step{m:Nat}{P:List Int}{S:List Int×Int}(h:Hom m P S)(F L C:List Int){r:Int}(h0:0≤r)(h1:r<m):Hom m (P++[r]) (asg F L C S r):=by
 have hb:=Ie F L S.1 (sJ 0 S.1.length) r
 have hs:=h.slot
 have key:∀x:Int,0≤x→∀s,0≤s→s≤S.2+1→Hom m (P++[r]) (S.1.set r.toNat x,s):=fun x hx s hs1 hs2=>by
  refine⟨by simp[h.len],fun k hk=> ?_,fun k a b c d=> ?_,hs1,by rw[la,List.length_singleton];show s≤_;omega⟩
  ·show 0≤k∧k<m∧0≤aX (S.1.set r.toNat x) k
   rcases List.mem_append.1 hk with hk|hk
   ·have:=h.pos k hk
    rw[Hv h0 (by rw[h.len];exact h1) this.1]
    refine⟨this.1,this.2.1,?_⟩
    split<;>omega
   ·rw[List.mem_singleton] at hk
    subst hk
    rw[Hv h0 (by rw[h.len];exact h1) h0,if_pos rfl]
    exact⟨h0,h1,hx⟩
  ·change 0≤aX (S.1.set r.toNat x) k at c
   change aX (S.1.set r.toNat x) k<3 at d
   rw[Hv h0 (by rw[h.len];exact h1) a] at c d
   by_cases e:k=r
   ·simp[e]
   ·rw[if_neg e] at c d
    exact List.mem_append_left _ (h.low k a b c d)
 unfold asg
 split
 ·exact key (10+S.2) (by omega) (S.2+1) (by omega) (by omega)
 ·rename_i hn
  exact key _ (by omega) S.2 (by omega) (by omega)
theorem Hom.start{m:Nat}{pr:Int}(h0:0≤pr)(h4:pr≤4)(hm:pr≤m):Hom m [] (hY pr 0 m,pr):=by
 refine⟨G7 pr m 0,fun k hk=>by simp at hk,fun k a b c d=> ?_,h0,by simp;exact h4⟩
 change 0≤aX (hY pr 0 m) k at c
 change aX (hY pr 0 m) k<3 at d
 exfalso
 have hg:=P8 pr m 0 k.toNat (by omega)
 unfold aX at c d
 rw[hg,Option.getD_some] at c d
 split at c<;>omega
noncomputable def homU (u:ZB):List Int×Int:=(Bi (spU u).1 u.fParams (u.fRegs.toNat-u.fParams.toNat) 0 u.fCode.length).foldl (asg (spU u).1 (spU u).2 (crU u)) (hY u.fParams 0 u.fRegs.toNat,u.fParams)
set_option maxRecDepth 8000
set_option maxHeartbeats 8000000
theorem mY{H:List Int}{j:Int}{v:Int}(h0:0≤j)(h:j<H.length):(H.set j.toNat v).take (j+1).toNat=H.take j.toNat++[v]:=by
 rw[show(j+1).toNat=j.toNat+1 by omega,List.take_succ,List.take_set_of_le (Nat.le_refl _),List.getElem?_set]
 rw[if_pos rfl,if_pos (by omega)]
 rfl
abbrev hoH(F H T:List Int):Heap:=upd (upd (upd emp (0,2) (some (.s 1 (aK T)))) (0,1) (some (.s 1 (aK H)))) (0,0) (some (.s 1 [[.r (aK F)]]))
theorem Ef(u:ZB)(F L C:List Int)(m:Nat)(hm:m≤250)(hF:F.length=m)(hp0:0≤u.fParams)(hp4:u.fParams≤4):∀(k:Nat) (j:Int) (H T:List Int),0≤j→j+k=m→H.length=m→T.length≤j →
  loopW tab [1,4,5,6,7,8,29,30] gI {env:=upd (upd (upd (upd (upd (upd (upd (upd emp 30 (some (I j))) 29 (some (I (m:Int)))) 8 (some (.ref (0,2) []))) 7 (some (.ref (0,1) []))) 6 (some (.d (.r (aK C))))) 5 (some (.d (.r (aK L))))) 4 (some (.ptr (0,0) [] 0 0))) 1 (some (uV u)),heap:=hoH F H T,fr:=0,next:=3} =
  some (.ext 0,{env:=upd (upd (upd (upd (upd (upd emp 8 (some (.ref (0,2) []))) 7 (some (.ref (0,1) []))) 6 (some (.d (.r (aK C))))) 5 (some (.d (.r (aK L))))) 4 (some (.ptr (0,0) [] 0 0))) 1 (some (uV u)),heap:=hoH F (H.take j.toNat++hY u.fParams j k) (T++vO F u.fParams j k),fr:=0,next:=3})
 |0,j,H,T,hj,hk,hH,hT=>by
  have e:H.take j.toNat=H:=List.take_of_length_le (by omega)
  unfold loopW
  conv=>lhs;arg 1;unfold gI
  simp -implicitDefEqProofs (disch:=first|assumption|omega) only[go_sem,simprocAttr,show(m:Int)≤j by omega,e,hY,vO,List.append_nil]
 |k+1,j,H,T,hj,hk,hH,hT=>by
  have f1:(aK H).length=m:=by simp[aK,hH]
  have f3:=(bF (zs:=H) hj (by omega)).1
  generalize aX H j=z1 at *
  have g1:=cS H j.toNat (-1)
  have f4:=(bF (zs:=F) hj (by omega)).1
  have f5:(aK F).length=m:=by simp[aK,hF]
  rw[hY,vO]
  by_cases h1:j<u.fParams
  ·have ih:=Ef u F L C m hm hF hp0 hp4 k (j+1) (H.set j.toNat (10+j)) T (by omega) (by omega) (by simp[hH]) (by omega)
   rw[mY hj (by omega),List.append_assoc,List.singleton_append] at ih
   rw[if_pos h1,if_pos h1,←ih]
   have g2:=cS (H.set j.toNat (-1)) j.toNat (10+j)
   rw[List.set_set] at g2
   have f6:(aK (H.set j.toNat (-1))).length=m:=by simp[aK,hH]
   have f7:(aK (H.set j.toNat (-1)))[j.toNat]? = some [DI (-1)]:=eR (by rw[List.getElem?_set,if_pos rfl,if_pos (by omega)])
   generalize aX F j=z2 at *
   conv=>lhs;unfold loopW;arg 1;unfold gI
   simp -implicitDefEqProofs (disch:=first|assumption|omega|(simp only[aI,aP,aH,i64,sa,aC,lm,la,lc,ln];omega)) only[go_sem,simprocAttr,show j<m by omega,h1,f1,f3,g1,g2,f6,f7]
  ·rw[if_neg h1,if_neg h1]
   by_cases h2:0≤aX F j
   ·have ih:=Ef u F L C m hm hF hp0 hp4 k (j+1) (H.set j.toNat (-1)) (T++[j]) (by omega) (by omega) (by simp[hH]) (by simp;omega)
    rw[mY hj (by omega),List.append_assoc,List.singleton_append,List.append_assoc,List.singleton_append] at ih
    rw[if_pos h2,←ih]
    have e1:aK (T++[j])=aK T++[[DI j]]:=by simp[aK]
    have e2:(aK T).length≤250:=by simp[aK];omega
    simp only[hoH,e1]
    generalize aK T=W at *
    generalize aX F j=z2 at *
    conv=>lhs;unfold loopW;arg 1;unfold gI
    simp -implicitDefEqProofs (disch:=first|assumption|omega|(simp only[aI,aP,aH,i64,sa,aC,lm,la,lc,ln];omega)) only[go_sem,simprocAttr,show j<m by omega,h1,f1,f3,f4,f5,g1,h2]
   ·have ih:=Ef u F L C m hm hF hp0 hp4 k (j+1) (H.set j.toNat (-1)) T (by omega) (by omega) (by simp[hH]) (by omega)
    rw[mY hj (by omega),List.append_assoc,List.singleton_append] at ih
    rw[if_neg h2,←ih]
    generalize aX F j=z2 at *
    conv=>lhs;unfold loopW;arg 1;unfold gI
    simp -implicitDefEqProofs (disch:=first|assumption|omega|(simp only[aI,aP,aH,i64,sa,aC,lm,la,lc,ln];omega)) only[go_sem,simprocAttr,show j<m by omega,h1,f1,f3,f4,f5,g1,h2]
abbrev zWP(F H:List Int):Heap:=upd (upd emp (0,1) (some (.s 1 (aK H)))) (0,0) (some (.s 1 [[.r (aK F)]]))
abbrev Is(F H:List Int)(t:BL):Heap:=upd (upd (upd emp (0,2) (some (.s 1 (bR t)))) (0,1) (some (.s 1 (aK H)))) (0,0) (some (.s 1 [[.r (aK F)]]))
theorem Zb(F L C H M:List Int)(sl n2 jj r:Int)(m:Nat)(hm:m≤250)(hF:F.length=m)(hL:L.length=m)(hH:H.length=m)(hr0:0≤r)(hrm:r<m)(P:List Int)(hPl:P.length≤250)(hP:∀k∈P,0≤k∧k<m∧0≤aX H k):∀(Bl:List Int) (j:Int) (a b c:Bool),P.drop j.toNat=Bl→0≤j →
  loopW tab [4,5,6,7,8,10,12,13,60,61,62,70,71,72] lO {env:=upd (upd (upd (upd (upd (upd (upd (upd (upd (upd (upd (upd (upd (upd emp 72 (some (I j))) 71 (some (I (P.length:Int)))) 70 (some (.d (.r (aK P))))) 62 (some (I jj))) 61 (some (I n2))) 60 (some (.d (.r (aK M))))) 13 (some (.ref (0,2) []))) 12 (some (I r))) 10 (some (I sl))) 8 (some (.d (.r (aK M))))) 7 (some (.ref (0,1) []))) 6 (some (.d (.r (aK C))))) 5 (some (.d (.r (aK L))))) 4 (some (.ptr (0,0) [] 0 0)),heap:=Is F H [a,b,c],fr:=0,next:=3} =
  some (.ext 4,{env:=upd (upd (upd (upd (upd (upd (upd (upd (upd (upd (upd emp 62 (some (I jj))) 61 (some (I n2))) 60 (some (.d (.r (aK M))))) 13 (some (.ref (0,2) []))) 12 (some (I r))) 10 (some (I sl))) 8 (some (.d (.r (aK M))))) 7 (some (.ref (0,1) []))) 6 (some (.d (.r (aK C))))) 5 (some (.d (.r (aK L))))) 4 (some (.ptr (0,0) [] 0 0)),heap:=Is F H [a||dX F L H Bl r 0,b||dX F L H Bl r 1,c||dX F L H Bl r 2],fr:=0,next:=3})
 |[],j,a,b,c,hd,hj=>by
  have hh:=cN hd hj
  unfold loopW
  conv=>lhs;arg 1;unfold lO
  simp only[bR,mc,mn,Is,dX,List.any_nil,Bool.or_false]
  simp -implicitDefEqProofs (disch:=first|assumption|omega) only[go_sem,simprocAttr,hh]
 |q::Bl,j,a,b,c,hd,hj=>by
  have hc0:=bL hd hj
  obtain⟨hs0,hsm,hsh⟩:=hP q hc0.2.2.2.1
  have h2:=eM (fun n=>[DI n]) hc0.1
  have h4:=hc0.2.1
  have ih:=fun a b c=>Zb F L C H M sl n2 jj r m hm hF hL hH hr0 hrm P hPl hP Bl (j+1) a b c hc0.2.2.1 (by omega)
  have f1:=(bF (zs:=H) hs0 (by omega)).1
  have f2:=(bF (zs:=F) hs0 (by omega)).1
  have f3:=(bF (zs:=L) hs0 (by omega)).1
  have f4:=(bF (zs:=F) hr0 (by omega)).1
  have f5:=(bF (zs:=L) hr0 (by omega)).1
  have n1:(aK H).length=m:=by simp[aK,hH]
  have n2:(aK F).length=m:=by simp[aK,hF]
  have n3:(aK L).length=m:=by simp[aK,hL]
  have hbz:∀h,dX F L H (q::Bl) r h=((decide (aX H q=h)&&(decide (aX F q≤aX L r)&&decide (aX F r≤aX L q)))||dX F L H Bl r h):=fun h=>by rw[dX,List.any_cons,←dX]
  rw[hbz,hbz,hbz]
  generalize dX F L H Bl r 0=B0 at *
  generalize dX F L H Bl r 1=B1 at *
  generalize dX F L H Bl r 2=B2 at *
  clear hbz hP
  generalize aX H q=hs at *
  generalize aX F q=fs at *
  generalize aX L q=ls at *
  generalize aX F r=fR at *
  generalize aX L r=lR at *
  conv=>lhs;unfold loopW;arg 1;unfold lO
  by_cases c3:hs<3
  ·by_cases c1:fs≤lR
   ·by_cases c2:fR≤ls
    ·have hcase:hs=0∨hs=1∨hs=2:=by omega
     rcases hcase with rfl|rfl|rfl
     ·have ih0:=ih true b c
      simp only[bR,mc,mn,Is] at ih0 ⊢
      simp -implicitDefEqProofs (disch:=first|assumption|omega) only[go_sem,simprocAttr,h2,h4,f1,f2,f3,f4,f5,n1,n2,n3,c1,c2,ih0,Bool.true_or,Bool.or_true,Bool.false_or,Bool.or_assoc,decide_true,decide_false,Bool.and_self,bfa,show ¬(0:Int)=1 by omega,show ¬(0:Int)=2 by omega]
     ·have ih0:=ih a true c
      simp only[bR,mc,mn,Is] at ih0 ⊢
      simp -implicitDefEqProofs (disch:=first|assumption|omega) only[go_sem,simprocAttr,h2,h4,f1,f2,f3,f4,f5,n1,n2,n3,c1,c2,ih0,Bool.true_or,Bool.or_true,Bool.false_or,Bool.or_assoc,decide_true,decide_false,Bool.and_self,bfa,show ¬(1:Int)=0 by omega,show ¬(1:Int)=2 by omega]
     ·have ih0:=ih a b true
      simp only[bR,mc,mn,Is] at ih0 ⊢
      simp -implicitDefEqProofs (disch:=first|assumption|omega) only[go_sem,simprocAttr,h2,h4,f1,f2,f3,f4,f5,n1,n2,n3,c1,c2,ih0,Bool.true_or,Bool.or_true,Bool.false_or,Bool.or_assoc,decide_true,decide_false,Bool.and_self,bfa,show ¬(2:Int)=0 by omega,show ¬(2:Int)=1 by omega]
    ·have ih0:=ih a b c
     simp only[bR,mc,mn,Is] at ih0 ⊢
     simp -implicitDefEqProofs (disch:=first|assumption|omega) only[go_sem,simprocAttr,h2,h4,f1,f2,f3,f4,f5,n1,n2,n3,c1,c2,c3,ih0,decide_false,decide_true,zzn,Bool.false_or]
   ·have ih0:=ih a b c
    simp only[bR,mc,mn,Is] at ih0 ⊢
    simp -implicitDefEqProofs (disch:=first|assumption|omega) only[go_sem,simprocAttr,h2,h4,f1,f2,f3,f4,f5,n1,n2,n3,c1,c3,ih0,decide_false,decide_true,zzn,bfa,Bool.false_or]
  ·have ih0:=ih a b c
   simp only[bR,mc,mn,Is] at ih0 ⊢
   simp -implicitDefEqProofs (disch:=first|assumption|omega) only[go_sem,simprocAttr,h2,h4,f1,n1,c3,ih0,show ¬hs=0 by omega,show ¬hs=1 by omega,show ¬hs=2 by omega,decide_false,bfa,Bool.false_or]
set_option maxRecDepth 8000
set_option maxHeartbeats 8000000
theorem zV3(a b c:Bool):fzs [[DB a],[DB b],[DB c]]=[[DB a],[DB b],[DB c]]:=rfl
theorem Ya(F L C M:List Int)(m:Nat)(hm:m≤250)(hF:F.length=m)(hL:L.length=m)(hC:C.length≤2000000)(hMl:M.length≤250)(hM:∀r∈M,0≤r∧r<m):∀(Bl:List Int) (j:Int) (S:List Int×Int),M.drop j.toNat=Bl→0≤j→j≤M.length→Hom m (M.take j.toNat) S →
  loopW tab [4,5,6,7,8,10,60,61,62] l5 {env:=upd (upd (upd (upd (upd (upd (upd (upd (upd emp 62 (some (I j))) 61 (some (I (M.length:Int)))) 60 (some (.d (.r (aK M))))) 10 (some (I S.2))) 8 (some (.d (.r (aK M))))) 7 (some (.ref (0,1) []))) 6 (some (.d (.r (aK C))))) 5 (some (.d (.r (aK L))))) 4 (some (.ptr (0,0) [] 0 0)),heap:=zWP F S.1,fr:=0,next:=2} =
  some (.ext 2,{env:=upd (upd emp 10 (some (I (Bl.foldl (asg F L C) S).2))) 7 (some (.ref (0,0) [])),heap:=upd emp (0,0) (some (.s 1 (aK (Bl.foldl (asg F L C) S).1))),fr:=0,next:=1})
 |[],j,S,hd,hj,hjm,hS=>by
  have hh:=cN hd hj
  unfold loopW
  conv=>lhs;arg 1;unfold l5
  simp -implicitDefEqProofs (disch:=first|assumption|omega) only[go_sem,simprocAttr,hh,List.foldl_nil]
 |r::Bl,j,S,hd,hj,hjm,hS=>by
  have hc0:=bL hd hj
  obtain⟨hr0,hrm⟩:=hM r hc0.2.2.2.1
  have h2:=eM (fun n=>[DI n]) hc0.1
  have h4:=hc0.2.1
  have hst:=hS.step F L C hr0 hrm
  have htk:M.take (j+1).toNat=M.take j.toNat++[r]:=by
   rw[show(j+1).toNat=j.toNat+1 by omega,List.take_succ,hc0.1];rfl
  rw[←htk] at hst
  have ih:=Ya F L C M m hm hF hL hC hMl hM Bl (j+1) (asg F L C S r) hc0.2.2.1 (by omega) (by omega) hst
  rw[List.foldl_cons,←ih]
  have hpl:(M.take j.toNat).length=j.toNat:=by rw[List.length_take];omega
  have g1:=Zb F L C S.1 M S.2 M.length j r m hm hF hL hS.len hr0 hrm (M.take j.toNat) (by omega) hS.pos (M.take j.toNat) 0 false false false rfl (by omega)
  rw[Bool.false_or,Bool.false_or,Bool.false_or] at g1
  have g2:=zjl (dX F L S.1 (M.take j.toNat) r 0) (dX F L S.1 (M.take j.toNat) r 1) (dX F L S.1 (M.take j.toNat) r 2)
  rw[show(if dX F L S.1 (M.take j.toNat) r 0=false then(0:Int) else if dX F L S.1 (M.take j.toNat) r 1=false then 1 else if dX F L S.1 (M.take j.toNat) r 2=false then 2 else -1)=nW F L S.1 (M.take j.toNat) r from rfl] at g2
  have e0:=zxv (F:=F) (L:=L) (fun k hk=>⟨(hS.pos k hk).1,(hS.pos k hk).2.1⟩) hS.low r
  have hfb:=Ie F L S.1 (M.take j.toNat) r
  have g3:=Dj C r (by omega)
  have a1:=(bF (zs:=S.1) hr0 (by rw[hS.len];exact hrm)).1
  have n1:(aK S.1).length=m:=by simp[aK,hS.len]
  have n2:=cS S.1 r.toNat (10+S.2)
  have n3:=cS S.1 r.toNat (nW F L S.1 (M.take j.toNat) r)
  have hsl:=hS.slot
  have hml:(aK M).length=M.length:=by simp[aK]
  have hcut:(aK M).take j.toNat=aK (M.take j.toNat):=by simp[aK,List.map_take]
  rw[asg,hS.len,←e0]
  simp only[bR,mc,mn,Is] at g1 g2
  generalize nW F L S.1 (M.take j.toNat) r=fp at *
  generalize dX F L S.1 (M.take j.toNat) r 0=B0 at *
  generalize dX F L S.1 (M.take j.toNat) r 1=B1 at *
  generalize dX F L S.1 (M.take j.toNat) r 2=B2 at *
  generalize aX S.1 r=z0 at *
  have hjl:j.toNat≤250:=by omega
  clear hst hS ih hM htk e0 hd hcut
  generalize hPP:M.take j.toNat=P at *
  have hcut:(aK M).take j.toNat=aK P:=by rw[←hPP];simp[aK,List.map_take]
  clear hPP
  obtain⟨H,sl⟩:=S
  simp only at *
  conv=>lhs;unfold loopW;arg 1;unfold l5
  by_cases hf:fp<0
  ·rw[if_pos (.inl hf)]
   simp -implicitDefEqProofs (disch:=first|assumption|omega|(simp only[aI,aP,aH,i64,sa,aC,lm,la,lc,ln];omega)) only[go_sem,simprocAttr,h2,h4,g1,g2,g3,a1,n1,n2,hf,hcut,hml,pK,zV3,List.replicate_succ,List.replicate_zero]
  ·by_cases hc:r∈C
   ·rw[if_pos (.inr hc)]
    rw[decide_eq_true hc] at g3
    simp -implicitDefEqProofs (disch:=first|assumption|omega|(simp only[aI,aP,aH,i64,sa,aC,lm,la,lc,ln];omega)) only[go_sem,simprocAttr,h2,h4,g1,g2,g3,a1,n1,n2,hf,hcut,hml,pK,zV3,List.replicate_succ,List.replicate_zero]
   ·rw[if_neg (by rintro(h|h);exact hf h;exact hc h)]
    rw[decide_eq_false hc] at g3
    simp -implicitDefEqProofs (disch:=first|assumption|omega|(simp only[aI,aP,aH,i64,sa,aC,lm,la,lc,ln];omega)) only[go_sem,simprocAttr,h2,h4,g1,g2,g3,a1,n1,n3,hf,hcut,hml,pK,zV3,List.replicate_succ,List.replicate_zero]
abbrev hoK(F H:List Int):Heap:=upd (upd emp (0,1) (some (.s 1 (aK H)))) (0,0) (some (.s 1 [[.r (aK F)]]))
theorem Vy(F H T:List Int):sH (hoK F H) 2 T=hoH F H T:=by
 funext id
 simp only[sH,hoK,hoH,upd]
 by_cases h0:id=(0,0)
 ·subst h0;simp
 ·by_cases h1:id=(0,1)
  ·subst h1;simp
  ·by_cases h2:id=(0,2)<;>simp[h0,h1,h2]
theorem O6(F H:List Int):q8 (hoK F H) 2:=fun fr h1 x=>by
 funext id
 simp only[bU]
 split
 ·rename_i h
  have h0:∀k,id≠(0,k):=fun k e=>by rw[e] at h;simp at h;omega
  simp[upd,h0,emp]
 ·rfl
theorem zVb(F H:List Int)(m:Nat)(hm:m≤250)(hF:F.length=m)(n:Int)(hn:n≤1000)(hin:inJ n F):Cmp (hoK F H) 2 0 t8 (aX F) (fun r=>0≤r∧r<m):=fun zs fr x y h2 hx hy=>by
 have hd:=O6 F H fr (by omega)
 obtain⟨hx0,hxm⟩:=hx
 obtain⟨hy0,hym⟩:=hy
 have f1:=(bF (zs:=F) hx0 (by omega)).1
 have f2:=(bF (zs:=F) hy0 (by omega)).1
 have i1:=hin _ (bF (zs:=F) hx0 (by omega)).2
 have i2:=hin _ (bF (zs:=F) hy0 (by omega)).2
 have n1:(aK F).length=m:=by simp[aK,hF]
 have e:=Vy F H zs
 simp only[sH] at e ⊢
 have hd2:=hd (some (D.s 1 (aK zs)))
 rw[e] at hd2 ⊢
 generalize aX F x=fx at *
 generalize aX F y=fy at *
 rw[dM Hk _ _ _ rfl,wX]
 simp -implicitDefEqProofs (disch:=first|assumption|omega) only[go_sem,simprocAttr,f1,f2,n1,hd2,show ¬0=fr by omega]
set_option maxRecDepth 8000
set_option maxHeartbeats 8000000
theorem Lk(u:ZB):(spU u).1.length=u.fRegs.toNat∧(spU u).2.length=u.fRegs.toNat:=by
 have:=Lg u.fCode (live u) 0 (List.replicate u.fRegs.toNat (-1),List.replicate u.fRegs.toNat (-1))
 simpa[spU] using this
theorem zxj{u:ZB}(hr:Right u):inJ u.fCode.length (spU u).1∧inJ u.fCode.length (spU u).2:=by
 have h1:inJ u.fCode.length (List.replicate u.fRegs.toNat (-1)):=fun x hx=>by have:=(List.mem_replicate.1 hx).2;omega
 exact Sh u.fCode.length u.fRegs.toNat u.fCode (live u) 0 _ (by omega) (by omega) (fun t ht r h=>(Ge hr t ht r h).1) h1 h1
theorem zZ8(F L:List Int)(u:ZB):asg F L (crS u)=asg F L (crU u):=by
 funext S r
 simp only[asg,zJY]
noncomputable abbrev ordU (u:ZB):List Int:=vO (spU u).1 u.fParams 0 u.fRegs.toNat
noncomputable abbrev refU (u:ZB):List Int:=Bi (spU u).1 u.fParams (u.fRegs.toNat-u.fParams.toNat) 0 u.fCode.length
theorem Y1{u:ZB}(hr:Right u):Mg (aX (spU u).1) (ordU u) (refU u) :=
 zQk hr.pars.1 (by have:=hr.pars;omega) (zxj hr).1 (Lk u).1
theorem Jj(u:ZB)(hs:u.sm)(hu:sT u=true):call tab zK [u.x]=some (.tup [.d (.s 1 (aK (homU u).1)),I (homU u).2]):=by
 have hr:=mR hu
 obtain⟨I1,hI,hL,h1⟩:=lT u hr hs
 have h2:=Jf u hs hu
 have h3:=D3 u hs hu
 obtain⟨hr0,hr1⟩:=hr.regs
 obtain⟨hp0,hp4,hpm⟩:=hr.pars
 have hl:=hr.len
 obtain⟨hF,hLl⟩:=Lk u
 have hin:=(zxj hr).1
 have hcl:=zJj u
 have hcl2:=Zg hr hL
 have e1:(u.fRegs.toNat:Int)=u.fRegs:=by omega
 have g0:=Ef u (spU u).1 (spU u).2 (crS u) u.fRegs.toNat (by omega) hF hp0 hp4 u.fRegs.toNat 0 (List.replicate u.fRegs.toNat 0) [] (by omega) (by omega) (by simp) (by simp)
 rw[show(0:Int).toNat=0 from rfl,List.take_zero,List.nil_append,List.nil_append] at g0
 have hom0:∀r∈ordU u,0≤r∧r<u.fRegs.toNat:=fun r hr=>by rw[Ak] at hr;omega
 have hol:(ordU u).length≤250:=Nat.le_trans (F6 (spU u).1 u.fParams u.fRegs.toNat 0) (by omega)
 obtain⟨M,hM,g1⟩:=I2 (O6 (spU u).1 (hY u.fParams 0 u.fRegs.toNat)) (zVb (spU u).1 (hY u.fParams 0 u.fRegs.toNat) u.fRegs.toNat (by omega) hF u.fCode.length (by omega) hin) 1 (by omega) (ordU u) (vL _ _ _ _) hol hom0
 have hMr:=Mg.unique hM (Y1 hr)
 rw[Vy,Vy] at g1
 have hMl:M.length≤250:=by rw[hM.len];exact hol
 have g2:=Ya (spU u).1 (spU u).2 (crS u) M u.fRegs.toNat (by omega) hF hLl (by omega) hMl (fun r hr=>hom0 r (hM.perm.subset hr)) M 0 (hY u.fParams 0 u.fRegs.toNat,u.fParams) rfl (by omega) (by omega) (Hom.start hp0 hp4 (by omega))
 rw[zZ8] at g2
 have hfin:M.foldl (asg (spU u).1 (spU u).2 (crU u)) (hY u.fParams 0 u.fRegs.toNat,u.fParams)=homU u:=by rw[hMr];rfl
 rw[hfin] at g2
 have e4:List.replicate u.fRegs.toNat [DI 0]=aK (List.replicate u.fRegs.toNat 0):=by simp[aK]
 rw[e1] at g0
 rw[aS M5 _ rfl,Bo]
 clear hfin hMr hM hom0 hin hcl
 generalize homU u=S at *
 obtain⟨S1,S2⟩:=S
 have e5:aK ([]:List Int)=[]:=rfl
 rw[show vO (spU u).1 u.fParams 0 u.fRegs.toNat=ordU u from rfl] at g0
 rw[hoH,e5] at g0
 simp only[zWP,cl] at g2 g1
 generalize ordU u=T at *
 generalize hY u.fParams 0 u.fRegs.toNat=H at *
 generalize (spU u).1=F at *
 generalize (spU u).2=L at *
 generalize crS u=C at *
 have hml:(aK M).length=M.length:=by simp[aK]
 simp -implicitDefEqProofs (disch:=first|assumption|omega|(simp only[aI,aP,aH,i64,sa,aC,lm,la,lc,ln];omega)) only[go_sem,simprocAttr,h2,h3,e4,g0,g1,g2,cO,hml]
set_option maxRecDepth 8000
set_option maxHeartbeats 8000000
abbrev wkH(F L H:List Int)(n:Int):Heap:=upd emp (0,0) (some (.s 4 [[.s 1 (aK F),.s 1 (aK L),.s 1 (aK H),DI n]]))
theorem Hw(F L H:List Int)(n:Int)(fr:Nat)(h1:1≤fr):bU fr (wkH F L H n)=wkH F L H n:=by
 funext id
 simp only[bU]
 split
 ·rename_i h
  have h0:∀k,id≠(0,k):=fun k e=>by rw[e] at h;simp at h;omega
  simp[upd,h0,emp]
 ·rfl
theorem Gg(F L H:List Int)(sl r h:Int)(m:Nat)(hm:m≤250)(hF:F.length=m)(hL:L.length=m)(hH:H.length=m)(hr0:0≤r)(hrm:r<m):∀(n:Nat) (k:Int) (ok:Bool),0≤k→k+n=m →
  loopW tab [0,1,5,6,7] jK {env:=upd (upd (upd (upd (upd emp 7 (some (I k))) 6 (some (B ok))) 5 (some (I h))) 1 (some (I r))) 0 (some (.ptr (0,0) [] 0 0)),heap:=wkH F L H sl,fr:=1,next:=0} =
  some (.ext 2,{env:=upd (upd (upd (upd emp 6 (some (B (ok&& !dX F L H (sJ k n) r h)))) 5 (some (I h))) 1 (some (I r))) 0 (some (.ptr (0,0) [] 0 0)),heap:=wkH F L H sl,fr:=1,next:=0})
 |0,k,ok,h0,hk=>by
  have hd:=Hw F L H sl 1 (by omega)
  have n1:(aK H).length=m:=by simp[aK,hH]
  simp only[sJ,dX,List.any_nil,Bool.not_false,bat]
  unfold loopW
  conv=>lhs;arg 1;unfold jK
  simp -implicitDefEqProofs (disch:=first|assumption|omega) only[go_sem,simprocAttr,show(m:Int)≤k by omega,n1,hd]
 |n+1,k,ok,h0,hk=>by
  have hd:=Hw F L H sl 1 (by omega)
  have ih1:=Gg F L H sl r h m hm hF hL hH hr0 hrm n (k+1) ok (by omega) (by omega)
  have ih2:=Gg F L H sl r h m hm hF hL hH hr0 hrm n (k+1) false (by omega) (by omega)
  have f1:=(bF (zs:=H) h0 (by omega)).1
  have f2:=(bF (zs:=F) h0 (by omega)).1
  have f3:=(bF (zs:=L) h0 (by omega)).1
  have f4:=(bF (zs:=F) hr0 (by omega)).1
  have f5:=(bF (zs:=L) hr0 (by omega)).1
  have n1:(aK H).length=m:=by simp[aK,hH]
  have n2:(aK F).length=m:=by simp[aK,hF]
  have n3:(aK L).length=m:=by simp[aK,hL]
  rw[sJ,dX,List.any_cons,←dX]
  generalize dX F L H (sJ (k+1) n) r h=B0 at *
  generalize aX H k=hs at *
  generalize aX F k=fs at *
  generalize aX L k=ls at *
  generalize aX F r=fR at *
  generalize aX L r=lR at *
  conv=>lhs;unfold loopW;arg 1;unfold jK
  have hkm:k<(m:Int):=by omega
  by_cases c3:hs=h
  ·subst c3
   by_cases c1:fs≤lR
   ·by_cases c2:fR≤ls
    ·rw[bfa] at ih2
     simp only[decide_true,bta,c1,c2,Bool.true_or,Bool.not_true,zzn]
     rw[←ih2]
     simp -implicitDefEqProofs (disch:=first|assumption|omega) only[go_sem,simprocAttr,f1,f2,f3,f4,f5,n1,n2,n3,c1,c2,hd,hkm]
    ·simp only[decide_false,decide_true,bta,zzn,c2,Bool.false_or]
     rw[←ih1]
     simp -implicitDefEqProofs (disch:=first|assumption|omega) only[go_sem,simprocAttr,f1,f2,f3,f4,f5,n1,n2,n3,c1,c2,hd,hkm]
   ·simp only[decide_false,decide_true,bta,bfa,c1,Bool.false_or]
    rw[←ih1]
    simp -implicitDefEqProofs (disch:=first|assumption|omega) only[go_sem,simprocAttr,f1,f2,f3,f4,f5,n1,n2,n3,c1,hd,hkm]
  ·simp only[decide_false,bfa,c3,Bool.false_or]
   rw[←ih1]
   simp -implicitDefEqProofs (disch:=first|assumption|omega) only[go_sem,simprocAttr,f1,n1,c3,hd,hkm]
theorem zkk(F L H:List Int)(sl r:Int)(m:Nat)(hm:m≤250)(hF:F.length=m)(hL:L.length=m)(hH:H.length=m)(hr0:0≤r)(hrm:r<m) :
  evCW tab tT [.ptr (0,0) [] 0 0,I r] (wkH F L H sl) 1=some (I (nW F L H (sJ 0 m) r),wkH F L H sl):=by
 have hd:=Hw F L H sl 1 (by omega)
 have g:=fun h=>Gg F L H sl r h m hm hF hL hH hr0 hrm m 0 true (by omega) (by omega)
 simp only[bta] at g
 have l3:loopW tab [0,1,5] bO {env:=upd (upd (upd emp 5 (some (I 3))) 1 (some (I r))) 0 (some (.ptr (0,0) [] 0 0)),heap:=wkH F L H sl,fr:=1,next:=0}=some (.ext 0,{env:=emp,heap:=wkH F L H sl,fr:=1,next:=0}):=by
  unfold loopW
  conv=>lhs;arg 1;unfold bO
  simp -implicitDefEqProofs (disch:=first|assumption|omega) only[go_sem,simprocAttr,hd]
 rw[dM Gh _ _ _ rfl,vW]
 unfold nW
 have g0:=g 0
 have g1:=g 1
 have g2:=g 2
 generalize dX F L H (sJ 0 m) r 0=B0 at *
 generalize dX F L H (sJ 0 m) r 1=B1 at *
 generalize dX F L H (sJ 0 m) r 2=B2 at *
 have l2:loopW tab [0,1,5] bO {env:=upd (upd (upd emp 5 (some (I 2))) 1 (some (I r))) 0 (some (.ptr (0,0) [] 0 0)),heap:=wkH F L H sl,fr:=1,next:=0}=if B2=false then some (.ret,{env:=upd emp 4 (some (I 2)),heap:=wkH F L H sl,fr:=1,next:=0}) else some (.ext 0,{env:=emp,heap:=wkH F L H sl,fr:=1,next:=0}):=by
  cases B2<;>simp only[if_true,if_false,Bool.true_eq_false,←l3,Bool.not_true,Bool.not_false] at *
  ·conv=>lhs;unfold loopW;arg 1;unfold bO
   simp -implicitDefEqProofs (disch:=first|assumption|omega) only[go_sem,simprocAttr,g2,hd]
  ·conv=>lhs;unfold loopW;arg 1;unfold bO
   simp -implicitDefEqProofs (disch:=first|assumption|omega) only[go_sem,simprocAttr,g2,hd]
 have l1:loopW tab [0,1,5] bO {env:=upd (upd (upd emp 5 (some (I 1))) 1 (some (I r))) 0 (some (.ptr (0,0) [] 0 0)),heap:=wkH F L H sl,fr:=1,next:=0}=if B1=false then some (.ret,{env:=upd emp 4 (some (I 1)),heap:=wkH F L H sl,fr:=1,next:=0}) else if B2=false then some (.ret,{env:=upd emp 4 (some (I 2)),heap:=wkH F L H sl,fr:=1,next:=0}) else some (.ext 0,{env:=emp,heap:=wkH F L H sl,fr:=1,next:=0}):=by
  rw[←l2]
  clear l2 g0 g2
  cases B1<;>simp only[if_true,if_false,Bool.true_eq_false,Bool.not_true,Bool.not_false] at *
  ·conv=>lhs;unfold loopW;arg 1;unfold bO
   simp -implicitDefEqProofs (disch:=first|assumption|omega) only[go_sem,simprocAttr,g1,hd]
  ·conv=>lhs;unfold loopW;arg 1;unfold bO
   simp -implicitDefEqProofs (disch:=first|assumption|omega) only[go_sem,simprocAttr,g1,hd]
 have l0:loopW tab [0,1,5] bO {env:=upd (upd (upd emp 5 (some (I 0))) 1 (some (I r))) 0 (some (.ptr (0,0) [] 0 0)),heap:=wkH F L H sl,fr:=1,next:=0}=if B0=false then some (.ret,{env:=upd emp 4 (some (I 0)),heap:=wkH F L H sl,fr:=1,next:=0}) else if B1=false then some (.ret,{env:=upd emp 4 (some (I 1)),heap:=wkH F L H sl,fr:=1,next:=0}) else if B2=false then some (.ret,{env:=upd emp 4 (some (I 2)),heap:=wkH F L H sl,fr:=1,next:=0}) else some (.ext 0,{env:=emp,heap:=wkH F L H sl,fr:=1,next:=0}):=by
  rw[←l1]
  clear l1 l2 g1 g2
  cases B0<;>simp only[if_true,if_false,Bool.true_eq_false,Bool.not_true,Bool.not_false] at *
  ·conv=>lhs;unfold loopW;arg 1;unfold bO
   simp -implicitDefEqProofs (disch:=first|assumption|omega) only[go_sem,simprocAttr,g0,hd]
  ·conv=>lhs;unfold loopW;arg 1;unfold bO
   simp -implicitDefEqProofs (disch:=first|assumption|omega) only[go_sem,simprocAttr,g0,hd]
 clear g0 g1 g2 l1 l2 l3
 cases B0<;>cases B1<;>cases B2<;>simp only[if_true,if_false,Bool.true_eq_false] at l0 ⊢ <;> simp -implicitDefEqProofs (disch:=first|assumption|omega) only[go_sem,simprocAttr,l0,hd]
set_option maxRecDepth 8000
set_option maxHeartbeats 8000000
theorem Xu(u:ZB)(F L:List Int)(Cb:BL)(sl:Int)(m:Nat)(hm:m≤250)(hp0:0≤u.fParams)(hp4:u.fParams≤4)(hpm:u.fParams≤m):∀(n:Nat) (j:Int) (H:List Int),0≤j→j+n=u.fParams→H.length=m →
  loopW tab [1,4,5,6] iQ {env:=upd (upd (upd (upd emp 6 (some (I j))) 5 (some (.ptr (0,0) [] 0 0))) 4 (some (.d (.r (bR Cb))))) 1 (some (uV u)),heap:=wkH F L H sl,fr:=0,next:=1} =
  some (.ext 0,{env:=upd (upd (upd emp 5 (some (.ptr (0,0) [] 0 0))) 4 (some (.d (.r (bR Cb))))) 1 (some (uV u)),heap:=wkH F L (H.take j.toNat++(hY u.fParams j n++H.drop u.fParams.toNat)) sl,fr:=0,next:=1})
 |0,j,H,h0,hk,hH=>by
  have e:H.take j.toNat++(hY u.fParams j 0++H.drop u.fParams.toNat)=H:=by
   rw[show j=u.fParams by omega,hY,List.nil_append,List.take_append_drop]
  rw[e]
  unfold loopW
  conv=>lhs;arg 1;unfold iQ
  simp -implicitDefEqProofs (disch:=first|assumption|omega) only[go_sem,simprocAttr,show u.fParams≤j by omega]
 |n+1,j,H,h0,hk,hH=>by
  have ih:=Xu u F L Cb sl m hm hp0 hp4 hpm n (j+1) (H.set j.toNat (10+j)) (by omega) (by omega) (by simp[hH])
  rw[mY h0 (by omega),List.drop_set_of_lt (by omega)] at ih
  rw[hY,if_pos (by omega),show H.take j.toNat++((10+j)::hY u.fParams (j+1) n++H.drop u.fParams.toNat)=H.take j.toNat++[10+j]++(hY u.fParams (j+1) n++H.drop u.fParams.toNat) by simp,←ih]
  have n1:(aK H).length=m:=by simp[aK,hH]
  have f1:=(bF (zs:=H) h0 (by omega)).1
  have g1:=cS H j.toNat (10+j)
  generalize aX H j=z at *
  conv=>lhs;unfold loopW;arg 1;unfold iQ
  simp -implicitDefEqProofs (disch:=first|assumption|omega) only[go_sem,simprocAttr,show j<u.fParams by omega,n1,f1,g1]
theorem M8(u:ZB)(F L C:List Int)(Cb:BL)(m:Nat)(hu:u.fRegs=m)(hm:m≤250)(hF:F.length=m)(hL:L.length=m)(hCb:Cb.length=m)(hC:∀r:Int,0≤r→(Cb[r.toNat]? = some true↔r∈C))(q:Int):∀(n:Nat) (r:Int) (H:List Int) (sl:Int),0≤r→r+n=m→H.length=m→0≤sl→sl≤1000000+r →
  loopW tab [1,4,5,7,8] fE {env:=upd (upd (upd (upd (upd emp 8 (some (I r))) 7 (some (I q))) 5 (some (.ptr (0,0) [] 0 0))) 4 (some (.d (.r (bR Cb))))) 1 (some (uV u)),heap:=wkH F L H sl,fr:=0,next:=1} =
  some (.ext 4,{env:=upd (upd (upd (upd emp 7 (some (I q))) 5 (some (.ptr (0,0) [] 0 0))) 4 (some (.d (.r (bR Cb))))) 1 (some (uV u)),heap:=wkH F L ((n8 F q r n).foldl (asg F L C) (H,sl)).1 ((n8 F q r n).foldl (asg F L C) (H,sl)).2,fr:=0,next:=1})
 |0,r,H,sl,h0,hk,hH,hs0,hs1=>by
  unfold loopW
  conv=>lhs;arg 1;unfold fE
  simp -implicitDefEqProofs (disch:=first|assumption|omega) only[go_sem,simprocAttr,show u.fRegs≤r by omega,n8,List.foldl_nil]
 |n+1,r,H,sl,h0,hk,hH,hs0,hs1=>by
  have n1:(aK H).length=m:=by simp[aK,hH]
  have n2:(aK F).length=m:=by simp[aK,hF]
  have f2:=(bF (zs:=F) h0 (by omega)).1
  have f1:=(bF (zs:=H) h0 (by omega)).1
  have hru:r<u.fRegs:=by omega
  rw[n8]
  by_cases hq:aX F r=q
  ·rw[if_pos hq,List.foldl_cons]
   have hsl:=Sv F L C (H,sl) r
   have ih:=M8 u F L C Cb m hu hm hF hL hCb hC q n (r+1) (asg F L C (H,sl) r).1 (asg F L C (H,sl) r).2 (by omega) (by omega) (by rw[X8];exact hH) (by have:=hsl.1;simp only at this;omega) (by have:=hsl.2;simp only at this;omega)
   rw[show((asg F L C (H,sl) r).1,(asg F L C (H,sl) r).2)=asg F L C (H,sl) r from rfl] at ih
   rw[←ih]
   have g0:=zkk F L H sl r m hm hF hL hH h0 (by omega)
   have hb:=Ie F L H (sJ 0 m) r
   have c1:=hC r h0
   have hlt:r.toNat<Cb.length:=by omega
   have c2:=iG (List.getElem?_eq_getElem hlt)
   rw[List.getElem?_eq_getElem hlt,oi] at c1
   have n4:(bR Cb).length=m:=by simp[hCb]
   generalize Cb[r.toNat]=cb at *
   have s1:=cS H r.toNat (10+sl)
   have s2:=cS H r.toNat (nW F L H (sJ 0 m) r)
   unfold asg
   simp only[hH]
   generalize nW F L H (sJ 0 m) r=fp at *
   generalize aX H r=z at *
   rw[hq] at f2
   clear hsl ih
   conv=>lhs;unfold loopW;arg 1;unfold fE
   cases cb
   ·have hc:¬r∈C:=fun h=>by simpa using c1.2 h
    by_cases hf:fp<0
    ·rw[if_pos (.inl hf)]
     simp -implicitDefEqProofs (disch:=first|assumption|omega) only[go_sem,simprocAttr,n1,n2,f1,f2,n4,c2,g0,s1,hf,hru]
    ·rw[if_neg (by rintro(h|h);exact hf h;exact hc h)]
     simp -implicitDefEqProofs (disch:=first|assumption|omega) only[go_sem,simprocAttr,n1,n2,f1,f2,n4,c2,g0,s2,hf,hru]
   ·rw[if_pos (.inr (c1.1 rfl))]
    simp -implicitDefEqProofs (disch:=first|assumption|omega) only[go_sem,simprocAttr,n1,n2,f1,f2,n4,c2,s1,hru]
  ·rw[if_neg hq]
   have ih:=M8 u F L C Cb m hu hm hF hL hCb hC q n (r+1) H sl (by omega) (by omega) hH hs0 (by omega)
   rw[←ih]
   generalize aX F r=z at *
   conv=>lhs;unfold loopW;arg 1;unfold fE
   simp -implicitDefEqProofs (disch:=first|assumption|omega) only[go_sem,simprocAttr,n2,f2,hq,hru]
theorem C0(F L C:List Int):∀(ls:List Int) (S:List Int×Int),S.2≤(ls.foldl (asg F L C) S).2∧(ls.foldl (asg F L C) S).2≤S.2+ls.length
 |[],S=>by simp
 |r::ls,S=>by
  have h1:=Sv F L C S r
  have h2:=C0 F L C ls (asg F L C S r)
  rw[List.foldl_cons,lc]
  omega
theorem Om(F:List Int)(q:Int):∀(k:Nat) (j:Int),(n8 F q j k).length≤k
 |0,j=>by simp[n8]
 |k+1,j=>by
  have:=Om F q k (j+1)
  rw[n8]
  split
  ·simp;omega
  ·omega
theorem Yn(u:ZB)(F L C:List Int)(Cb:BL)(m:Nat)(hu:u.fRegs=m)(hm:m≤250)(hF:F.length=m)(hL:L.length=m)(hCb:Cb.length=m)(hC:∀r:Int,0≤r→(Cb[r.toNat]? = some true↔r∈C))(hp0:0≤u.fParams)(hpm:u.fParams≤m)(hcl:u.fCode.length≤900):∀(n:Nat) (q:Int) (H:List Int) (sl:Int),0≤q→q+n=u.fCode.length→H.length=m→0≤sl→sl≤4+250*q →
  loopW tab [1,4,5,7] iJ {env:=upd (upd (upd (upd emp 7 (some (I q))) 5 (some (.ptr (0,0) [] 0 0))) 4 (some (.d (.r (bR Cb))))) 1 (some (uV u)),heap:=wkH F L H sl,fr:=0,next:=1} =
  some (.ext 2,{env:=upd emp 5 (some (.ptr (0,0) [] 0 0)),heap:=wkH F L ((Bi F u.fParams (m-u.fParams.toNat) q n).foldl (asg F L C) (H,sl)).1 ((Bi F u.fParams (m-u.fParams.toNat) q n).foldl (asg F L C) (H,sl)).2,fr:=0,next:=1})
 |0,q,H,sl,h0,hk,hH,hs0,hs1=>by
  unfold loopW
  conv=>lhs;arg 1;unfold iJ
  simp -implicitDefEqProofs (disch:=first|assumption|omega) only[go_sem,simprocAttr,show(u.fCode.length:Int)≤q by omega,Bi,List.foldl_nil]
 |n+1,q,H,sl,h0,hk,hH,hs0,hs1=>by
  rw[Bi,List.foldl_append]
  have g:=M8 u F L C Cb m hu hm hF hL hCb hC q (m-u.fParams.toNat) u.fParams H sl hp0 (by omega) hH hs0 (by omega)
  have hsl:=C0 F L C (n8 F q u.fParams (m-u.fParams.toNat)) (H,sl)
  have hln:=Pe F L C (n8 F q u.fParams (m-u.fParams.toNat)) (H,sl)
  have hse:=Om F q (m-u.fParams.toNat) u.fParams
  simp only at hsl hln
  have ih:=Yn u F L C Cb m hu hm hF hL hCb hC hp0 hpm hcl n (q+1) ((n8 F q u.fParams (m-u.fParams.toNat)).foldl (asg F L C) (H,sl)).1 ((n8 F q u.fParams (m-u.fParams.toNat)).foldl (asg F L C) (H,sl)).2 (by omega) (by omega) (by rw[hln];exact hH) (by omega) (by omega)
  rw[show(((n8 F q u.fParams (m-u.fParams.toNat)).foldl (asg F L C) (H,sl)).1,((n8 F q u.fParams (m-u.fParams.toNat)).foldl (asg F L C) (H,sl)).2)=(n8 F q u.fParams (m-u.fParams.toNat)).foldl (asg F L C) (H,sl) from rfl] at ih
  rw[←ih]
  clear ih hsl hln hse
  generalize ((n8 F q u.fParams (m-u.fParams.toNat)).foldl (asg F L C) (H,sl)).1=S1 at *
  generalize ((n8 F q u.fParams (m-u.fParams.toNat)).foldl (asg F L C) (H,sl)).2=S2 at *
  conv=>lhs;unfold loopW;arg 1;unfold iJ
  simp -implicitDefEqProofs (disch:=first|assumption|omega) only[go_sem,simprocAttr,show q<(u.fCode.length:Int) by omega,g]
theorem Hz(pr:Int):∀(a b:Nat) (j:Int),j+a=pr→hY pr j (a+b)=hY pr j a++List.replicate b (-1)
 |0,b,j,h=>by rw[Nat.zero_add,hY,List.nil_append,K6 b j (by omega)]
 |a+1,b,j,h=>by
  rw[show a+1+b=(a+b)+1 by omega,hY,hY,Hz pr a b (j+1) (by omega),List.cons_append]
theorem zjV{t:ZA}{o:BL}{r:Int}(h:r∈tC t o):0≤r∧r<o.length:=by
 unfold tC at h
 split at h
 ·exact v8 (List.mem_filter.1 h).1
 ·simp at h
theorem Kx{m z:Nat}(hz:z=m):∀{ts:List ZA} {os:List BL},(∀o∈os,o.length=m)→∀r∈iI ts os,0≤r∧r<z
 |[],_,_,r,h=>by simp[iI] at h
 |_::_,[],_,r,h=>by simp[iI] at h
 |t::ts,o::os,ho,r,h=>by
  rw[iI,List.mem_append] at h
  rcases h with h|h
  ·have:=zjV h
   have:=ho o (by simp)
   omega
  ·exact Kx hz (fun o h=>ho o (by simp[h])) r h
theorem Bx(u:ZB)(hs:u.sm)(hr:Right u):∃F L:List Int,call tab qX [u.x]=some (.rop [.r (aK F),.r (aK L),.r (aK (homU u).1),DI (homU u).2]):=by
 refine⟨(spU u).1,(spU u).2,?_⟩
 obtain⟨hL,h1⟩:=Ic u hr hs
 have h2:=zJ u hr hL
 have h3:=By u hs hr hL
 obtain⟨hr0,hr1⟩:=hr.regs
 obtain⟨hp0,hp4,hpm⟩:=hr.pars
 have hl:=hr.len
 obtain⟨hF,hLl⟩:=Lk u
 have h4:=Yu u.fRegs hr0 hr1
 have g0:=Xu u (spU u).1 (spU u).2 (bH true (zB u) (crU u)) u.fParams u.fRegs.toNat (by omega) hp0 hp4 (by omega) u.fParams.toNat 0 (List.replicate u.fRegs.toNat (-1)) (by omega) (by omega) (by simp)
 have e1:(List.replicate u.fRegs.toNat (-1:Int)).take (0:Int).toNat++(hY u.fParams 0 u.fParams.toNat++(List.replicate u.fRegs.toNat (-1)).drop u.fParams.toNat)=hY u.fParams 0 u.fRegs.toNat:=by
  rw[show(0:Int).toNat=0 from rfl,List.take_zero,List.nil_append,List.drop_replicate,←Hz u.fParams u.fParams.toNat (u.fRegs.toNat-u.fParams.toNat) 0 (by omega),show u.fParams.toNat+(u.fRegs.toNat-u.fParams.toNat)=u.fRegs.toNat by omega]
 rw[e1] at g0
 have hcb:∀r∈crU u,0≤r∧r<(zB u).length:=Kx (by simp) (oF hL).2
 have g1:=Yn u (spU u).1 (spU u).2 (crU u) (bH true (zB u) (crU u)) u.fRegs.toNat (by omega) (by omega) hF hLl (by rw[iC];simp) (fun r h0=>by
  have:=Ca r.toNat (crU u) (zB u) hcb
  rw[this,show(r.toNat:Int)=r by omega]
  constructor
  ·rintro(h|h)
   ·exact h
   ·exact absurd h (N4 _ _)
  ·exact .inl) hp0 (by omega) (by omega) u.fCode.length 0 (hY u.fParams 0 u.fRegs.toNat) u.fParams (by omega) (by omega) (G7 _ _ _) hp0 (by omega)
 rw[show(Bi (spU u).1 u.fParams (u.fRegs.toNat-u.fParams.toNat) 0 u.fCode.length).foldl (asg (spU u).1 (spU u).2 (crU u)) (hY u.fParams 0 u.fRegs.toNat,u.fParams)=homU u from rfl] at g1
 have e2:fzs (bM (live u))=bMr (live u):=zvf _
 have e3:=Cq (bH true (zB u) (crU u))
 rw[aS D0 _ rfl,uM]
 clear e1 hcb
 simp only[wkH] at g0 g1
 generalize bH true (zB u) (crU u)=Cb at *
 generalize hY u.fParams 0 u.fRegs.toNat=H at *
 generalize (spU u).1=F at *
 generalize (spU u).2=L at *
 generalize homU u=S at *
 obtain⟨S1,S2⟩:=S
 simp -implicitDefEqProofs (disch:=first|assumption|omega|(simp only[aI,aP,aH,i64,sa,aC,lm,la,lc,ln];omega)) only[go_sem,simprocAttr,h1,h2,h3,h4,e2,e3,g0,g1,cO]
end Go.Ev.G
