import Derived.Test.YtenclibcnjkamaaGreatEvPLiv5
import Derived.Test.YtenclibcnjkamaaGreatEvPSrt9
set_option linter.all false
namespace Go.Ev.G
set_option maxRecDepth 8000
set_option maxHeartbeats 4000000
theorem Tz(xs:List Int)(y:Int)(hx:xs.length≤140737488351232):∀(Bl:List Int) (j:Int),xs.drop j.toNat=Bl→0≤j →
  loopW tab [0,1,7,8] dK {env:=upd (upd (upd (upd emp 8 (some (I j))) 7 (some (I (xs.length:Int)))) 1 (some (I y))) 0 (some (.d (.r (aG xs)))),heap:=emp,fr:=0,next:=0} =
  if aZ (fun x=>decide (x=y)) j Bl= -1 then some (.ext 0,{env:=emp,heap:=emp,fr:=0,next:=0}) else some (.ret,{env:=upd emp 4 (some (I (aZ (fun x=>decide (x=y)) j Bl))),heap:=emp,fr:=0,next:=0})
 |[],j,hd,hj=>by
  have hh:=cJ hd hj
  unfold loopW
  conv=>lhs;arg 1;unfold dK
  simp only[aZ,if_true]
  simp -implicitDefEqProofs (disch:=first|assumption|omega) only[go_sem,simprocAttr,hh]
 |x::Bl,j,hd,hj=>by
  have hc:=bT hd hj
  have h4:=hc.2.1
  have h2:=d6 (fun n=>[DI n]) hc.1
  have ih:=Tz xs y hx Bl (j+1) hc.2.2.1 (by omega)
  by_cases hp:x=y
  ·have hf:aZ (fun x=>decide (x=y)) j (x::Bl)=j:=by rw[aZ];exact if_pos (by simpa using hp)
   rw[hf,if_neg (by omega)]
   conv=>lhs;unfold loopW;arg 1;unfold dK
   simp -implicitDefEqProofs (disch:=first|assumption|omega) only[go_sem,simprocAttr,h2,h4,hp]
  ·have hf:aZ (fun x=>decide (x=y)) j (x::Bl)=aZ (fun x=>decide (x=y)) (j+1) Bl:=by rw[aZ];exact if_neg (by simpa using hp)
   rw[hf,←ih]
   conv=>lhs;unfold loopW;arg 1;unfold dK
   simp -implicitDefEqProofs (disch:=first|assumption|omega) only[go_sem,simprocAttr,h2,h4,show ¬y=x from fun h=>hp h.symm]
theorem Gz{α:Type}(p:α→Bool):∀(xs:List α) (j:Int),0≤j→(aZ p j xs= -1↔∀x∈xs,p x=false)
 |[],j,h=>by simp[aZ]
 |x::xs,j,h=>by
  rw[aZ]
  split
  ·rename_i hp
   constructor
   ·intro h;omega
   ·intro h;have:=h x (by simp);rw[hp] at this;simp at this
  ·rename_i hp
   rw[Gz p xs (j+1) (by omega)]
   simp[hp]
theorem zQk(xs:List Int)(y:Int)(hx:xs.length≤140737488351232):call tab lN [.d (.r (aG xs)),I y]=some (I (aZ (fun x=>decide (x=y)) 0 xs)):=by
 rw[aT zM _ rfl,oY]
 have h0:=Tz xs y hx xs 0 rfl (by omega)
 by_cases hp:aZ (fun x=>decide (x=y)) 0 xs= -1
 ·rw[if_pos hp] at h0
  simp -implicitDefEqProofs (disch:=first|assumption|omega) only[go_sem,simprocAttr,h0,hp]
 ·rw[if_neg hp] at h0
  simp -implicitDefEqProofs (disch:=first|assumption|omega) only[go_sem,simprocAttr,h0,hp]
theorem Km(xs:List Int)(y:Int)(hx:xs.length≤140737488351232):call tab eR [.d (.r (aG xs)),I y]=some (B (decide (y∈xs))):=by
 rw[aT t6 _ rfl,mR]
 have h0:=zQk xs y hx
 have h1:=pH (fun x=>decide (x=y)) xs 0 (by omega)
 have h2:=Gz (fun x=>decide (x=y)) xs 0 (by omega)
 have h3:decide (y∈xs)=decide (0≤aZ (fun x=>decide (x=y)) 0 xs):=by
  rw[decide_eq_decide]
  constructor
  ·intro hm
   have:¬aZ (fun x=>decide (x=y)) 0 xs= -1:=fun h=>by have:=h2.1 h y hm;simp at this
   omega
  ·intro h
   refine Classical.byContradiction fun hm=> ?_
   have:=h2.2 (fun x hx=>by simp;exact fun e=>hm (e ▸ hx))
   omega
 rw[h3]
 generalize aZ (fun x=>decide (x=y)) 0 xs=k at *
 simp -implicitDefEqProofs (disch:=first|assumption|omega) only[go_sem,simprocAttr,h0]
theorem zxc(a b c:Bool):call tab jR [.d (.r (bR [a,b,c])),B false]=some (I (if a=false then 0 else if b=false then 1 else if c=false then 2 else -1)):=by
 rw[aT wQ _ rfl,m6]
 have l3:loopW tab [0,1,7,8] bD {env:=upd (upd (upd (upd emp 8 (some (I 3))) 7 (some (I 3))) 1 (some (B false))) 0 (some (.d (.r (bR [a,b,c])))),heap:=emp,fr:=0,next:=0}=some (.ext 0,{env:=emp,heap:=emp,fr:=0,next:=0}):=by
  unfold loopW
  conv=>lhs;arg 1;unfold bD
  simp -implicitDefEqProofs (disch:=first|assumption|omega) only[go_sem,simprocAttr,show(false==true)=false from rfl]
 have l2:loopW tab [0,1,7,8] bD {env:=upd (upd (upd (upd emp 8 (some (I 2))) 7 (some (I 3))) 1 (some (B false))) 0 (some (.d (.r (bR [a,b,c])))),heap:=emp,fr:=0,next:=0}=if c=false then some (.ret,{env:=upd emp 4 (some (I 2)),heap:=emp,fr:=0,next:=0}) else some (.ext 0,{env:=emp,heap:=emp,fr:=0,next:=0}):=by
  cases c<;>simp only[Bool.true_eq_false,if_true,if_false,bR,mc,mn] at l3 ⊢
  ·conv=>lhs;unfold loopW;arg 1;unfold bD
   simp -implicitDefEqProofs (disch:=first|assumption|omega) only[go_sem,simprocAttr,show(false==true)=false from rfl]
  ·rw[←l3]
   conv=>lhs;unfold loopW;arg 1;unfold bD
   simp -implicitDefEqProofs (disch:=first|assumption|omega) only[go_sem,simprocAttr,show(false==true)=false from rfl]
 have l1:loopW tab [0,1,7,8] bD {env:=upd (upd (upd (upd emp 8 (some (I 1))) 7 (some (I 3))) 1 (some (B false))) 0 (some (.d (.r (bR [a,b,c])))),heap:=emp,fr:=0,next:=0}=if b=false then some (.ret,{env:=upd emp 4 (some (I 1)),heap:=emp,fr:=0,next:=0}) else if c=false then some (.ret,{env:=upd emp 4 (some (I 2)),heap:=emp,fr:=0,next:=0}) else some (.ext 0,{env:=emp,heap:=emp,fr:=0,next:=0}):=by
  cases b<;>simp only[Bool.true_eq_false,if_true,if_false,bR,mc,mn] at l2 ⊢
  ·conv=>lhs;unfold loopW;arg 1;unfold bD
   simp -implicitDefEqProofs (disch:=first|assumption|omega) only[go_sem,simprocAttr,show(false==true)=false from rfl]
  ·rw[←l2]
   conv=>lhs;unfold loopW;arg 1;unfold bD
   simp -implicitDefEqProofs (disch:=first|assumption|omega) only[go_sem,simprocAttr,show(false==true)=false from rfl]
 have l0:loopW tab [0,1,7,8] bD {env:=upd (upd (upd (upd emp 8 (some (I 0))) 7 (some (I 3))) 1 (some (B false))) 0 (some (.d (.r (bR [a,b,c])))),heap:=emp,fr:=0,next:=0}=if a=false then some (.ret,{env:=upd emp 4 (some (I 0)),heap:=emp,fr:=0,next:=0}) else if b=false then some (.ret,{env:=upd emp 4 (some (I 1)),heap:=emp,fr:=0,next:=0}) else if c=false then some (.ret,{env:=upd emp 4 (some (I 2)),heap:=emp,fr:=0,next:=0}) else some (.ext 0,{env:=emp,heap:=emp,fr:=0,next:=0}):=by
  cases a<;>simp only[Bool.true_eq_false,if_true,if_false,bR,mc,mn] at l1 ⊢
  ·conv=>lhs;unfold loopW;arg 1;unfold bD
   simp -implicitDefEqProofs (disch:=first|assumption|omega) only[go_sem,simprocAttr,show(false==true)=false from rfl]
  ·rw[←l1]
   conv=>lhs;unfold loopW;arg 1;unfold bD
   simp -implicitDefEqProofs (disch:=first|assumption|omega) only[go_sem,simprocAttr,show(false==true)=false from rfl]
 simp only[bR,mc,mn] at l0 ⊢
 cases a<;>cases b<;>cases c<;>simp only[Bool.true_eq_false,if_true,if_false,bR,mc,mn] at l0 ⊢ <;> simp -implicitDefEqProofs (disch:=first|assumption|omega) only[go_sem,simprocAttr,l0]
theorem zv5(n:Int)(hn:n≤250):∀(k:Nat) (j:Int),n-j=k→0≤j →
  loopW tab [0,3,4] mD {env:=upd (upd (upd emp 4 (some (I j))) 3 (some (.ref (0,0) []))) 0 (some (I n)),heap:=upd emp (0,0) (some (.s 1 (aG (List.replicate j.toNat (-1))))),fr:=0,next:=1} =
  some (.ext 0,{env:=upd emp 3 (some (.ref (0,0) [])),heap:=upd emp (0,0) (some (.s 1 (aG (List.replicate n.toNat (-1))))),fr:=0,next:=1})
 |0,j,hk,hj=>by
  have e:j=n:=by omega
  subst e
  unfold loopW
  conv=>lhs;arg 1;unfold mD
  simp -implicitDefEqProofs (disch:=first|assumption|omega) only[go_sem,simprocAttr]
 |k+1,j,hk,hj=>by
  have ih:=zv5 n hn k (j+1) (by omega) (by omega)
  rw[←ih]
  have hs:aG (List.replicate (j+1).toNat (-1))=aG (List.replicate j.toNat (-1))++[[DI (-1)]]:=by
   rw[show(j+1).toNat=j.toNat+1 by omega,List.replicate_succ']
   simp[aG]
  rw[hs]
  have hl:(aG (List.replicate j.toNat (-1))).length≤250:=by simp[aG];omega
  generalize aG (List.replicate j.toNat (-1))=W at *
  conv=>lhs;unfold loopW;arg 1;unfold mD
  simp -implicitDefEqProofs (disch:=first|assumption|omega|(simp only[aE,aL,aF,i64,sa,aB,lm,la,lc,ln];omega)) only[go_sem,simprocAttr,show j<n by omega]
theorem zvM(n:Int)(h0:0≤n)(hn:n≤250):call tab oT [I n]=some (.d (.s 1 (aG (List.replicate n.toNat (-1))))):=by
 rw[aT P0 _ rfl,Cf]
 have h:=zv5 n hn n.toNat 0 (by omega) (by omega)
 rw[show(0:Int).toNat=0 from rfl,List.replicate_zero,aG,mn,aG] at h
 simp -implicitDefEqProofs (disch:=first|assumption|omega|(simp only[aE,aL,aF,i64,sa,aB,lm,la,lc,ln];omega)) only[go_sem,simprocAttr,h]
set_option maxRecDepth 8000
set_option maxHeartbeats 4000000
theorem zZD(n:Int)(h0:0≤n)(h1:n≤1000000000)(fr:Nat)(hh:fr=1):evCW tab mW [.d (.s 1 []),I n] emp fr=some (.d (.s 1 []),emp):=by
 subst hh
 rw[aR A4 _ _ _ rfl,pB,Vk]
 have h:libS 3 {env:=kA 0 [.d (.s 1 []),I n],heap:=emp,fr:=1,next:=0}=some (.ret,{env:=upd emp 0 (some (.ref (1,0) [])),heap:=upd emp (1,0) (some (.s 1 [])),fr:=1,next:=0}):=by
  simp[libS,zvD,zJz,kA,upd,h0,h1]
 rw[h]
 simp -implicitDefEqProofs (disch:=first|assumption|omega|(simp only[aE,aL,aF,i64,sa,aB,lm,la,lc,ln];omega)) only[go_sem,simprocAttr]
theorem sM(a:List Int):((aG a).all fun el=>el.length==1)=true:=by simp[aG]
abbrev r3(a b c:List Int):List (List D):=[[.r (aG a)],[.r (aG b)],[.r (aG c)]]
theorem zxg(a b c:List Int)(ha:a.length≤2000000)(hb:b.length≤2000000)(hc:c.length≤2000000) :
  loopW tab [0,3,9,10,11] bQ {env:=upd (upd (upd (upd (upd emp 11 (some (I 0))) 10 (some (I 3))) 9 (some (.d (.r (r3 a b c))))) 3 (some (I 0))) 0 (some (.d (.r (r3 a b c)))),heap:=emp,fr:=0,next:=0} =
  some (.ext 0,{env:=upd (upd emp 3 (some (I (a.length+b.length+c.length:Int)))) 0 (some (.d (.r (r3 a b c)))),heap:=emp,fr:=0,next:=0}):=by
 have l3:loopW tab [0,3,9,10,11] bQ {env:=upd (upd (upd (upd (upd emp 11 (some (I 3))) 10 (some (I 3))) 9 (some (.d (.r (r3 a b c))))) 3 (some (I (a.length+b.length+c.length:Int)))) 0 (some (.d (.r (r3 a b c)))),heap:=emp,fr:=0,next:=0} =
  some (.ext 0,{env:=upd (upd emp 3 (some (I (a.length+b.length+c.length:Int)))) 0 (some (.d (.r (r3 a b c)))),heap:=emp,fr:=0,next:=0}):=by
  unfold loopW
  conv=>lhs;arg 1;unfold bQ
  simp -implicitDefEqProofs (disch:=first|assumption|omega) only[go_sem,simprocAttr]
 have l2:loopW tab [0,3,9,10,11] bQ {env:=upd (upd (upd (upd (upd emp 11 (some (I 2))) 10 (some (I 3))) 9 (some (.d (.r (r3 a b c))))) 3 (some (I (a.length+b.length:Int)))) 0 (some (.d (.r (r3 a b c)))),heap:=emp,fr:=0,next:=0} =
  some (.ext 0,{env:=upd (upd emp 3 (some (I (a.length+b.length+c.length:Int)))) 0 (some (.d (.r (r3 a b c)))),heap:=emp,fr:=0,next:=0}):=by
  rw[←l3]
  conv=>lhs;unfold loopW;arg 1;unfold bQ
  simp -implicitDefEqProofs (disch:=first|assumption|omega) only[go_sem,simprocAttr,aG,lm,show ¬(a.length+b.length+c.length:Int)<0 by omega]
 have l1:loopW tab [0,3,9,10,11] bQ {env:=upd (upd (upd (upd (upd emp 11 (some (I 1))) 10 (some (I 3))) 9 (some (.d (.r (r3 a b c))))) 3 (some (I (a.length:Int)))) 0 (some (.d (.r (r3 a b c)))),heap:=emp,fr:=0,next:=0} =
  some (.ext 0,{env:=upd (upd emp 3 (some (I (a.length+b.length+c.length:Int)))) 0 (some (.d (.r (r3 a b c)))),heap:=emp,fr:=0,next:=0}):=by
  rw[←l2]
  conv=>lhs;unfold loopW;arg 1;unfold bQ
  simp -implicitDefEqProofs (disch:=first|assumption|omega) only[go_sem,simprocAttr,aG,lm,show ¬(a.length+b.length:Int)<0 by omega]
 rw[←l1]
 conv=>lhs;unfold loopW;arg 1;unfold bQ
 simp -implicitDefEqProofs (disch:=first|assumption|omega) only[go_sem,simprocAttr,aG,lm,show ¬(a.length:Int)<0 by omega,show(0:Int)+a.length=a.length by omega]
theorem zw8(a b c:List Int)(ha:a.length≤2000000)(hb:b.length≤2000000)(hc:c.length≤2000000) :
  loopW tab [6,25,26,27] bS {env:=upd (upd (upd (upd emp 27 (some (I 0))) 26 (some (I 3))) 25 (some (.d (.r (r3 a b c))))) 6 (some (.ref (0,0) [])),heap:=upd emp (0,0) (some (.s 1 [])),fr:=0,next:=1} =
  some (.ext 2,{env:=upd emp 6 (some (.ref (0,0) [])),heap:=upd emp (0,0) (some (.s 1 (aG (a++b++c)))),fr:=0,next:=1}):=by
 have l3:loopW tab [6,25,26,27] bS {env:=upd (upd (upd (upd emp 27 (some (I 3))) 26 (some (I 3))) 25 (some (.d (.r (r3 a b c))))) 6 (some (.ref (0,0) [])),heap:=upd emp (0,0) (some (.s 1 (aG (a++b++c)))),fr:=0,next:=1} =
  some (.ext 2,{env:=upd emp 6 (some (.ref (0,0) [])),heap:=upd emp (0,0) (some (.s 1 (aG (a++b++c)))),fr:=0,next:=1}):=by
  unfold loopW
  conv=>lhs;arg 1;unfold bS
  simp -implicitDefEqProofs (disch:=first|assumption|omega) only[go_sem,simprocAttr]
 have l2:loopW tab [6,25,26,27] bS {env:=upd (upd (upd (upd emp 27 (some (I 2))) 26 (some (I 3))) 25 (some (.d (.r (r3 a b c))))) 6 (some (.ref (0,0) [])),heap:=upd emp (0,0) (some (.s 1 (aG (a++b)))),fr:=0,next:=1} =
  some (.ext 2,{env:=upd emp 6 (some (.ref (0,0) [])),heap:=upd emp (0,0) (some (.s 1 (aG (a++b++c)))),fr:=0,next:=1}):=by
  rw[←l3]
  have e:aG (a++b++c)=aG (a++b)++aG c:=by simp[aG]
  rw[e]
  have e1:(aG (a++b)).length≤4000000:=by simp[aG];omega
  have e2:(aG c).length≤2000000:=by simp[aG];omega
  have e3:=cM c
  have e4:=cM (a++b)
  generalize aG (a++b)=W at *
  conv=>lhs;unfold loopW;arg 1;unfold bS
  simp -implicitDefEqProofs (disch:=first|assumption|omega|(simp only[aE,aL,aF,i64,sa,aB,lm,la,lc,ln];omega)) only[go_sem,simprocAttr,Ca,sM]
 have l1:loopW tab [6,25,26,27] bS {env:=upd (upd (upd (upd emp 27 (some (I 1))) 26 (some (I 3))) 25 (some (.d (.r (r3 a b c))))) 6 (some (.ref (0,0) [])),heap:=upd emp (0,0) (some (.s 1 (aG a))),fr:=0,next:=1} =
  some (.ext 2,{env:=upd emp 6 (some (.ref (0,0) [])),heap:=upd emp (0,0) (some (.s 1 (aG (a++b++c)))),fr:=0,next:=1}):=by
  rw[←l2]
  have e:aG (a++b)=aG a++aG b:=by simp[aG]
  rw[e]
  have e1:(aG a).length≤4000000:=by simp[aG];omega
  have e2:(aG b).length≤2000000:=by simp[aG];omega
  conv=>lhs;unfold loopW;arg 1;unfold bS
  simp -implicitDefEqProofs (disch:=first|assumption|omega|(simp only[aE,aL,aF,i64,sa,aB,lm,la,lc,ln];omega)) only[go_sem,simprocAttr,Ca,sM]
 rw[←l1]
 have e2:(aG a).length≤2000000:=by simp[aG];omega
 conv=>lhs;unfold loopW;arg 1;unfold bS
 simp -implicitDefEqProofs (disch:=first|assumption|omega|(simp only[aE,aL,aF,i64,sa,aB,lm,la,lc,ln];omega)) only[go_sem,simprocAttr,Ca,sM]
theorem zw0(a b c:List Int)(ha:a.length≤2000000)(hb:b.length≤2000000)(hc:c.length≤2000000):call tab kM [.d (.r (r3 a b c))]=some (.d (.s 1 (aG (a++b++c)))):=by
 rw[aT w9 _ rfl,nY]
 have h0:=zxg a b c ha hb hc
 have h1:=zw8 a b c ha hb hc
 have h2:=zZD (a.length+b.length+c.length) (by omega) (by omega) 1 rfl
 simp -implicitDefEqProofs (disch:=first|assumption|omega|(simp only[aE,aL,aF,i64,sa,aB,lm,la,lc,ln];omega)) only[go_sem,simprocAttr,h0,h1,h2]
set_option maxRecDepth 8000
def rF(j:Int)(F:List Int)(ls:List Int):List Int:=ls.foldl (fun F r=>if aC F r<0 then F.set r.toNat j else F) F
def tY(j:Int)(L:List Int)(ls:List Int):List Int:=ls.foldl (fun L r=>L.set r.toNat j) L
theorem B3(j:Int):∀(ls F:List Int),(rF j F ls).length=F.length
 |[],F=>rfl
 |r::ls,F=>by
  rw[rF,List.foldl_cons,←rF,B3]
  split<;>simp
theorem Hs(j:Int):∀(ls L:List Int),(tY j L ls).length=L.length
 |[],L=>rfl
 |r::ls,L=>by rw[tY,List.foldl_cons,←tY,Hs,List.length_set]
theorem D1(j:Int)(hj:0≤j)(p:Nat):∀(ls F:List Int),(∀r∈ls,0≤r)→(rF j F ls)[p]? = F[p]?.map fun x=>if (p:Int)∈ls∧x<0 then j else x
 |[],F,h=>by simp[rF]
 |r::ls,F,h=>by
  have h0:=h r (by simp)
  rw[rF,List.foldl_cons,←rF,D1 j hj p ls _ (fun r hr=>h r (by simp[hr]))]
  cases hF:F[p]? with
  |none =>
   have:(if aC F r<0 then F.set r.toNat j else F)[p]? = none:=by
    rw[List.getElem?_eq_none_iff] at hF ⊢
    split<;>simpa using hF
   rw[this];rfl
  |some x =>
   by_cases e:r=p
   ·subst e
    have hg:aC F (p:Int)=x:=by simp[aC,hF]
    by_cases hx:x<0
    ·rw[if_pos (by rw[hg];exact hx),List.getElem?_set]
     have hp:p<F.length:=by
      refine Classical.byContradiction fun hn=> ?_
      rw[List.getElem?_eq_none (by omega)] at hF
      simp at hF
     simp only[Int.toNat_natCast,if_true,hp,oms,List.mem_cons,true_or,true_and,hx]
     have:¬j<0:=by omega
     simp[this]
    ·rw[if_neg (by rw[hg];exact hx),hF]
     simp[hx]
   ·have e2:(if aC F r<0 then F.set r.toNat j else F)[p]? = F[p]? := by
     split
     ·rw[List.getElem?_set,if_neg (by omega)]
     ·rfl
    rw[e2,hF]
    simp[show ¬(p:Int)=r by omega]
theorem Ic(j:Int)(p:Nat):∀(ls L:List Int),(∀r∈ls,0≤r)→(tY j L ls)[p]? = L[p]?.map fun x=>if (p:Int)∈ls then j else x
 |[],F,h=>by simp[tY]
 |r::ls,F,h=>by
  have h0:=h r (by simp)
  rw[tY,List.foldl_cons,←tY,Ic j p ls _ (fun r hr=>h r (by simp[hr])),List.getElem?_set]
  by_cases e:r=p
  ·subst e
   simp only[Int.toNat_natCast,if_true,List.mem_cons,true_or]
   by_cases hp:p<F.length
   ·simp[hp]
   ·simp[hp]
  ·rw[if_neg (by omega)]
   simp[show ¬(p:Int)=r by omega]
theorem zq2{j:Int}(hj:0≤j){a b F:List Int}(ha:∀r∈a,0≤r)(hb:∀r∈b,0≤r)(h:∀p:Nat,(p:Int)∈a↔(p:Int)∈b):rF j F a=rF j F b :=
 List.ext_getElem? fun p=>by rw[D1 j hj p a F ha,D1 j hj p b F hb];simp only[h p]
theorem zj2{j:Int}{a b F:List Int}(ha:∀r∈a,0≤r)(hb:∀r∈b,0≤r)(h:∀p:Nat,(p:Int)∈a↔(p:Int)∈b):tY j F a=tY j F b :=
 List.ext_getElem? fun p=>by rw[Ic j p a F ha,Ic j p b F hb];simp only[h p]
theorem T8:∀(a:BL) (j r:Int),r∈kV a j↔j≤r∧a[(r-j).toNat]? = some true
 |[],j,r=>by simp[kV]
 |x::a,j,r=>by
  have ih:=T8 a (j+1) r
  have hh:∀k:Int,j+1≤k→(x::a)[(k-j).toNat]? = a[(k-(j+1)).toNat]? := fun k hk=>by
   rw[show(k-j).toNat=(k-(j+1)).toNat+1 by omega,List.getElem?_cons_succ]
  have hz:(x::a)[(j-j).toNat]? = some x:=by rw[show(j-j).toNat=0 by omega];rfl
  rw[kV]
  by_cases e:r=j
  ·subst e
   rw[hz]
   cases x
   ·simp only[Bool.false_eq_true,if_false,ih]
    constructor
    ·intro h;omega
    ·intro h;simp at h
   ·simp
  ·cases x
   ·simp only[Bool.false_eq_true,if_false,ih]
    constructor
    ·intro h;rw[hh r h.1];exact⟨by omega,h.2⟩
    ·intro h;rw[hh r (by omega)] at h;exact⟨by omega,h.2⟩
   ·simp only[if_true,List.mem_cons,e,false_or,ih]
    constructor
    ·intro h;rw[hh r h.1];exact⟨by omega,h.2⟩
    ·intro h;rw[hh r (by omega)] at h;exact⟨by omega,h.2⟩
theorem Jc(a:BL)(r:Int):r∈dO a↔0≤r∧a[r.toNat]? = some true:=by
 rw[dO,T8];simp
theorem xO{a:BL}{r:Int}(h:r∈dO a):0≤r∧r<a.length:=by
 rw[Jc] at h
 refine⟨h.1,?_⟩
 refine Classical.byContradiction fun hn=> ?_
 rw[List.getElem?_eq_none (by omega)] at h
 simp at h
theorem Ue:∀(a:BL) (j:Int),(kV a j).length≤a.length
 |[],j=>by simp[kV]
 |x::a,j=>by
  rw[kV]
  have:=Ue a (j+1)
  split<;>simp<;>omega
theorem I5(a:BL):(dO a).length≤a.length:=Ue a 0
theorem Jq(p:Nat):∀(ls:List Int) (a:BL),(∀r∈ls,0≤r∧r<a.length)→((b7 true a ls)[p]? = some true↔(p:Int)∈ls∨a[p]? = some true)
 |[],a,h=>by simp[b7]
 |r::ls,a,h=>by
  have h0:=h r (by simp)
  rw[b7,List.foldl_cons,←b7,Jq p ls _ (fun r hr=>by rw[List.length_set];exact h r (by simp[hr])),List.getElem?_set]
  by_cases e:r=p
  ·subst e
   simp;omega
  ·rw[if_neg (by omega)]
   simp[show ¬(p:Int)=r by omega]
def q9(t:ZC)(o:BL):List Int:=bA t++bB t++dO o
def kC:List ZC→List BL→Int→List Int×List Int→List Int×List Int
 |t::ts,o::os,j,P=>kC ts os (j+1) (rF j P.1 (q9 t o),tY j P.2 (q9 t o))
 |_,_,_,P=>P
theorem Ud:∀(ts:List ZC) (os:List BL) (j:Int) (P:List Int×List Int),(kC ts os j P).1.length=P.1.length∧(kC ts os j P).2.length=P.2.length
 |[],_,j,P=>by simp[kC]
 |_::_,[],j,P=>by simp[kC]
 |t::ts,o::os,j,P=>by
  rw[kC]
  have:=Ud ts os (j+1) (rF j P.1 (q9 t o),tY j P.2 (q9 t o))
  simp only[B3,Hs] at this
  exact this
theorem zWT(t:ZC)(o:BL)(h:∀r∈bA t++bB t,0≤r∧r<o.length)(p:Nat):(p:Int)∈dO (b7 true o (bA t++bB t))↔(p:Int)∈q9 t o:=by
 rw[Jc,q9,List.mem_append,Jc]
 simp only[Int.natCast_nonneg,true_and,Int.toNat_natCast]
 exact Jq p _ _ h
def inJ(n:Int)(F:List Int):Prop:=∀x∈F,-1≤x∧x<n
theorem zvE{n:Int}{F:List Int}(h:inJ n F){p:Nat}{x:Int}(hx:F[p]? = some x): -1≤x∧x<n:=h x (List.mem_of_getElem? hx)
theorem z9D{n j:Int}(h0:0≤j)(h1:j<n){F:List Int}(hF:inJ n F){ls:List Int}(hl:∀r∈ls,0≤r):inJ n (rF j F ls):=fun x hx=>by
 obtain⟨p,hp⟩:=List.mem_iff_getElem?.1 hx
 rw[D1 j h0 p ls F hl] at hp
 cases e:F[p]? with
 |none=>rw[e] at hp;simp at hp
 |some y =>
  rw[e] at hp
  simp only[oms,oi] at hp
  have:=zvE hF e
  split at hp<;>omega
theorem zYe{n j:Int}(h0:0≤j)(h1:j<n){F:List Int}(hF:inJ n F){ls:List Int}(hl:∀r∈ls,0≤r):inJ n (tY j F ls):=fun x hx=>by
 obtain⟨p,hp⟩:=List.mem_iff_getElem?.1 hx
 rw[Ic j p ls F hl] at hp
 cases e:F[p]? with
 |none=>rw[e] at hp;simp at hp
 |some y =>
  rw[e] at hp
  simp only[oms,oi] at hp
  have:=zvE hF e
  split at hp<;>omega
theorem Yt(n:Int)(m:Nat):∀(ts:List ZC) (os:List BL) (j:Int) (P:List Int×List Int),0≤j→j+ts.length≤n→(∀t∈ts,∀r∈bA t++bB t,0≤r)→inJ n P.1→inJ n P.2→inJ n (kC ts os j P).1∧inJ n (kC ts os j P).2
 |[],_,j,P,_,_,_,h1,h2=>by simp only[kC];exact⟨h1,h2⟩
 |_::_,[],j,P,_,_,_,h1,h2=>by simp only[kC];exact⟨h1,h2⟩
 |t::ts,o::os,j,P,h0,hn,ht,h1,h2=>by
  rw[kC]
  simp only[lc] at hn
  have hl:∀r∈q9 t o,0≤r:=fun r hr=>by
   rcases List.mem_append.1 hr with h|h
   ·exact ht t (by simp) r h
   ·exact(xO h).1
  exact Yt n m ts os (j+1) _ (by omega) (by omega) (fun t h=>ht t (by simp[h])) (z9D h0 (by omega) h1 hl) (zYe h0 (by omega) h2 hl)
noncomputable def spU (u:ZD):List Int×List Int:=kC u.fCode (live u) 0 (List.replicate u.fRegs.toNat (-1),List.replicate u.fRegs.toNat (-1))
set_option maxRecDepth 8000
set_option maxHeartbeats 4000000
abbrev spH(F L:List Int):Heap:=upd (upd emp (0,1) (some (.s 1 (aG L)))) (0,0) (some (.s 1 (aG F)))
theorem Vb(u:ZD)(m:Nat)(hm:m≤250):∀(k:Nat) (F L:List Int) (j:Int),j+k=m→0≤j→F.length=m→L.length=m→(∀x∈F.take j.toNat,x= -1)→(∀x∈L.take j.toNat,x= -1) →
  loopW tab [1,4,5,22,23] oS {env:=upd (upd (upd (upd (upd emp 23 (some (I j))) 22 (some (I (m:Int)))) 5 (some (.ref (0,1) []))) 4 (some (.ref (0,0) []))) 1 (some (.vp [Str u.fName,I u.fParams,I u.fRegs,.d (.r (u.fCode.map ZC.r))])),heap:=spH F L,fr:=0,next:=2} =
  some (.ext 0,{env:=upd (upd (upd emp 5 (some (.ref (0,1) []))) 4 (some (.ref (0,0) []))) 1 (some (.vp [Str u.fName,I u.fParams,I u.fRegs,.d (.r (u.fCode.map ZC.r))])),heap:=spH (List.replicate m (-1)) (List.replicate m (-1)),fr:=0,next:=2})
 |0,F,L,j,hk,hj,hF,hL,h1,h2=>by
  have e1:F=List.replicate m (-1):=List.eq_replicate_iff.2 ⟨hF,fun x hx=>h1 x (by rw[List.take_of_length_le (by omega)];exact hx)⟩
  have e2:L=List.replicate m (-1):=List.eq_replicate_iff.2 ⟨hL,fun x hx=>h2 x (by rw[List.take_of_length_le (by omega)];exact hx)⟩
  rw[e1,e2]
  unfold loopW
  conv=>lhs;arg 1;unfold oS
  simp -implicitDefEqProofs (disch:=first|assumption|omega) only[go_sem,simprocAttr,show(m:Int)≤j by omega]
 |k+1,F,L,j,hk,hj,hF,hL,h1,h2=>by
  have ht:∀(A:List Int),A.length=m→(∀x∈A.take j.toNat,x= -1)→∀x∈(A.set j.toNat (-1)).take (j+1).toNat,x= -1:=fun A hA h x hx=>by
   rw[show(j+1).toNat=j.toNat+1 by omega,List.take_succ,List.take_set_of_le (Nat.le_refl _)] at hx
   rcases List.mem_append.1 hx with hx|hx
   ·exact h x hx
   ·simp[show j.toNat<A.length by omega] at hx;exact hx
  have ih:=Vb u m hm k (F.set j.toNat (-1)) (L.set j.toNat (-1)) (j+1) (by omega) (by omega) (by simp[hF]) (by simp[hL]) (ht F hF h1) (ht L hL h2)
  rw[←ih]
  have f1:(aG F).length=m:=by simp[aG,hF]
  have f2:(aG L).length=m:=by simp[aG,hL]
  have g1:=dL F j.toNat (-1)
  have g2:=dL L j.toNat (-1)
  have f3:=(bN (zs:=F) hj (by omega)).1
  have f4:=(bN (zs:=L) hj (by omega)).1
  generalize aC F j=z1 at *
  generalize aC L j=z2 at *
  conv=>lhs;unfold loopW;arg 1;unfold oS
  simp -implicitDefEqProofs (disch:=first|assumption|omega) only[go_sem,simprocAttr,show j<m by omega,f1,f2,f3,f4,g1,g2]
theorem Vc(C:List ZC)(N:List (List Int))(w:Int)(i:Int)(jj:Int)(m:Nat)(hm:m≤250)(hi:0≤i)(cs:List Int)(hcs:cs.length≤8000000)(hc:∀r∈cs,0≤r∧r<m):∀(Bl:List Int) (j:Int) (F L:List Int),cs.drop j.toNat=Bl→0≤j→F.length=m→L.length=m →
  loopW tab [4,5,7,8,36,37,38,52,53,54] oJ {env:=upd (upd (upd (upd (upd (upd (upd (upd (upd (upd emp 54 (some (I j))) 53 (some (I (cs.length:Int)))) 52 (some (.d (.r (aG cs))))) 38 (some (I jj))) 37 (some (I w))) 36 (some (.d (.r (C.map ZC.r))))) 8 (some (I i))) 7 (some (.d (.r (nMr N))))) 5 (some (.ref (0,1) []))) 4 (some (.ref (0,0) [])),heap:=spH F L,fr:=0,next:=2} =
  some (.ext 4,{env:=upd (upd (upd (upd (upd (upd emp 38 (some (I jj))) 37 (some (I w))) 36 (some (.d (.r (C.map ZC.r))))) 7 (some (.d (.r (nMr N))))) 5 (some (.ref (0,1) []))) 4 (some (.ref (0,0) [])),heap:=spH (rF i F Bl) (tY i L Bl),fr:=0,next:=2})
 |[],j,F,L,hd,hj,hF,hL=>by
  have hh:=cJ hd hj
  unfold loopW
  conv=>lhs;arg 1;unfold oJ
  simp -implicitDefEqProofs (disch:=first|assumption|omega) only[go_sem,simprocAttr,hh,rF,tY,List.foldl_nil]
 |r::Bl,j,F,L,hd,hj,hF,hL=>by
  have hc0:=bT hd hj
  have hr:=hc r hc0.2.2.2.1
  have h2:=d6 (fun n=>[DI n]) hc0.1
  have h4:=hc0.2.1
  have ih:=Vc C N w i jj m hm hi cs hcs hc Bl (j+1) (if aC F r<0 then F.set r.toNat i else F) (L.set r.toNat i) hc0.2.2.1 (by omega) (by split<;>simp[hF]) (by simp[hL])
  rw[rF,tY,List.foldl_cons,List.foldl_cons,←rF,←tY,←ih]
  have f1:(aG F).length=m:=by simp[aG,hF]
  have f2:(aG L).length=m:=by simp[aG,hL]
  have f3:=(bN (zs:=F) hr.1 (by omega)).1
  have f5:=(bN (zs:=L) hr.1 (by omega)).1
  generalize aC L r=z3 at *
  have g2:=dL L r.toNat i
  have g1:=dL F r.toNat i
  have f4:(aG (F.set r.toNat i)).length=m:=by simp[aG,hF]
  obtain⟨hr1,hr2⟩:=hr
  conv=>lhs;unfold loopW;arg 1;unfold oJ
  by_cases hn:aC F r<0
  ·rw[if_pos hn]
   generalize aC F r=z at *
   simp -implicitDefEqProofs (disch:=first|assumption|omega) only[go_sem,simprocAttr,h2,h4,f1,f2,f3,f4,f5,g1,g2,hn]
  ·rw[if_neg hn]
   generalize aC F r=z at *
   simp -implicitDefEqProofs (disch:=first|assumption|omega) only[go_sem,simprocAttr,h2,h4,f1,f2,f3,f4,f5,g1,g2,hn]
theorem T9(C:List ZC)(M:List BL)(m:Nat)(hm:m≤250)(hM:∀o∈M,o.length=m)(hMl:M.length=C.length)(hCl:C.length≤900)(hC:∀t∈C,t.sm∧∀r∈bA t++bB t,0≤r∧r<m):∀(Bl:List ZC) (Ml:List BL) (j:Int) (P:List Int×List Int),C.drop j.toNat=Bl→M.drop j.toNat=Ml→0≤j→P.1.length=m→P.2.length=m →
  loopW tab [4,5,7,36,37,38] oN {env:=upd (upd (upd (upd (upd (upd emp 38 (some (I j))) 37 (some (I (C.length:Int)))) 36 (some (.d (.r (C.map ZC.r))))) 7 (some (.d (.r (nMr (M.map dO)))))) 5 (some (.ref (0,1) []))) 4 (some (.ref (0,0) [])),heap:=spH P.1 P.2,fr:=0,next:=2} =
  some (.ext 2,{env:=upd (upd emp 5 (some (.ref (0,1) []))) 4 (some (.ref (0,0) [])),heap:=spH (kC Bl Ml j P).1 (kC Bl Ml j P).2,fr:=0,next:=2})
 |[],Ml,j,P,hd,hd2,hj,hF,hL=>by
  have hh:=cJ hd hj
  unfold loopW
  conv=>lhs;arg 1;unfold oN
  simp only[kC]
  simp -implicitDefEqProofs (disch:=first|assumption|omega) only[go_sem,simprocAttr,hh]
 |t::Bl,[],j,P,hd,hd2,hj,hF,hL=>by
  have h1:=(bT hd hj).2.1
  have h2:=cJ hd2 hj
  omega
 |t::Bl,o::Ml,j,P,hd,hd2,hj,hF,hL=>by
  have hc:=bT hd hj
  have hc2:=bT hd2 hj
  obtain⟨ht1,ht2⟩:=hC t hc.2.2.2.1
  have ho:=hM o hc2.2.2.2.1
  have hnl:(dO o).length≤250:=by have:=I5 o;omega
  have hin:∀r∈q9 t o,0≤r∧r<m:=fun r hr=>by
   rcases List.mem_append.1 hr with h|h
   ·exact ht2 r h
   ·have:=xO h;omega
  have hsl:(bA t).length≤2000000:=by have:=n6 t;omega
  have hul:(bB t).length≤2000000:=by have:=pK t;have:=ht1.2;omega
  have hcl:(q9 t o).length≤8000000:=by rw[q9,la,la];omega
  have ih:=T9 C M m hm hM hMl hCl hC Bl Ml (j+1) (rF j P.1 (q9 t o),tY j P.2 (q9 t o)) hc.2.2.1 hc2.2.2.1 (by omega) (by rw[B3];exact hF) (by rw[Hs];exact hL)
  rw[kC,←ih]
  have g0:=Vc C (M.map dO) C.length j j m hm hj (q9 t o) hcl hin (q9 t o) 0 P.1 P.2 rfl (by omega) hF hL
  have h2:=d6 ZC.r hc.1
  have h3:=d6 (fun l=>[D.r (aG l)]) (d6 dO hc2.1)
  have h4:=hc.2.1
  have h5:=zw0 (bA t) (bB t) (dO o) hsl hul (by omega)
  rw[show bA t++bB t++dO o=q9 t o from rfl] at h5
  have g1:=rW t
  have g2:=zW t ht1.2
  simp only[ZC.r] at h2
  generalize q9 t o=cs at *
  generalize bA t=sl at *
  generalize bB t=ul at *
  generalize dO o=nl at *
  have e2:fzs [[D.r (aG sl)],[D.r (aG ul)],[D.r (aG nl)]]=[[D.r (aG sl)],[D.r (aG ul)],[D.r (aG nl)]]:=by simp[fzs,fzl,D.fz,cM]
  simp only[r3] at h5
  have e3:D.noR.noRss (aG cs)=true:=n7 _ (fun n=>by simp[D.noR.noRs,D.noR]) cs
  have e1:(nMr (M.map dO)).length≤140737488351232:=by simp;omega
  conv=>lhs;unfold loopW;arg 1;unfold oN
  simp -implicitDefEqProofs (disch:=first|assumption|omega|(simp only[aE,aL,aF,i64,sa,aB,lm,la,lc,ln];omega)) only[go_sem,simprocAttr,h2,h3,h4,h5,g0,g1,g2,cM,e2,e3]
theorem pM{u:ZD}(h:(bH u).Least (live u)):(live u).length=u.fCode.length∧∀o∈live u,o.length=u.fRegs.toNat :=
 ⟨h.rows.len,fun a ha=>by
  obtain⟨k,hk,rfl⟩:=List.getElem_of_mem ha
  have:=h.rows.row k (by rw[←h.rows.len];exact hk)
  simp only[bU,List.getElem?_eq_getElem hk,Option.getD_some] at this
  exact this⟩
theorem wW{u:ZD}(hr:Right u):∀t∈u.fCode,∀r∈bA t++bB t,0≤r∧r<u.fRegs:=fun t ht=>by
 obtain⟨k,hk,rfl⟩:=List.getElem_of_mem ht
 exact hr.rs k _ (List.getElem?_eq_getElem hk)
theorem Sj(u:ZD)(hs:u.sm)(hu:qI u=true):call tab Fv [u.x]=some (.tup [.d (.s 1 (aG (spU u).1)),.d (.s 1 (aG (spU u).2))]):=by
 have hr:=lM hu
 obtain⟨I1,hI,hL,h1⟩:=lS u hr hs
 have h0:=lY u hs
 rw[hu] at h0
 have h2:=Aj u hs hu
 obtain⟨l1,l2⟩:=pM hL
 have hl:=hr.len
 obtain⟨hr0,hr1⟩:=hr.regs
 have e1:(u.fRegs.toNat:Int)=u.fRegs:=by omega
 have g0:=Vb u u.fRegs.toNat (by omega) u.fRegs.toNat (List.replicate u.fRegs.toNat 0) (List.replicate u.fRegs.toNat 0) 0 (by omega) (by omega) (by simp) (by simp) (by simp) (by simp)
 have g2:=T9 u.fCode (live u) u.fRegs.toNat (by omega) l2 l1 (by omega) (fun t ht=>⟨hs.2.2 t ht,fun r hr0=>by have:=wW hr t ht r hr0;omega⟩) u.fCode (live u) 0 (List.replicate u.fRegs.toNat (-1),List.replicate u.fRegs.toNat (-1)) rfl rfl (by omega) (by simp) (by simp)
 have e2:∀L,fzs (nM L)=nMr L:=fun L=>mP _ _ (fun l=>by simp only[fzl,D.fz,cM]) L
 have e3:(nMr ((live u).map dO)).length≤900:=by simp;omega
 rw[show kC u.fCode (live u) 0 (List.replicate u.fRegs.toNat (-1),List.replicate u.fRegs.toNat (-1))=spU u from rfl] at g2
 simp only[e1,spH] at g0 g2
 rw[aT W2 _ rfl,Ig]
 have e4:List.replicate u.fRegs.toNat [DI 0]=aG (List.replicate u.fRegs.toNat 0):=by simp[aG]
 generalize List.map dO (live u)=N at *
 simp -implicitDefEqProofs (disch:=first|assumption|omega|(simp only[aE,aL,aF,i64,sa,aB,lm,la,lc,ln];omega)) only[go_sem,simprocAttr,h0,h2,e2,e4,g0,g2]
set_option maxRecDepth 8000
set_option maxHeartbeats 4000000
abbrev z5M(F L:List Int)(b:BL):Heap:=upd (upd (upd emp (0,2) (some (.s 1 (bR b)))) (0,1) (some (.s 1 (aG L)))) (0,0) (some (.s 1 (aG F)))
abbrev z5r(F L:List Int)(b:BL)(cs:List Int):Heap:=upd (upd (upd (upd emp (0,3) (some (.s 1 (aG cs)))) (0,2) (some (.s 1 (bR b)))) (0,1) (some (.s 1 (aG L)))) (0,0) (some (.s 1 (aG F)))
abbrev uV(u:ZD):X:= .vp [Str u.fName,I u.fParams,I u.fRegs,.d (.r (u.fCode.map ZC.r))]
theorem T7(u:ZD)(M:List BL)(F L:List Int)(i:Int)(m:Nat)(hm:m≤250)(cs:List Int)(hcs:cs.length≤8000000)(hc:∀r∈cs,0≤r∧r<m):∀(Bl:List Int) (j:Int) (b:BL),cs.drop j.toNat=Bl→0≤j→b.length=m →
  loopW tab [1,2,6,7,8,9,10,11] kY {env:=upd (upd (upd (upd (upd (upd (upd (upd emp 11 (some (I j))) 10 (some (.ref (0,3) []))) 9 (some (.ref (0,2) []))) 8 (some (I i))) 7 (some (.ref (0,1) []))) 6 (some (.ref (0,0) []))) 2 (some (uV u))) 1 (some (.d (.r (bMr M)))),heap:=z5r F L b cs,fr:=0,next:=4} =
  some (.ext 2,{env:=upd (upd (upd (upd (upd (upd emp 9 (some (.ref (0,2) []))) 8 (some (I i))) 7 (some (.ref (0,1) []))) 6 (some (.ref (0,0) []))) 2 (some (uV u))) 1 (some (.d (.r (bMr M)))),heap:=z5M F L (b7 true b Bl),fr:=0,next:=3})
 |[],j,b,hd,hj,hb=>by
  have hh:=cJ hd hj
  unfold loopW
  conv=>lhs;arg 1;unfold kY
  simp -implicitDefEqProofs (disch:=first|assumption|omega) only[go_sem,simprocAttr,hh,b7,List.foldl_nil]
 |r::Bl,j,b,hd,hj,hb=>by
  have hc0:=bT hd hj
  obtain⟨hr1,hr2⟩:=hc r hc0.2.2.2.1
  have h2:=d6 (fun n=>[DI n]) hc0.1
  have h4:=hc0.2.1
  have ih:=T7 u M F L i m hm cs hcs hc Bl (j+1) (b.set r.toNat true) hc0.2.2.1 (by omega) (by simp[hb])
  rw[b7,List.foldl_cons,←b7,←ih]
  have f1:(bR b).length=m:=by simp[hb]
  have hlt:r.toNat<b.length:=by omega
  have f2:=kO (List.getElem?_eq_getElem hlt)
  have f3:=B7 b r.toNat true
  conv=>lhs;unfold loopW;arg 1;unfold kY
  simp -implicitDefEqProofs (disch:=first|assumption|omega) only[go_sem,simprocAttr,h2,h4,f1,f2,f3]
theorem Jg(u:ZD)(M:List BL)(i:Int)(hi:0≤i)(m:Nat)(hm:m≤250)(hu:u.fRegs=m)(b:BL)(hb:b.length=m):∀(Bl:BL) (j:Int) (F L:List Int),b.drop j.toNat=Bl→0≤j→F.length=m→L.length=m →
  loopW tab [1,2,6,7,8,9,12] gU {env:=upd (upd (upd (upd (upd (upd (upd emp 12 (some (I j))) 9 (some (.ref (0,2) []))) 8 (some (I i))) 7 (some (.ref (0,1) []))) 6 (some (.ref (0,0) []))) 2 (some (uV u))) 1 (some (.d (.r (bMr M)))),heap:=z5M F L b,fr:=0,next:=3} =
  some (.ext 4,{env:=upd (upd (upd (upd (upd emp 8 (some (I i))) 7 (some (.ref (0,1) []))) 6 (some (.ref (0,0) []))) 2 (some (uV u))) 1 (some (.d (.r (bMr M)))),heap:=spH (rF i F (kV Bl j)) (tY i L (kV Bl j)),fr:=0,next:=2})
 |[],j,F,L,hd,hj,hF,hL=>by
  have hh:=cJ hd hj
  unfold loopW
  conv=>lhs;arg 1;unfold gU
  simp -implicitDefEqProofs (disch:=first|assumption|omega) only[go_sem,simprocAttr,show u.fRegs≤j by omega,kV,rF,tY,List.foldl_nil]
 |false::Bl,j,F,L,hd,hj,hF,hL=>by
  have hc0:=bT hd hj
  have h2:=kO hc0.1
  have h4:=hc0.2.1
  have ih:=Jg u M i hi m hm hu b hb Bl (j+1) F L hc0.2.2.1 (by omega) hF hL
  rw[kV,if_neg (by simp),←ih]
  conv=>lhs;unfold loopW;arg 1;unfold gU
  simp -implicitDefEqProofs (disch:=first|assumption|omega) only[go_sem,simprocAttr,h2,show j<u.fRegs by omega]
 |true::Bl,j,F,L,hd,hj,hF,hL=>by
  have hc0:=bT hd hj
  have h2:=kO hc0.1
  have h4:=hc0.2.1
  have ih:=Jg u M i hi m hm hu b hb Bl (j+1) (if aC F j<0 then F.set j.toNat i else F) (L.set j.toNat i) hc0.2.2.1 (by omega) (by split<;>simp[hF]) (by simp[hL])
  rw[kV,if_pos rfl,rF,tY,List.foldl_cons,List.foldl_cons,←rF,←tY,←ih]
  have f1:(aG F).length=m:=by simp[aG,hF]
  have f2:(aG L).length=m:=by simp[aG,hL]
  have f3:=(bN (zs:=F) hj (by omega)).1
  have f5:=(bN (zs:=L) hj (by omega)).1
  have g2:=dL L j.toNat i
  have g1:=dL F j.toNat i
  have f4:(aG (F.set j.toNat i)).length=m:=by simp[aG,hF]
  generalize aC L j=z3 at *
  conv=>lhs;unfold loopW;arg 1;unfold gU
  by_cases hn:aC F j<0
  ·rw[if_pos hn]
   generalize aC F j=z at *
   simp -implicitDefEqProofs (disch:=first|assumption|omega) only[go_sem,simprocAttr,h2,f1,f2,f3,f4,f5,g1,g2,hn,show j<u.fRegs by omega]
  ·rw[if_neg hn]
   generalize aC F j=z at *
   simp -implicitDefEqProofs (disch:=first|assumption|omega) only[go_sem,simprocAttr,h2,f1,f2,f3,f4,f5,g1,g2,hn,show j<u.fRegs by omega]
theorem Va(u:ZD)(M:List BL)(m:Nat)(hm:m≤250)(hu:u.fRegs=m)(hM:∀o∈M,o.length=m)(hMl:M.length=u.fCode.length)(hCl:u.fCode.length≤900)(hC:∀t∈u.fCode,t.sm∧∀r∈bA t++bB t,0≤r∧r<m):∀(Bl:List ZC) (Ml:List BL) (j:Int) (P:List Int×List Int),u.fCode.drop j.toNat=Bl→M.drop j.toNat=Ml→0≤j→P.1.length=m→P.2.length=m →
  loopW tab [1,2,6,7,8] kQ {env:=upd (upd (upd (upd (upd emp 8 (some (I j))) 7 (some (.ref (0,1) []))) 6 (some (.ref (0,0) []))) 2 (some (uV u))) 1 (some (.d (.r (bMr M)))),heap:=spH P.1 P.2,fr:=0,next:=2} =
  some (.ext 0,{env:=upd (upd emp 7 (some (.ref (0,1) []))) 6 (some (.ref (0,0) [])),heap:=spH (kC Bl Ml j P).1 (kC Bl Ml j P).2,fr:=0,next:=2})
 |[],Ml,j,P,hd,hd2,hj,hF,hL=>by
  have hh:=cJ hd hj
  unfold loopW
  conv=>lhs;arg 1;unfold kQ
  simp only[kC]
  simp -implicitDefEqProofs (disch:=first|assumption|omega) only[go_sem,simprocAttr,hh]
 |t::Bl,[],j,P,hd,hd2,hj,hF,hL=>by
  have h1:=(bT hd hj).2.1
  have h2:=cJ hd2 hj
  omega
 |t::Bl,o::Ml,j,P,hd,hd2,hj,hF,hL=>by
  have hc:=bT hd hj
  have hc2:=bT hd2 hj
  obtain⟨ht1,ht2⟩:=hC t hc.2.2.2.1
  have ho:=hM o hc2.2.2.2.1
  have hin:∀r∈q9 t o,0≤r∧r<m:=fun r hr=>by
   rcases List.mem_append.1 hr with h|h
   ·exact ht2 r h
   ·have:=xO h;omega
  have hsl:(bA t).length≤2000000:=by have:=n6 t;omega
  have hul:(bB t).length≤2000000:=by have:=pK t;have:=ht1.2;omega
  have ih:=Va u M m hm hu hM hMl hCl hC Bl Ml (j+1) (rF j P.1 (q9 t o),tY j P.2 (q9 t o)) hc.2.2.1 hc2.2.2.1 (by omega) (by rw[B3];exact hF) (by rw[Hs];exact hL)
  have hcl:(bA t++bB t).length≤8000000:=by rw[la];omega
  have hbl:(b7 true o (bA t++bB t)).length=m:=by rw[kF];exact ho
  have g0:=T7 u M P.1 P.2 j m hm (bA t++bB t) hcl ht2 (bA t++bB t) 0 o rfl (by omega) ho
  have g1:=Jg u M j hj m hm hu (b7 true o (bA t++bB t)) hbl (b7 true o (bA t++bB t)) 0 P.1 P.2 rfl (by omega) hF hL
  have hbit:=zWT t o (fun r hr=>by have:=ht2 r hr;omega)
  have hnn:∀r∈dO (b7 true o (bA t++bB t)),0≤r:=fun r hr=>(xO hr).1
  have eF:=zq2 (F:=P.1) hj hnn (fun r hr=>(hin r hr).1) hbit
  have eL:=zj2 (j:=j) (F:=P.2) hnn (fun r hr=>(hin r hr).1) hbit
  rw[←dO,eF,eL] at g1
  rw[kC,←ih]
  have h2:=d6 ZC.r hc.1
  have h3:=d6 (fun a=>[D.r (bR a)]) hc2.1
  have h4:=hc.2.1
  have s1:=rY t
  have s2:=zL t ht1.2
  simp only[ZC.r] at h2
  have e5:aG (bA t++bB t)=aG (bA t)++aG (bB t):=by simp[aG]
  simp only[z5r,e5] at g0
  have e1:(bMr M).length≤900:=by simp;omega
  have e6:(bR o).length≤250:=by simp;omega
  have e7:(aG (bA t)).length≤2000000:=by simp[aG];exact hsl
  have e8:(aG (bB t)).length≤2000000:=by simp[aG];exact hul
  have a1:=sM (bB t)
  have a2:((bR o).all fun el=>el.length==1)=true:=by simp
  have a3:=zjT o
  have a4:=Ca (bB t)
  have a5:=I7 o
  conv=>lhs;unfold loopW;arg 1;unfold kQ
  simp -implicitDefEqProofs (disch:=first|assumption|omega|(simp only[aE,aL,aF,i64,sa,aB,lm,la,lc,ln];omega)) only[go_sem,simprocAttr,h2,h3,h4,g0,g1,s1,s2,cM,e1,a1,a2,a3,a4,a5]
theorem J4(u:ZD)(hs:u.sm)(hr:Right u)(hL:(bH u).Least (live u)):call tab wD [u.x,.d (.r (bMr (live u)))]=some (.tup [.d (.s 1 (aG (spU u).1)),.d (.s 1 (aG (spU u).2))]):=by
 obtain⟨l1,l2⟩:=pM hL
 have hl:=hr.len
 obtain⟨hr0,hr1⟩:=hr.regs
 have e1:(u.fRegs.toNat:Int)=u.fRegs:=by omega
 have g0:=zvM u.fRegs hr0 hr1
 have g2:=Va u (live u) u.fRegs.toNat (by omega) (by omega) l2 l1 (by omega) (fun t ht=>⟨hs.2.2 t ht,fun r hr0=>by have:=wW hr t ht r hr0;omega⟩) u.fCode (live u) 0 (List.replicate u.fRegs.toNat (-1),List.replicate u.fRegs.toNat (-1)) rfl rfl (by omega) (by simp) (by simp)
 rw[show kC u.fCode (live u) 0 (List.replicate u.fRegs.toNat (-1),List.replicate u.fRegs.toNat (-1))=spU u from rfl] at g2
 simp only[spH] at g2
 rw[aT Lq _ rfl,Al]
 simp -implicitDefEqProofs (disch:=first|assumption|omega|(simp only[aE,aL,aF,i64,sa,aB,lm,la,lc,ln];omega)) only[go_sem,simprocAttr,g0,g2]
set_option maxRecDepth 8000
set_option maxHeartbeats 4000000
def y4(t:ZC)(o:BL):List Int:=if t.fOp=11∨t.fOp=27 then(dO o).filter fun r=> !decide (r∈bA t) else []
def kN:List ZC→List BL→List Int
 |t::ts,o::os=>y4 t o++kN ts os
 |_,_=>[]
noncomputable def crU (u:ZD):List Int:=kN u.fCode (live u)
theorem Qq(t:ZC)(o:BL):(y4 t o).length≤o.length:=by
 rw[y4]
 split
 ·exact Nat.le_trans (List.length_filter_le _ _) (I5 o)
 ·simp
theorem Nz(m:Nat):∀(ts:List ZC) (os:List BL),(∀o∈os,o.length=m)→(kN ts os).length≤ts.length*m
 |[],_,_=>by simp[kN]
 |_::_,[],_=>by simp[kN]
 |t::ts,o::os,h=>by
  rw[kN,la,lc,Nat.add_one_mul]
  have:=Nz m ts os (fun o ho=>h o (by simp[ho]))
  have:=Qq t o
  have:=h o (by simp)
  omega
theorem zxJ(zs:List Int)(x:Int):x∈fF 1 zs↔x∈zs:=by
 simp[fF]
theorem Jf(u:ZD)(t:ZC)(N:List (List Int))(w jj:Int)(cs:List Int)(hcs:cs.length≤250):∀(Bl:List Int) (j:Int) (A:List Int),cs.drop j.toNat=Bl→0≤j→A.length≤1000000+j →
  loopW tab [1,3,6,14,15,16,34,35,36] i4 {env:=upd (upd (upd (upd (upd (upd (upd (upd (upd emp 36 (some (I j))) 35 (some (I (cs.length:Int)))) 34 (some (.d (.r (aG cs))))) 16 (some (I jj))) 15 (some (I w))) 14 (some (.d (.r (nMr N))))) 6 (some (.ptr (0,1) [] 0 0))) 3 (some (.ref (0,0) []))) 1 (some (uV u)),heap:=upd (upd emp (0,1) (some (.s 7 [t.r]))) (0,0) (some (.s 1 (aG A))),fr:=0,next:=2} =
  some (.ext 2,{env:=upd (upd (upd (upd (upd emp 16 (some (I jj))) 15 (some (I w))) 14 (some (.d (.r (nMr N))))) 3 (some (.ref (0,0) []))) 1 (some (uV u)),heap:=upd emp (0,0) (some (.s 1 (aG (A++Bl.filter fun r=> !decide (r∈bA t))))),fr:=0,next:=1})
 |[],j,A,hd,hj,hA=>by
  have hh:=cJ hd hj
  unfold loopW
  conv=>lhs;arg 1;unfold i4
  simp -implicitDefEqProofs (disch:=first|assumption|omega) only[go_sem,simprocAttr,hh,List.filter_nil,zqe]
 |r::Bl,j,A,hd,hj,hA=>by
  have hc:=bT hd hj
  have h2:=d6 (fun n=>[DI n]) hc.1
  have h4:=hc.2.1
  have g1:=rW t
  have g2:=Km (bA t) r (by have:=n6 t;omega)
  simp only[ZC.r]
  by_cases hm:r∈bA t
  ·have ih:=Jf u t N w jj cs hcs Bl (j+1) A hc.2.2.1 (by omega) (by omega)
   rw[List.filter_cons,if_neg (by simp[hm]),←ih]
   rw[decide_eq_true hm] at g2
   simp only[ZC.r]
   conv=>lhs;unfold loopW;arg 1;unfold i4
   simp -implicitDefEqProofs (disch:=first|assumption|omega|(simp only[aE,aL,aF,i64,sa,aB,lm,la,lc,ln];omega)) only[go_sem,simprocAttr,h2,h4,g1,g2,cM]
  ·have ih:=Jf u t N w jj cs hcs Bl (j+1) (A++[r]) hc.2.2.1 (by omega) (by simp;omega)
   rw[List.filter_cons,if_pos (by simp[hm]),show A++r::Bl.filter (fun r=> !decide (r∈bA t))=(A++[r])++Bl.filter (fun r=> !decide (r∈bA t)) by simp,←ih]
   rw[decide_eq_false hm] at g2
   simp only[ZC.r]
   have e1:aG (A++[r])=aG A++[[DI r]]:=by simp[aG]
   have e2:(aG A).length≤1000000+j:=by simp[aG];omega
   rw[e1]
   generalize aG A=W at *
   conv=>lhs;unfold loopW;arg 1;unfold i4
   simp -implicitDefEqProofs (disch:=first|assumption|omega|(simp only[aE,aL,aF,i64,sa,aB,lm,la,lc,ln];omega)) only[go_sem,simprocAttr,h2,h4,g1,g2,cM]
theorem Tw(u:ZD)(M:List BL)(m:Nat)(hm:m≤250)(hM:∀o∈M,o.length=m)(hMl:M.length=u.fCode.length)(hCl:u.fCode.length≤900)(hC:∀t∈u.fCode,t.sm):∀(Bl:List ZC) (Ml:List BL) (j:Int) (A:List Int),u.fCode.drop j.toNat=Bl→M.drop j.toNat=Ml→0≤j→A.length≤j*250 →
  loopW tab [1,3,14,15,16] lZ {env:=upd (upd (upd (upd (upd emp 16 (some (I j))) 15 (some (I (u.fCode.length:Int)))) 14 (some (.d (.r (nMr (M.map dO)))))) 3 (some (.ref (0,0) []))) 1 (some (uV u)),heap:=upd emp (0,0) (some (.s 1 (aG A))),fr:=0,next:=1} =
  some (.ext 0,{env:=upd emp 3 (some (.ref (0,0) [])),heap:=upd emp (0,0) (some (.s 1 (aG (A++kN Bl Ml)))),fr:=0,next:=1})
 |[],Ml,j,A,hd,hd2,hj,hA=>by
  have hh:=cJ hd hj
  unfold loopW
  conv=>lhs;arg 1;unfold lZ
  simp only[kN]
  simp -implicitDefEqProofs (disch:=first|assumption|omega) only[go_sem,simprocAttr,hh,zqe]
 |t::Bl,[],j,A,hd,hd2,hj,hA=>by
  have h1:=(bT hd hj).2.1
  have h2:=cJ hd2 hj
  omega
 |t::Bl,o::Ml,j,A,hd,hd2,hj,hA=>by
  have hc:=bT hd hj
  have hc2:=bT hd2 hj
  have ho:=hM o hc2.2.2.2.1
  have hcl:=Qq t o
  have hnl:=I5 o
  have ih:=Tw u M m hm hM hMl hCl hC Bl Ml (j+1) (A++y4 t o) hc.2.2.1 hc2.2.2.1 (by omega) (by rw[la];omega)
  have h4:=hc.2.1
  have g0:=Jf u t (M.map dO) u.fCode.length j (dO o) (by omega) (dO o) 0 A rfl (by omega) (by omega)
  rw[kN,←List.append_assoc,←ih]
  have h2:=d6 ZC.r hc.1
  have h3:=d6 (fun l=>[D.r (aG l)]) (d6 dO hc2.1)
  simp only[ZC.r] at h2 g0
  have e1:(nMr (M.map dO)).length≤900:=by simp;omega
  rw[y4]
  have e2:j<((M.map dO).length:Int):=by simp;omega
  generalize M.map dO=N at *
  conv=>lhs;unfold loopW;arg 1;unfold lZ
  by_cases h11:t.fOp=11
  ·rw[if_pos (.inl h11)]
   rw[h11] at g0
   generalize dO o=nl at *
   simp -implicitDefEqProofs (disch:=first|assumption|omega|(simp only[aE,aL,aF,i64,sa,aB,lm,la,lc,ln];omega)) only[go_sem,simprocAttr,h2,h3,h4,e2,g0,h11,show ¬(27:Int)=11 by omega]
  ·by_cases h27:t.fOp=27
   ·rw[if_pos (.inr h27)]
    rw[h27] at g0
    generalize dO o=nl at *
    simp -implicitDefEqProofs (disch:=first|assumption|omega|(simp only[aE,aL,aF,i64,sa,aB,lm,la,lc,ln];omega)) only[go_sem,simprocAttr,h2,h3,h4,e2,g0,h11,h27,show ¬(27:Int)=11 by omega]
   ·rw[if_neg (by simp[h11,h27]),zqe]
    generalize dO o=nl at *
    simp -implicitDefEqProofs (disch:=first|assumption|omega|(simp only[aE,aL,aF,i64,sa,aB,lm,la,lc,ln];omega)) only[go_sem,simprocAttr,h2,h3,h4,e2,h11,h27]
set_option maxRecDepth 8000
set_option maxHeartbeats 4000000
theorem zKM(zs:List Int)(x:Int):x∈Bu zs↔x∈zs:=by
 unfold Bu
 simp only[List.mem_map,List.mem_filter,List.mem_range]
 constructor
 ·rintro ⟨j,⟨h1,h2⟩,rfl⟩
  rw[getElem!_pos zs j h1]
  exact List.getElem_mem h1
 ·intro h
  obtain⟨j,hj,rfl⟩:=List.getElem_of_mem h
  have key:∀(j:Nat) (hj:j<zs.length),∃a,(a<zs.length∧F9 zs a=true)∧zs[a]! = zs[j]:=by
   intro j
   induction j with
   |zero=>intro hj;exact⟨0,⟨hj,by simp[F9]⟩,getElem!_pos zs 0 hj⟩
   |succ j ih =>
    intro hj
    by_cases e:zs[j+1]! = zs[j]!
    ·obtain⟨a,h1,h2⟩:=ih (by omega)
     exact⟨a,h1,by rw[h2,←getElem!_pos zs j (by omega),←e,getElem!_pos zs (j+1) hj]⟩
    ·exact⟨j+1,⟨hj,by unfold F9;exact decide_eq_true (.inr e)⟩,getElem!_pos zs (j+1) hj⟩
  exact key j hj
theorem zWZ(zs:List Int):(Bu zs).length≤zs.length:=by
 unfold Bu
 rw[lm]
 exact Nat.le_trans (List.length_filter_le _ _) (by simp)
noncomputable def crS (u:ZD):List Int:=fF 2 (fF 1 (crU u))
theorem zXU(u:ZD)(x:Int):x∈crS u↔x∈crU u:=by
 rw[crS,show fF 2 (fF 1 (crU u))=Bu (fF 1 (crU u)) from rfl,zKM,zxJ]
theorem z9Y(u:ZD):(crS u).length≤(crU u).length:=by
 rw[crS,show fF 2 (fF 1 (crU u))=Bu (fF 1 (crU u)) from rfl]
 refine Nat.le_trans (zWZ _) ?_
 simp[fF]
theorem zk3{u:ZD}(hr:Right u)(hL:(bH u).Least (live u)):(crU u).length≤225000:=by
 obtain⟨l1,l2⟩:=pM hL
 have:=Nz u.fRegs.toNat u.fCode (live u) l2
 have h1:=hr.regs
 have h2:=hr.len
 rw[crU]
 refine Nat.le_trans this (Nat.le_trans (Nat.mul_le_mul (show u.fCode.length≤900 by omega) (show u.fRegs.toNat≤250 by omega)) (by omega))
theorem Lj(u:ZD)(hs:u.sm)(hu:qI u=true):call tab zE [u.x]=some (.d (.s 1 (aG (crS u)))):=by
 have hr:=lM hu
 obtain⟨I1,hI,hL,h1⟩:=lS u hr hs
 have h0:=lY u hs
 rw[hu] at h0
 have h2:=Aj u hs hu
 obtain⟨l1,l2⟩:=pM hL
 have hl:=hr.len
 obtain⟨hr0,hr1⟩:=hr.regs
 have g2:=Tw u (live u) u.fRegs.toNat (by omega) l2 l1 (by omega) hs.2.2 u.fCode (live u) 0 [] rfl rfl (by omega) (by simp)
 rw[zqf,show kN u.fCode (live u)=crU u from rfl] at g2
 have e2:∀L,fzs (nM L)=nMr L:=fun L=>mP _ _ (fun l=>by simp only[fzl,D.fz,cM]) L
 have e3:(((live u).map dO).length:Int)=u.fCode.length:=by simp;omega
 have e5:(nMr ((live u).map dO)).length=u.fCode.length:=by simp;omega
 have hcl:=zk3 hr hL
 have s0:=sE (crU u) (by omega)
 have p0:=jY (fF 1 (crU u)) (by simp[fF];omega)
 rw[show fF 2 (fF 1 (crU u))=crS u from rfl] at p0
 rw[show aG []=[] from rfl] at g2
 generalize List.map dO (live u)=N at *
 generalize crU u=zs at *
 generalize fF 1 zs=z1 at *
 generalize crS u=z2 at *
 rw[aT Ob _ rfl,Do]
 simp -implicitDefEqProofs (disch:=first|assumption|omega|(simp only[aE,aL,aF,i64,sa,aB,lm,la,lc,ln];omega)) only[go_sem,simprocAttr,h0,h2,e2,e3,e5,g2,s0,p0]
theorem zkd(t:ZC)(h:t.fOp=11∨t.fOp=27):∃b:Bool,bA t=if b=true then [t.fD] else []:=by
 refine⟨hb t 1,?_⟩
 rw[bA,if_neg (show ¬t.fOp=19 by omega),zqe]
theorem Eb(u:ZD)(t:ZC)(M:List BL)(i:Int)(h0:0≤i)(o:BL)(ho:M[i.toNat]? = some o)(m:Nat)(hm:m≤250)(hol:o.length=m)(hu:u.fRegs=m)(sl:List Int)(hsl:sl=[]∨∃d,sl=[d]):∀(Bl:BL) (j:Int) (C:BL),o.drop j.toNat=Bl→0≤j→C.length=m →
  loopW tab [1,2,5,6,8,9] fE {env:=upd (upd (upd (upd (upd (upd emp 9 (some (I j))) 8 (some (.d (.r (aG sl))))) 6 (some (I i))) 5 (some (.ref (0,0) []))) 2 (some (uV u))) 1 (some (.d (.r (bMr M)))),heap:=upd emp (0,0) (some (.s 1 (bR C))),fr:=0,next:=1} =
  some (.ext 2,{env:=upd (upd (upd (upd emp 6 (some (I i))) 5 (some (.ref (0,0) []))) 2 (some (uV u))) 1 (some (.d (.r (bMr M)))),heap:=upd emp (0,0) (some (.s 1 (bR (b7 true C ((kV Bl j).filter fun r=> !decide (r∈sl)))))),fr:=0,next:=1})
 |[],j,C,hd,hj,hC=>by
  have hh:=cJ hd hj
  unfold loopW
  conv=>lhs;arg 1;unfold fE
  simp -implicitDefEqProofs (disch:=first|assumption|omega) only[go_sem,simprocAttr,show u.fRegs≤j by omega,kV,b7,List.foldl_nil,List.filter_nil]
 |false::Bl,j,C,hd,hj,hC=>by
  have hc:=bT hd hj
  have h2:=kO hc.1
  have h4:=hc.2.1
  have h3:=d6 (fun a=>[D.r (bR a)]) ho
  have hil:i<M.length:=by have:=(List.getElem?_eq_some_iff.1 ho).1;omega
  have ih:=Eb u t M i h0 o ho m hm hol hu sl hsl Bl (j+1) C hc.2.2.1 (by omega) hC
  rw[kV,if_neg (by simp),←ih]
  conv=>lhs;unfold loopW;arg 1;unfold fE
  simp -implicitDefEqProofs (disch:=first|assumption|omega) only[go_sem,simprocAttr,h2,h3,h4,hil,show j<u.fRegs by omega]
 |true::Bl,j,C,hd,hj,hC=>by
  have hc:=bT hd hj
  have h2:=kO hc.1
  have h4:=hc.2.1
  have h3:=d6 (fun a=>[D.r (bR a)]) ho
  have hil:i<M.length:=by have:=(List.getElem?_eq_some_iff.1 ho).1;omega
  have hlt:j.toNat<C.length:=by omega
  have f2:=kO (List.getElem?_eq_getElem hlt)
  have f3:=B7 C j.toNat true
  rw[kV,if_pos rfl,List.filter_cons]
  have ih1:=Eb u t M i h0 o ho m hm hol hu sl hsl Bl (j+1) C hc.2.2.1 (by omega) hC
  have ih2:=Eb u t M i h0 o ho m hm hol hu sl hsl Bl (j+1) (C.set j.toNat true) hc.2.2.1 (by omega) (by simp[hC])
  conv=>lhs;unfold loopW;arg 1;unfold fE
  have f1:(bR C).length=m:=by simp[hC]
  rcases hsl with rfl|⟨d,rfl⟩
  ·rw[if_pos (by simp),b7,List.foldl_cons,←b7,←ih2]
   simp -implicitDefEqProofs (disch:=first|assumption|omega) only[go_sem,simprocAttr,h2,h3,h4,f1,f2,f3,hil,show j<u.fRegs by omega,aG,mn]
  ·by_cases e:j=d
   ·subst e
    rw[if_neg (by simp),←ih1]
    simp -implicitDefEqProofs (disch:=first|assumption|omega) only[go_sem,simprocAttr,h2,h3,h4,hil,show j<u.fRegs by omega,aG,mn,mc]
   ·rw[if_pos (by simp[e]),b7,List.foldl_cons,←b7,←ih2]
    simp -implicitDefEqProofs (disch:=first|assumption|omega) only[go_sem,simprocAttr,h2,h3,h4,f1,f2,f3,hil,show j<u.fRegs by omega,aG,mn,mc,e,show ¬d=j from fun h=>e h.symm]
theorem zxz(v:Bool)(a:BL)(k l':List Int):b7 v a (k++l')=b7 v (b7 v a k) l':=by simp[b7,List.foldl_append]
theorem Uq(u:ZD)(M:List BL)(m:Nat)(hm:m≤250)(hu:u.fRegs=m)(hM:∀o∈M,o.length=m)(hMl:M.length=u.fCode.length)(hCl:u.fCode.length≤900):∀(Bl:List ZC) (Ml:List BL) (j:Int) (C:BL),u.fCode.drop j.toNat=Bl→M.drop j.toNat=Ml→0≤j→C.length=m →
  loopW tab [1,2,5,6] fG {env:=upd (upd (upd (upd emp 6 (some (I j))) 5 (some (.ref (0,0) []))) 2 (some (uV u))) 1 (some (.d (.r (bMr M)))),heap:=upd emp (0,0) (some (.s 1 (bR C))),fr:=0,next:=1} =
  some (.ext 0,{env:=upd emp 5 (some (.ref (0,0) [])),heap:=upd emp (0,0) (some (.s 1 (bR (b7 true C (kN Bl Ml))))),fr:=0,next:=1})
 |[],Ml,j,C,hd,hd2,hj,hC=>by
  have hh:=cJ hd hj
  unfold loopW
  conv=>lhs;arg 1;unfold fG
  simp only[kN]
  simp -implicitDefEqProofs (disch:=first|assumption|omega) only[go_sem,simprocAttr,hh,b7,List.foldl_nil]
 |t::Bl,[],j,C,hd,hd2,hj,hC=>by
  have h1:=(bT hd hj).2.1
  have h2:=cJ hd2 hj
  omega
 |t::Bl,o::Ml,j,C,hd,hd2,hj,hC=>by
  have hc:=bT hd hj
  have hc2:=bT hd2 hj
  have ho:=hM o hc2.2.2.2.1
  have ih:=Uq u M m hm hu hM hMl hCl Bl Ml (j+1) (b7 true C (y4 t o)) hc.2.2.1 hc2.2.2.1 (by omega) (by rw[kF];exact hC)
  have h4:=hc.2.1
  have h2:=d6 ZC.r hc.1
  have g1:=rY t
  simp only[ZC.r] at h2
  rw[kN,zxz,←ih]
  rw[y4]
  by_cases h11:t.fOp=11∨t.fOp=27
  ·obtain⟨b0,hb0⟩:=zkd t h11
   have hsl:bA t=[]∨∃d,bA t=[d]:=by
    rw[hb0];cases b0
    ·exact .inl rfl
    ·exact .inr ⟨_,rfl⟩
   have g0:=Eb u t M j hj o hc2.1 m hm ho hu (bA t) hsl o 0 C rfl (by omega) hC
   rw[if_pos h11,dO]
   clear hb0
   generalize bA t=sl at *
   conv=>lhs;unfold loopW;arg 1;unfold fG
   rcases h11 with h11|h27
   ·rw[h11] at h2
    have g1':=g1
    simp only[ZC.x,h11] at g1'
    simp -implicitDefEqProofs (disch:=first|assumption|omega|(simp only[aE,aL,aF,i64,sa,aB,lm,la,lc,ln];omega)) only[go_sem,simprocAttr,h2,h4,g0,g1',h11,cM,show ¬(27:Int)=11 by omega]
   ·rw[h27] at h2
    have g1':=g1
    simp only[ZC.x,h27] at g1'
    simp -implicitDefEqProofs (disch:=first|assumption|omega|(simp only[aE,aL,aF,i64,sa,aB,lm,la,lc,ln];omega)) only[go_sem,simprocAttr,h2,h4,g0,g1',h27,cM,show ¬(27:Int)=11 by omega]
  ·rw[if_neg h11]
   conv=>lhs;unfold loopW;arg 1;unfold fG
   have a1:¬t.fOp=11:=fun h=>h11 (.inl h)
   have a2:¬t.fOp=27:=fun h=>h11 (.inr h)
   simp -implicitDefEqProofs (disch:=first|assumption|omega|(simp only[aE,aL,aF,i64,sa,aB,lm,la,lc,ln];omega)) only[go_sem,simprocAttr,h2,h4,a1,a2,b7,List.foldl_nil]
theorem Gg(u:ZD)(hr:Right u)(hL:(bH u).Least (live u)):call tab q7 [u.x,.d (.r (bMr (live u)))]=some (.d (.s 1 (bR (b7 true (zB u) (crU u))))):=by
 obtain⟨l1,l2⟩:=pM hL
 have hl:=hr.len
 obtain⟨hr0,hr1⟩:=hr.regs
 have g2:=Uq u (live u) u.fRegs.toNat (by omega) (by omega) l2 l1 (by omega) u.fCode (live u) 0 (zB u) rfl rfl (by omega) (by simp)
 rw[show kN u.fCode (live u)=crU u from rfl] at g2
 have e1:=zWI u
 have e2:(bMr (live u)).length≤900:=by simp;omega
 rw[aT Ia _ rfl,uH]
 simp -implicitDefEqProofs (disch:=first|assumption|omega|(simp only[aE,aL,aF,i64,sa,aB,lm,la,lc,ln];omega)) only[go_sem,simprocAttr,g2,e1]
set_option maxRecDepth 8000
def iR(pr:Int)(j:Int):Nat→List Int
 |0=>[]
 |k+1=>(if j<pr then 10+j else -1)::iR pr (j+1) k
theorem If(pr:Int):∀(k:Nat) (j:Int),(iR pr j k).length=k
 |0,j=>rfl
 |k+1,j=>by rw[iR,lc,If pr k]
theorem U5{pr:Int}:∀(k:Nat) (j:Int),pr≤j→iR pr j k=List.replicate k (-1)
 |0,j,h=>rfl
 |k+1,j,h=>by rw[iR,if_neg (by omega),U5 k (j+1) (by omega),List.replicate_succ]
theorem Hc(pr:Int):∀(k:Nat) (j:Int) (p:Nat),p<k→(iR pr j k)[p]? = some (if j+p<pr then 10+(j+p) else -1)
 |0,j,p,h=>by omega
 |k+1,j,0,h=>by simp[iR]
 |k+1,j,p+1,h=>by
  rw[iR,List.getElem?_cons_succ,Hc pr k (j+1) p (by omega)]
  rw[show j+1+(p:Int)=j+((p+1:Nat):Int) by omega]
def De(F:List Int)(pr:Int)(j:Int):Nat→List Int
 |0=>[]
 |k+1=>if j<pr then De F pr (j+1) k else if 0≤aC F j then j::De F pr (j+1) k else De F pr (j+1) k
theorem Dm(F:List Int)(pr:Int):∀(k:Nat) (j r:Int),r∈De F pr j k↔j≤r∧r<j+k∧pr≤r∧0≤aC F r
 |0,j,r=>by simp[De];omega
 |k+1,j,r=>by
  have ih:=Dm F pr k (j+1) r
  rw[De]
  by_cases h1:j<pr
  ·rw[if_pos h1,ih];omega
  ·rw[if_neg h1]
   by_cases h2:0≤aC F j
   ·rw[if_pos h2,List.mem_cons,ih]
    constructor
    ·rintro(rfl|h)
     ·exact⟨by omega,by omega,by omega,h2⟩
     ·exact⟨by omega,by omega,by omega,h.2.2.2⟩
    ·intro h
     by_cases e:r=j
     ·exact .inl e
     ·exact .inr ⟨by omega,by omega,by omega,h.2.2.2⟩
   ·rw[if_neg h2,ih]
    constructor
    ·intro h;exact⟨by omega,by omega,by omega,h.2.2.2⟩
    ·intro h
     have:r≠j:=fun e=>h2 (e ▸ h.2.2.2)
     exact⟨by omega,by omega,by omega,h.2.2.2⟩
theorem Dw(F:List Int)(pr:Int):∀(k:Nat) (j:Int),(De F pr j k).Pairwise (· < ·)
 |0,j=>List.Pairwise.nil
 |k+1,j=>by
  rw[De]
  split
  ·exact Dw F pr k (j+1)
  ·split
   ·exact List.Pairwise.cons (fun r hr=>by have:=(Dm F pr k (j+1) r).1 hr;omega) (Dw F pr k (j+1))
   ·exact Dw F pr k (j+1)
theorem Hp(F:List Int)(pr:Int):∀(k:Nat) (j:Int),(De F pr j k).length≤k
 |0,j=>by simp[De]
 |k+1,j=>by
  have:=Hp F pr k (j+1)
  rw[De]
  split
  ·omega
  ·split
   ·simp;omega
   ·omega
def rV(F:List Int)(q:Int)(j:Int):Nat→List Int
 |0=>[]
 |k+1=>if aC F j=q then j::rV F q (j+1) k else rV F q (j+1) k
theorem Ce(F:List Int)(q:Int):∀(k:Nat) (j r:Int),r∈rV F q j k↔j≤r∧r<j+k∧aC F r=q
 |0,j,r=>by simp[rV];omega
 |k+1,j,r=>by
  have ih:=Ce F q k (j+1) r
  rw[rV]
  by_cases h2:aC F j=q
  ·rw[if_pos h2,List.mem_cons,ih]
   constructor
   ·rintro(rfl|h)
    ·exact⟨by omega,by omega,h2⟩
    ·exact⟨by omega,by omega,h.2.2⟩
   ·intro h
    by_cases e:r=j
    ·exact .inl e
    ·exact .inr ⟨by omega,by omega,h.2.2⟩
  ·rw[if_neg h2,ih]
   constructor
   ·intro h;exact⟨by omega,by omega,h.2.2⟩
   ·intro h
    have:r≠j:=fun e=>h2 (e ▸ h.2.2)
    exact⟨by omega,by omega,h.2.2⟩
theorem Ni(F:List Int)(q:Int):∀(k:Nat) (j:Int),(rV F q j k).Pairwise (· < ·)
 |0,j=>List.Pairwise.nil
 |k+1,j=>by
  rw[rV]
  split
  ·exact List.Pairwise.cons (fun r hr=>by have:=(Ce F q k (j+1) r).1 hr;omega) (Ni F q k (j+1))
  ·exact Ni F q k (j+1)
def Ih(F:List Int)(pr:Int)(w:Nat)(q:Int):Nat→List Int
 |0=>[]
 |k+1=>rV F q pr w++Ih F pr w (q+1) k
theorem Hk(F:List Int)(pr:Int)(w:Nat):∀(k:Nat) (q r:Int),r∈Ih F pr w q k↔pr≤r∧r<pr+w∧q≤aC F r∧aC F r<q+k
 |0,q,r=>by simp only[Ih,List.not_mem_nil,false_iff];omega
 |k+1,q,r=>by
  have ih:=Hk F pr w k (q+1) r
  rw[Ih,List.mem_append,Ce,ih]
  omega
theorem Wp(F:List Int)(pr:Int)(w:Nat):∀(k:Nat) (q:Int),(Ih F pr w q k).Pairwise (ltK (aC F))
 |0,q=>List.Pairwise.nil
 |k+1,q=>by
  rw[Ih]
  refine List.pairwise_append.2 ⟨?_,Wp F pr w k (q+1),fun x hx y hy=> ?_⟩
  ·refine(Ni F q w pr).imp_of_mem (fun hx hy h=> ?_)
   rw[Ce] at hx hy
   exact .inr ⟨by omega,h⟩
  ·rw[Ce] at hx
   rw[Hk] at hy
   exact .inl (by omega)
theorem zwG{F:Int→Int}{A:List Int}(h:A.Pairwise (ltK F)):A.Nodup:=h.imp (fun h e=>by subst e;rcases h with h|h<;>omega)
theorem zXv{F:List Int}{pr:Int}{m len:Nat}(h0:0≤pr)(hp:pr≤m)(hF:inJ len F)(hm:F.length=m):Mg (aC F) (De F pr 0 m) (Ih F pr (m-pr.toNat) 0 len):=by
 refine⟨?_,Wp F pr _ len 0⟩
 rw[List.perm_ext_iff_of_nodup (zwG (Wp F pr _ len 0)) ((Dw F pr m 0).imp (fun h=>by omega))]
 intro r
 rw[Hk,Dm]
 constructor
 ·intro h;omega
 ·intro h
  have:aC F r∈F:=(bN (zs:=F) (k:=r) (by omega) (by omega)).2
  have:=hF _ this
  omega
def eT(F L H P:List Int)(r h:Int):Bool:=P.any fun k=>decide (aC H k=h)&&(decide (aC F k≤aC L r)&&decide (aC F r≤aC L k))
def vJ(j:Int):Nat→List Int
 |0=>[]
 |k+1=>j::vJ (j+1) k
theorem Ng:∀(k:Nat) (j r:Int),r∈vJ j k↔j≤r∧r<j+k
 |0,j,r=>by simp only[vJ,List.not_mem_nil,false_iff];omega
 |k+1,j,r=>by rw[vJ,List.mem_cons,Ng k];omega
def rO(F L H P:List Int)(r:Int):Int:=if eT F L H P r 0=false then 0 else if eT F L H P r 1=false then 1 else if eT F L H P r 2=false then 2 else -1
theorem Q6{F L H P:List Int}{m:Nat}(hP:∀k∈P,0≤k∧k<m)(hH:∀k:Int,0≤k→k<m→0≤aC H k→aC H k<3→k∈P){r h:Int}(h0:0≤h)(h3:h<3):eT F L H P r h=eT F L H (vJ 0 m) r h:=by
 rw[Bool.eq_iff_iff]
 simp only[eT,List.any_eq_true,bE,zqd]
 constructor
 ·rintro ⟨k,hk,e⟩
  have:=hP k hk
  exact⟨k,by rw[Ng];omega,e⟩
 ·rintro ⟨k,hk,e⟩
  rw[Ng] at hk
  exact⟨k,hH k (by omega) (by omega) (by omega) (by omega),e⟩
theorem zVs{F L H P:List Int}{m:Nat}(hP:∀k∈P,0≤k∧k<m)(hH:∀k:Int,0≤k→k<m→0≤aC H k→aC H k<3→k∈P)(r:Int):rO F L H P r=rO F L H (vJ 0 m) r:=by
 rw[rO,rO,Q6 hP hH (by omega) (by omega),Q6 hP hH (by omega) (by omega),Q6 hP hH (by omega) (by omega)]
theorem Ho(F L H P:List Int)(r:Int): -1≤rO F L H P r∧rO F L H P r<3:=by
 unfold rO
 split
 ·omega
 ·split
  ·omega
  ·split<;>omega
def asg(F L C:List Int)(S:List Int×Int)(r:Int):List Int×Int :=
 if rO F L S.1 (vJ 0 S.1.length) r<0∨r∈C then(S.1.set r.toNat (10+S.2),S.2+1) else(S.1.set r.toNat (rO F L S.1 (vJ 0 S.1.length) r),S.2)
theorem zvk(F L C:List Int)(S:List Int×Int)(r:Int):(asg F L C S r).1.length=S.1.length:=by
 unfold asg;split<;>simp
theorem Z4(F L C:List Int):∀(ls:List Int) (S:List Int×Int),(ls.foldl (asg F L C) S).1.length=S.1.length
 |[],S=>rfl
 |r::ls,S=>by rw[List.foldl_cons,Z4 F L C ls,zvk]
theorem Z3(F L C:List Int)(S:List Int×Int)(r:Int):S.2≤(asg F L C S r).2∧(asg F L C S r).2≤S.2+1:=by
 unfold asg;split
 ·exact⟨by show S.2≤S.2+1;omega,Int.le_refl _⟩
 ·exact⟨Int.le_refl _,by show S.2≤S.2+1;omega⟩
structure Hom (m:Nat) (P:List Int) (S:List Int×Int):Prop where
 len:S.1.length=m
 pos:∀k∈P,0≤k∧k<m∧0≤aC S.1 k
 low:∀k:Int,0≤k→k<m→0≤aC S.1 k→aC S.1 k<3→k∈P
 slot:0≤S.2∧S.2≤4+P.length
theorem sW{H:List Int}{r k x:Int}(h0:0≤r)(h1:r<H.length)(hk:0≤k):aC (H.set r.toNat x) k=if k=r then x else aC H k:=by
 unfold aC
 rw[List.getElem?_set]
 by_cases e:k=r
 ·subst e
  have:k.toNat<H.length:=by omega
  simp[this]
 ·simp only[show ¬r.toNat=k.toNat by omega,if_false,e]
theorem Hom.step{m:Nat}{P:List Int}{S:List Int×Int}(h:Hom m P S)(F L C:List Int){r:Int}(h0:0≤r)(h1:r<m):Hom m (P++[r]) (asg F L C S r):=by
 have hb:=Ho F L S.1 (vJ 0 S.1.length) r
 have hs:=h.slot
 have key:∀x:Int,0≤x→∀s,0≤s→s≤S.2+1→Hom m (P++[r]) (S.1.set r.toNat x,s):=fun x hx s hs1 hs2=>by
  refine⟨by simp[h.len],fun k hk=> ?_,fun k a b c d=> ?_,hs1,by rw[la,zqa];show s≤_;omega⟩
  ·show 0≤k∧k<m∧0≤aC (S.1.set r.toNat x) k
   rcases List.mem_append.1 hk with hk|hk
   ·have:=h.pos k hk
    rw[sW h0 (by rw[h.len];exact h1) this.1]
    refine⟨this.1,this.2.1,?_⟩
    split<;>omega
   ·rw[List.mem_singleton] at hk
    subst hk
    rw[sW h0 (by rw[h.len];exact h1) h0,if_pos rfl]
    exact⟨h0,h1,hx⟩
  ·change 0≤aC (S.1.set r.toNat x) k at c
   change aC (S.1.set r.toNat x) k<3 at d
   rw[sW h0 (by rw[h.len];exact h1) a] at c d
   by_cases e:k=r
   ·simp[e]
   ·rw[if_neg e] at c d
    exact List.mem_append_left _ (h.low k a b c d)
 unfold asg
 split
 ·exact key (10+S.2) (by omega) (S.2+1) (by omega) (by omega)
 ·rename_i hn
  exact key _ (by omega) S.2 (by omega) (by omega)
theorem Hom.start{m:Nat}{pr:Int}(h0:0≤pr)(h4:pr≤4)(hm:pr≤m):Hom m [] (iR pr 0 m,pr):=by
 refine⟨If pr m 0,fun k hk=>by simp at hk,fun k a b c d=> ?_,h0,by simp;exact h4⟩
 change 0≤aC (iR pr 0 m) k at c
 change aC (iR pr 0 m) k<3 at d
 exfalso
 have hg:=Hc pr m 0 k.toNat (by omega)
 unfold aC at c d
 rw[hg,Option.getD_some] at c d
 split at c<;>omega
noncomputable def homU (u:ZD):List Int×Int:=(Ih (spU u).1 u.fParams (u.fRegs.toNat-u.fParams.toNat) 0 u.fCode.length).foldl (asg (spU u).1 (spU u).2 (crU u)) (iR u.fParams 0 u.fRegs.toNat,u.fParams)
set_option maxRecDepth 8000
set_option maxHeartbeats 8000000
theorem p8{H:List Int}{j:Int}{v:Int}(h0:0≤j)(h:j<H.length):(H.set j.toNat v).take (j+1).toNat=H.take j.toNat++[v]:=by
 rw[show(j+1).toNat=j.toNat+1 by omega,List.take_succ,List.take_set_of_le (Nat.le_refl _),List.getElem?_set]
 rw[if_pos rfl,if_pos (by omega)]
 rfl
abbrev hoH(F H T:List Int):Heap:=upd (upd (upd emp (0,2) (some (.s 1 (aG T)))) (0,1) (some (.s 1 (aG H)))) (0,0) (some (.s 1 [[.r (aG F)]]))
theorem M8(u:ZD)(F L C:List Int)(m:Nat)(hm:m≤250)(hF:F.length=m)(hp0:0≤u.fParams)(hp4:u.fParams≤4):∀(k:Nat) (j:Int) (H T:List Int),0≤j→j+k=m→H.length=m→T.length≤j →
  loopW tab [1,4,5,6,7,8,29,30] i8 {env:=upd (upd (upd (upd (upd (upd (upd (upd emp 30 (some (I j))) 29 (some (I (m:Int)))) 8 (some (.ref (0,2) []))) 7 (some (.ref (0,1) []))) 6 (some (.d (.r (aG C))))) 5 (some (.d (.r (aG L))))) 4 (some (.ptr (0,0) [] 0 0))) 1 (some (uV u)),heap:=hoH F H T,fr:=0,next:=3} =
  some (.ext 0,{env:=upd (upd (upd (upd (upd (upd emp 8 (some (.ref (0,2) []))) 7 (some (.ref (0,1) []))) 6 (some (.d (.r (aG C))))) 5 (some (.d (.r (aG L))))) 4 (some (.ptr (0,0) [] 0 0))) 1 (some (uV u)),heap:=hoH F (H.take j.toNat++iR u.fParams j k) (T++De F u.fParams j k),fr:=0,next:=3})
 |0,j,H,T,hj,hk,hH,hT=>by
  have e:H.take j.toNat=H:=List.take_of_length_le (by omega)
  unfold loopW
  conv=>lhs;arg 1;unfold i8
  simp -implicitDefEqProofs (disch:=first|assumption|omega) only[go_sem,simprocAttr,show(m:Int)≤j by omega,e,iR,De,zqe]
 |k+1,j,H,T,hj,hk,hH,hT=>by
  have f1:(aG H).length=m:=by simp[aG,hH]
  have f3:=(bN (zs:=H) hj (by omega)).1
  generalize aC H j=z1 at *
  have g1:=dL H j.toNat (-1)
  have f4:=(bN (zs:=F) hj (by omega)).1
  have f5:(aG F).length=m:=by simp[aG,hF]
  rw[iR,De]
  by_cases h1:j<u.fParams
  ·have ih:=M8 u F L C m hm hF hp0 hp4 k (j+1) (H.set j.toNat (10+j)) T (by omega) (by omega) (by simp[hH]) (by omega)
   rw[p8 hj (by omega),zqc,List.singleton_append] at ih
   rw[if_pos h1,if_pos h1,←ih]
   have g2:=dL (H.set j.toNat (-1)) j.toNat (10+j)
   rw[List.set_set] at g2
   have f6:(aG (H.set j.toNat (-1))).length=m:=by simp[aG,hH]
   have f7:(aG (H.set j.toNat (-1)))[j.toNat]? = some [DI (-1)]:=gB (by rw[List.getElem?_set,if_pos rfl,if_pos (by omega)])
   generalize aC F j=z2 at *
   conv=>lhs;unfold loopW;arg 1;unfold i8
   simp -implicitDefEqProofs (disch:=first|assumption|omega|(simp only[aE,aL,aF,i64,sa,aB,lm,la,lc,ln];omega)) only[go_sem,simprocAttr,show j<m by omega,h1,f1,f3,g1,g2,f6,f7]
  ·rw[if_neg h1,if_neg h1]
   by_cases h2:0≤aC F j
   ·have ih:=M8 u F L C m hm hF hp0 hp4 k (j+1) (H.set j.toNat (-1)) (T++[j]) (by omega) (by omega) (by simp[hH]) (by simp;omega)
    rw[p8 hj (by omega),zqc,List.singleton_append,zqc,List.singleton_append] at ih
    rw[if_pos h2,←ih]
    have e1:aG (T++[j])=aG T++[[DI j]]:=by simp[aG]
    have e2:(aG T).length≤250:=by simp[aG];omega
    simp only[hoH,e1]
    generalize aG T=W at *
    generalize aC F j=z2 at *
    conv=>lhs;unfold loopW;arg 1;unfold i8
    simp -implicitDefEqProofs (disch:=first|assumption|omega|(simp only[aE,aL,aF,i64,sa,aB,lm,la,lc,ln];omega)) only[go_sem,simprocAttr,show j<m by omega,h1,f1,f3,f4,f5,g1,h2]
   ·have ih:=M8 u F L C m hm hF hp0 hp4 k (j+1) (H.set j.toNat (-1)) T (by omega) (by omega) (by simp[hH]) (by omega)
    rw[p8 hj (by omega),zqc,List.singleton_append] at ih
    rw[if_neg h2,←ih]
    generalize aC F j=z2 at *
    conv=>lhs;unfold loopW;arg 1;unfold i8
    simp -implicitDefEqProofs (disch:=first|assumption|omega|(simp only[aE,aL,aF,i64,sa,aB,lm,la,lc,ln];omega)) only[go_sem,simprocAttr,show j<m by omega,h1,f1,f3,f4,f5,g1,h2]
abbrev z6m(F H:List Int):Heap:=upd (upd emp (0,1) (some (.s 1 (aG H)))) (0,0) (some (.s 1 [[.r (aG F)]]))
abbrev R9(F H:List Int)(t:BL):Heap:=upd (upd (upd emp (0,2) (some (.s 1 (bR t)))) (0,1) (some (.s 1 (aG H)))) (0,0) (some (.s 1 [[.r (aG F)]]))
theorem zvJ(F L C H M:List Int)(sl n2 jj r:Int)(m:Nat)(hm:m≤250)(hF:F.length=m)(hL:L.length=m)(hH:H.length=m)(hr0:0≤r)(hrm:r<m)(P:List Int)(hPl:P.length≤250)(hP:∀k∈P,0≤k∧k<m∧0≤aC H k):∀(Bl:List Int) (j:Int) (a b c:Bool),P.drop j.toNat=Bl→0≤j →
  loopW tab [4,5,6,7,8,10,12,13,60,61,62,70,71,72] oU {env:=upd (upd (upd (upd (upd (upd (upd (upd (upd (upd (upd (upd (upd (upd emp 72 (some (I j))) 71 (some (I (P.length:Int)))) 70 (some (.d (.r (aG P))))) 62 (some (I jj))) 61 (some (I n2))) 60 (some (.d (.r (aG M))))) 13 (some (.ref (0,2) []))) 12 (some (I r))) 10 (some (I sl))) 8 (some (.d (.r (aG M))))) 7 (some (.ref (0,1) []))) 6 (some (.d (.r (aG C))))) 5 (some (.d (.r (aG L))))) 4 (some (.ptr (0,0) [] 0 0)),heap:=R9 F H [a,b,c],fr:=0,next:=3} =
  some (.ext 4,{env:=upd (upd (upd (upd (upd (upd (upd (upd (upd (upd (upd emp 62 (some (I jj))) 61 (some (I n2))) 60 (some (.d (.r (aG M))))) 13 (some (.ref (0,2) []))) 12 (some (I r))) 10 (some (I sl))) 8 (some (.d (.r (aG M))))) 7 (some (.ref (0,1) []))) 6 (some (.d (.r (aG C))))) 5 (some (.d (.r (aG L))))) 4 (some (.ptr (0,0) [] 0 0)),heap:=R9 F H [a||eT F L H Bl r 0,b||eT F L H Bl r 1,c||eT F L H Bl r 2],fr:=0,next:=3})
 |[],j,a,b,c,hd,hj=>by
  have hh:=cJ hd hj
  unfold loopW
  conv=>lhs;arg 1;unfold oU
  simp only[bR,mc,mn,R9,eT,List.any_nil,Bool.or_false]
  simp -implicitDefEqProofs (disch:=first|assumption|omega) only[go_sem,simprocAttr,hh]
 |q::Bl,j,a,b,c,hd,hj=>by
  have hc0:=bT hd hj
  obtain⟨hs0,hsm,hsh⟩:=hP q hc0.2.2.2.1
  have h2:=d6 (fun n=>[DI n]) hc0.1
  have h4:=hc0.2.1
  have ih:=fun a b c=>zvJ F L C H M sl n2 jj r m hm hF hL hH hr0 hrm P hPl hP Bl (j+1) a b c hc0.2.2.1 (by omega)
  have f1:=(bN (zs:=H) hs0 (by omega)).1
  have f2:=(bN (zs:=F) hs0 (by omega)).1
  have f3:=(bN (zs:=L) hs0 (by omega)).1
  have f4:=(bN (zs:=F) hr0 (by omega)).1
  have f5:=(bN (zs:=L) hr0 (by omega)).1
  have n1:(aG H).length=m:=by simp[aG,hH]
  have n2:(aG F).length=m:=by simp[aG,hF]
  have n3:(aG L).length=m:=by simp[aG,hL]
  have hbz:∀h,eT F L H (q::Bl) r h=((decide (aC H q=h)&&(decide (aC F q≤aC L r)&&decide (aC F r≤aC L q)))||eT F L H Bl r h):=fun h=>by rw[eT,List.any_cons,←eT]
  rw[hbz,hbz,hbz]
  generalize eT F L H Bl r 0=B0 at *
  generalize eT F L H Bl r 1=B1 at *
  generalize eT F L H Bl r 2=B2 at *
  clear hbz hP
  generalize aC H q=hs at *
  generalize aC F q=fs at *
  generalize aC L q=ls at *
  generalize aC F r=fR at *
  generalize aC L r=lR at *
  conv=>lhs;unfold loopW;arg 1;unfold oU
  by_cases c3:hs<3
  ·by_cases c1:fs≤lR
   ·by_cases c2:fR≤ls
    ·have hcase:hs=0∨hs=1∨hs=2:=by omega
     rcases hcase with rfl|rfl|rfl
     ·have ih0:=ih true b c
      simp only[bR,mc,mn,R9] at ih0 ⊢
      simp -implicitDefEqProofs (disch:=first|assumption|omega) only[go_sem,simprocAttr,h2,h4,f1,f2,f3,f4,f5,n1,n2,n3,c1,c2,ih0,Bool.true_or,Bool.or_true,Bool.false_or,Bool.or_assoc,decide_true,decide_false,Bool.and_self,bfa,show ¬(0:Int)=1 by omega,show ¬(0:Int)=2 by omega]
     ·have ih0:=ih a true c
      simp only[bR,mc,mn,R9] at ih0 ⊢
      simp -implicitDefEqProofs (disch:=first|assumption|omega) only[go_sem,simprocAttr,h2,h4,f1,f2,f3,f4,f5,n1,n2,n3,c1,c2,ih0,Bool.true_or,Bool.or_true,Bool.false_or,Bool.or_assoc,decide_true,decide_false,Bool.and_self,bfa,show ¬(1:Int)=0 by omega,show ¬(1:Int)=2 by omega]
     ·have ih0:=ih a b true
      simp only[bR,mc,mn,R9] at ih0 ⊢
      simp -implicitDefEqProofs (disch:=first|assumption|omega) only[go_sem,simprocAttr,h2,h4,f1,f2,f3,f4,f5,n1,n2,n3,c1,c2,ih0,Bool.true_or,Bool.or_true,Bool.false_or,Bool.or_assoc,decide_true,decide_false,Bool.and_self,bfa,show ¬(2:Int)=0 by omega,show ¬(2:Int)=1 by omega]
    ·have ih0:=ih a b c
     simp only[bR,mc,mn,R9] at ih0 ⊢
     simp -implicitDefEqProofs (disch:=first|assumption|omega) only[go_sem,simprocAttr,h2,h4,f1,f2,f3,f4,f5,n1,n2,n3,c1,c2,c3,ih0,decide_false,decide_true,Zs,Bool.false_or]
   ·have ih0:=ih a b c
    simp only[bR,mc,mn,R9] at ih0 ⊢
    simp -implicitDefEqProofs (disch:=first|assumption|omega) only[go_sem,simprocAttr,h2,h4,f1,f2,f3,f4,f5,n1,n2,n3,c1,c3,ih0,decide_false,decide_true,Zs,bfa,Bool.false_or]
  ·have ih0:=ih a b c
   simp only[bR,mc,mn,R9] at ih0 ⊢
   simp -implicitDefEqProofs (disch:=first|assumption|omega) only[go_sem,simprocAttr,h2,h4,f1,n1,c3,ih0,show ¬hs=0 by omega,show ¬hs=1 by omega,show ¬hs=2 by omega,decide_false,bfa,Bool.false_or]
set_option maxRecDepth 8000
set_option maxHeartbeats 8000000
theorem z8T(a b c:Bool):fzs [[DB a],[DB b],[DB c]]=[[DB a],[DB b],[DB c]]:=rfl
theorem zv9(F L C M:List Int)(m:Nat)(hm:m≤250)(hF:F.length=m)(hL:L.length=m)(hC:C.length≤2000000)(hMl:M.length≤250)(hM:∀r∈M,0≤r∧r<m):∀(Bl:List Int) (j:Int) (S:List Int×Int),M.drop j.toNat=Bl→0≤j→j≤M.length→Hom m (M.take j.toNat) S →
  loopW tab [4,5,6,7,8,10,60,61,62] oM {env:=upd (upd (upd (upd (upd (upd (upd (upd (upd emp 62 (some (I j))) 61 (some (I (M.length:Int)))) 60 (some (.d (.r (aG M))))) 10 (some (I S.2))) 8 (some (.d (.r (aG M))))) 7 (some (.ref (0,1) []))) 6 (some (.d (.r (aG C))))) 5 (some (.d (.r (aG L))))) 4 (some (.ptr (0,0) [] 0 0)),heap:=z6m F S.1,fr:=0,next:=2} =
  some (.ext 2,{env:=upd (upd emp 10 (some (I (Bl.foldl (asg F L C) S).2))) 7 (some (.ref (0,0) [])),heap:=upd emp (0,0) (some (.s 1 (aG (Bl.foldl (asg F L C) S).1))),fr:=0,next:=1})
 |[],j,S,hd,hj,hjm,hS=>by
  have hh:=cJ hd hj
  unfold loopW
  conv=>lhs;arg 1;unfold oM
  simp -implicitDefEqProofs (disch:=first|assumption|omega) only[go_sem,simprocAttr,hh,List.foldl_nil]
 |r::Bl,j,S,hd,hj,hjm,hS=>by
  have hc0:=bT hd hj
  obtain⟨hr0,hrm⟩:=hM r hc0.2.2.2.1
  have h2:=d6 (fun n=>[DI n]) hc0.1
  have h4:=hc0.2.1
  have hst:=hS.step F L C hr0 hrm
  have htk:M.take (j+1).toNat=M.take j.toNat++[r]:=by
   rw[show(j+1).toNat=j.toNat+1 by omega,List.take_succ,hc0.1];rfl
  rw[←htk] at hst
  have ih:=zv9 F L C M m hm hF hL hC hMl hM Bl (j+1) (asg F L C S r) hc0.2.2.1 (by omega) (by omega) hst
  rw[List.foldl_cons,←ih]
  have hpl:(M.take j.toNat).length=j.toNat:=by rw[List.length_take];omega
  have g1:=zvJ F L C S.1 M S.2 M.length j r m hm hF hL hS.len hr0 hrm (M.take j.toNat) (by omega) hS.pos (M.take j.toNat) 0 false false false rfl (by omega)
  rw[Bool.false_or,Bool.false_or,Bool.false_or] at g1
  have g2:=zxc (eT F L S.1 (M.take j.toNat) r 0) (eT F L S.1 (M.take j.toNat) r 1) (eT F L S.1 (M.take j.toNat) r 2)
  rw[show(if eT F L S.1 (M.take j.toNat) r 0=false then(0:Int) else if eT F L S.1 (M.take j.toNat) r 1=false then 1 else if eT F L S.1 (M.take j.toNat) r 2=false then 2 else -1)=rO F L S.1 (M.take j.toNat) r from rfl] at g2
  have e0:=zVs (F:=F) (L:=L) (fun k hk=>⟨(hS.pos k hk).1,(hS.pos k hk).2.1⟩) hS.low r
  have hfb:=Ho F L S.1 (M.take j.toNat) r
  have g3:=Km C r (by omega)
  have a1:=(bN (zs:=S.1) hr0 (by rw[hS.len];exact hrm)).1
  have n1:(aG S.1).length=m:=by simp[aG,hS.len]
  have n2:=dL S.1 r.toNat (10+S.2)
  have n3:=dL S.1 r.toNat (rO F L S.1 (M.take j.toNat) r)
  have hsl:=hS.slot
  have hml:(aG M).length=M.length:=by simp[aG]
  have hcut:(aG M).take j.toNat=aG (M.take j.toNat):=by simp[aG,List.map_take]
  rw[asg,hS.len,←e0]
  simp only[bR,mc,mn,R9] at g1 g2
  generalize rO F L S.1 (M.take j.toNat) r=fp at *
  generalize eT F L S.1 (M.take j.toNat) r 0=B0 at *
  generalize eT F L S.1 (M.take j.toNat) r 1=B1 at *
  generalize eT F L S.1 (M.take j.toNat) r 2=B2 at *
  generalize aC S.1 r=z0 at *
  have hjl:j.toNat≤250:=by omega
  clear hst hS ih hM htk e0 hd hcut
  generalize hPP:M.take j.toNat=P at *
  have hcut:(aG M).take j.toNat=aG P:=by rw[←hPP];simp[aG,List.map_take]
  clear hPP
  obtain⟨H,sl⟩:=S
  simp only at *
  conv=>lhs;unfold loopW;arg 1;unfold oM
  by_cases hf:fp<0
  ·rw[if_pos (.inl hf)]
   simp -implicitDefEqProofs (disch:=first|assumption|omega|(simp only[aE,aL,aF,i64,sa,aB,lm,la,lc,ln];omega)) only[go_sem,simprocAttr,h2,h4,g1,g2,g3,a1,n1,n2,hf,hcut,hml,sM,z8T,List.replicate_succ,List.replicate_zero]
  ·by_cases hc:r∈C
   ·rw[if_pos (.inr hc)]
    rw[decide_eq_true hc] at g3
    simp -implicitDefEqProofs (disch:=first|assumption|omega|(simp only[aE,aL,aF,i64,sa,aB,lm,la,lc,ln];omega)) only[go_sem,simprocAttr,h2,h4,g1,g2,g3,a1,n1,n2,hf,hcut,hml,sM,z8T,List.replicate_succ,List.replicate_zero]
   ·rw[if_neg (by rintro(h|h);exact hf h;exact hc h)]
    rw[decide_eq_false hc] at g3
    simp -implicitDefEqProofs (disch:=first|assumption|omega|(simp only[aE,aL,aF,i64,sa,aB,lm,la,lc,ln];omega)) only[go_sem,simprocAttr,h2,h4,g1,g2,g3,a1,n1,n3,hf,hcut,hml,sM,z8T,List.replicate_succ,List.replicate_zero]
abbrev hoK(F H:List Int):Heap:=upd (upd emp (0,1) (some (.s 1 (aG H)))) (0,0) (some (.s 1 [[.r (aG F)]]))
theorem zqj(F H T:List Int):sH (hoK F H) 2 T=hoH F H T:=by
 funext id
 simp only[sH,hoK,hoH,upd]
 by_cases h0:id=(0,0)
 ·subst h0;simp
 ·by_cases h1:id=(0,1)
  ·subst h1;simp
  ·by_cases h2:id=(0,2)<;>simp[h0,h1,h2]
theorem Y4(F H:List Int):vN (hoK F H) 2:=fun fr h1 x=>by
 funext id
 simp only[cC]
 split
 ·rename_i h
  have h0:∀k,id≠(0,k):=fun k e=>by rw[e] at h;simp at h;omega
  simp[upd,h0,emp]
 ·rfl
theorem z7b(F H:List Int)(m:Nat)(hm:m≤250)(hF:F.length=m)(n:Int)(hn:n≤1000)(hin:inJ n F):Cmp (hoK F H) 2 0 yG (aC F) (fun r=>0≤r∧r<m):=fun zs fr x y h2 hx hy=>by
 have hd:=Y4 F H fr (by omega)
 obtain⟨hx0,hxm⟩:=hx
 obtain⟨hy0,hym⟩:=hy
 have f1:=(bN (zs:=F) hx0 (by omega)).1
 have f2:=(bN (zs:=F) hy0 (by omega)).1
 have i1:=hin _ (bN (zs:=F) hx0 (by omega)).2
 have i2:=hin _ (bN (zs:=F) hy0 (by omega)).2
 have n1:(aG F).length=m:=by simp[aG,hF]
 have e:=zqj F H zs
 simp only[sH] at e ⊢
 have hd2:=hd (some (D.s 1 (aG zs)))
 rw[e] at hd2 ⊢
 generalize aC F x=fx at *
 generalize aC F y=fy at *
 rw[aR Pm _ _ _ rfl,Bw]
 simp -implicitDefEqProofs (disch:=first|assumption|omega) only[go_sem,simprocAttr,f1,f2,n1,hd2,show ¬0=fr by omega]
set_option maxRecDepth 8000
set_option maxHeartbeats 8000000
theorem Mv(u:ZD):(spU u).1.length=u.fRegs.toNat∧(spU u).2.length=u.fRegs.toNat:=by
 have:=Ud u.fCode (live u) 0 (List.replicate u.fRegs.toNat (-1),List.replicate u.fRegs.toNat (-1))
 simpa[spU] using this
theorem zqg{u:ZD}(hr:Right u):inJ u.fCode.length (spU u).1∧inJ u.fCode.length (spU u).2:=by
 have h1:inJ u.fCode.length (List.replicate u.fRegs.toNat (-1)):=fun x hx=>by have:=(List.mem_replicate.1 hx).2;omega
 exact Yt u.fCode.length u.fRegs.toNat u.fCode (live u) 0 _ (by omega) (by omega) (fun t ht r h=>(wW hr t ht r h).1) h1 h1
theorem zXr(F L:List Int)(u:ZD):asg F L (crS u)=asg F L (crU u):=by
 funext S r
 simp only[asg,zXU]
noncomputable abbrev ordU (u:ZD):List Int:=De (spU u).1 u.fParams 0 u.fRegs.toNat
noncomputable abbrev refU (u:ZD):List Int:=Ih (spU u).1 u.fParams (u.fRegs.toNat-u.fParams.toNat) 0 u.fCode.length
theorem Mw{u:ZD}(hr:Right u):Mg (aC (spU u).1) (ordU u) (refU u) :=
 zXv hr.pars.1 (by have:=hr.pars;omega) (zqg hr).1 (Mv u).1
theorem Fe(u:ZD)(hs:u.sm)(hu:qI u=true):call tab zR [u.x]=some (.tup [.d (.s 1 (aG (homU u).1)),I (homU u).2]):=by
 have hr:=lM hu
 obtain⟨I1,hI,hL,h1⟩:=lS u hr hs
 have h2:=Sj u hs hu
 have h3:=Lj u hs hu
 obtain⟨hr0,hr1⟩:=hr.regs
 obtain⟨hp0,hp4,hpm⟩:=hr.pars
 have hl:=hr.len
 obtain⟨hF,hLl⟩:=Mv u
 have hin:=(zqg hr).1
 have hcl:=z9Y u
 have hcl2:=zk3 hr hL
 have e1:(u.fRegs.toNat:Int)=u.fRegs:=by omega
 have g0:=M8 u (spU u).1 (spU u).2 (crS u) u.fRegs.toNat (by omega) hF hp0 hp4 u.fRegs.toNat 0 (List.replicate u.fRegs.toNat 0) [] (by omega) (by omega) (by simp) (by simp)
 rw[show(0:Int).toNat=0 from rfl,List.take_zero,zqf,zqf] at g0
 have hom0:∀r∈ordU u,0≤r∧r<u.fRegs.toNat:=fun r hr=>by rw[Dm] at hr;omega
 have hol:(ordU u).length≤250:=Nat.le_trans (Hp (spU u).1 u.fParams u.fRegs.toNat 0) (by omega)
 obtain⟨M,hM,g1⟩:=Rh (Y4 (spU u).1 (iR u.fParams 0 u.fRegs.toNat)) (z7b (spU u).1 (iR u.fParams 0 u.fRegs.toNat) u.fRegs.toNat (by omega) hF u.fCode.length (by omega) hin) 1 (by omega) (ordU u) (Dw _ _ _ _) hol hom0
 have hMr:=Mg.unique hM (Mw hr)
 rw[zqj,zqj] at g1
 have hMl:M.length≤250:=by rw[hM.len];exact hol
 have g2:=zv9 (spU u).1 (spU u).2 (crS u) M u.fRegs.toNat (by omega) hF hLl (by omega) hMl (fun r hr=>hom0 r (hM.perm.subset hr)) M 0 (iR u.fParams 0 u.fRegs.toNat,u.fParams) rfl (by omega) (by omega) (Hom.start hp0 hp4 (by omega))
 rw[zXr] at g2
 have hfin:M.foldl (asg (spU u).1 (spU u).2 (crU u)) (iR u.fParams 0 u.fRegs.toNat,u.fParams)=homU u:=by rw[hMr];rfl
 rw[hfin] at g2
 have e4:List.replicate u.fRegs.toNat [DI 0]=aG (List.replicate u.fRegs.toNat 0):=by simp[aG]
 rw[e1] at g0
 rw[aT W5 _ rfl,Ip]
 clear hfin hMr hM hom0 hin hcl
 generalize homU u=S at *
 obtain⟨S1,S2⟩:=S
 have e5:aG ([]:List Int)=[]:=rfl
 rw[show De (spU u).1 u.fParams 0 u.fRegs.toNat=ordU u from rfl] at g0
 rw[hoH,e5] at g0
 simp only[z6m,cl] at g2 g1
 generalize ordU u=T at *
 generalize iR u.fParams 0 u.fRegs.toNat=H at *
 generalize (spU u).1=F at *
 generalize (spU u).2=L at *
 generalize crS u=C at *
 have hml:(aG M).length=M.length:=by simp[aG]
 simp -implicitDefEqProofs (disch:=first|assumption|omega|(simp only[aE,aL,aF,i64,sa,aB,lm,la,lc,ln];omega)) only[go_sem,simprocAttr,h2,h3,e4,g0,g1,g2,cM,hml]
set_option maxRecDepth 8000
set_option maxHeartbeats 8000000
abbrev wkH(F L H:List Int)(n:Int):Heap:=upd emp (0,0) (some (.s 4 [[.s 1 (aG F),.s 1 (aG L),.s 1 (aG H),DI n]]))
theorem Q8(F L H:List Int)(n:Int)(fr:Nat)(h1:1≤fr):cC fr (wkH F L H n)=wkH F L H n:=by
 funext id
 simp only[cC]
 split
 ·rename_i h
  have h0:∀k,id≠(0,k):=fun k e=>by rw[e] at h;simp at h;omega
  simp[upd,h0,emp]
 ·rfl
theorem N3(F L H:List Int)(sl r h:Int)(m:Nat)(hm:m≤250)(hF:F.length=m)(hL:L.length=m)(hH:H.length=m)(hr0:0≤r)(hrm:r<m):∀(n:Nat) (k:Int) (ok:Bool),0≤k→k+n=m →
  loopW tab [0,1,5,6,7] mF {env:=upd (upd (upd (upd (upd emp 7 (some (I k))) 6 (some (B ok))) 5 (some (I h))) 1 (some (I r))) 0 (some (.ptr (0,0) [] 0 0)),heap:=wkH F L H sl,fr:=1,next:=0} =
  some (.ext 2,{env:=upd (upd (upd (upd emp 6 (some (B (ok&& !eT F L H (vJ k n) r h)))) 5 (some (I h))) 1 (some (I r))) 0 (some (.ptr (0,0) [] 0 0)),heap:=wkH F L H sl,fr:=1,next:=0})
 |0,k,ok,h0,hk=>by
  have hd:=Q8 F L H sl 1 (by omega)
  have n1:(aG H).length=m:=by simp[aG,hH]
  simp only[vJ,eT,List.any_nil,Bool.not_false,bat]
  unfold loopW
  conv=>lhs;arg 1;unfold mF
  simp -implicitDefEqProofs (disch:=first|assumption|omega) only[go_sem,simprocAttr,show(m:Int)≤k by omega,n1,hd]
 |n+1,k,ok,h0,hk=>by
  have hd:=Q8 F L H sl 1 (by omega)
  have ih1:=N3 F L H sl r h m hm hF hL hH hr0 hrm n (k+1) ok (by omega) (by omega)
  have ih2:=N3 F L H sl r h m hm hF hL hH hr0 hrm n (k+1) false (by omega) (by omega)
  have f1:=(bN (zs:=H) h0 (by omega)).1
  have f2:=(bN (zs:=F) h0 (by omega)).1
  have f3:=(bN (zs:=L) h0 (by omega)).1
  have f4:=(bN (zs:=F) hr0 (by omega)).1
  have f5:=(bN (zs:=L) hr0 (by omega)).1
  have n1:(aG H).length=m:=by simp[aG,hH]
  have n2:(aG F).length=m:=by simp[aG,hF]
  have n3:(aG L).length=m:=by simp[aG,hL]
  rw[vJ,eT,List.any_cons,←eT]
  generalize eT F L H (vJ (k+1) n) r h=B0 at *
  generalize aC H k=hs at *
  generalize aC F k=fs at *
  generalize aC L k=ls at *
  generalize aC F r=fR at *
  generalize aC L r=lR at *
  conv=>lhs;unfold loopW;arg 1;unfold mF
  have hkm:k<(m:Int):=by omega
  by_cases c3:hs=h
  ·subst c3
   by_cases c1:fs≤lR
   ·by_cases c2:fR≤ls
    ·rw[bfa] at ih2
     simp only[decide_true,bta,c1,c2,Bool.true_or,Bool.not_true,Zs]
     rw[←ih2]
     simp -implicitDefEqProofs (disch:=first|assumption|omega) only[go_sem,simprocAttr,f1,f2,f3,f4,f5,n1,n2,n3,c1,c2,hd,hkm]
    ·simp only[decide_false,decide_true,bta,Zs,c2,Bool.false_or]
     rw[←ih1]
     simp -implicitDefEqProofs (disch:=first|assumption|omega) only[go_sem,simprocAttr,f1,f2,f3,f4,f5,n1,n2,n3,c1,c2,hd,hkm]
   ·simp only[decide_false,decide_true,bta,bfa,c1,Bool.false_or]
    rw[←ih1]
    simp -implicitDefEqProofs (disch:=first|assumption|omega) only[go_sem,simprocAttr,f1,f2,f3,f4,f5,n1,n2,n3,c1,hd,hkm]
  ·simp only[decide_false,bfa,c3,Bool.false_or]
   rw[←ih1]
   simp -implicitDefEqProofs (disch:=first|assumption|omega) only[go_sem,simprocAttr,f1,n1,c3,hd,hkm]
theorem zQj(F L H:List Int)(sl r:Int)(m:Nat)(hm:m≤250)(hF:F.length=m)(hL:L.length=m)(hH:H.length=m)(hr0:0≤r)(hrm:r<m) :
  evCW tab y6 [.ptr (0,0) [] 0 0,I r] (wkH F L H sl) 1=some (I (rO F L H (vJ 0 m) r),wkH F L H sl):=by
 have hd:=Q8 F L H sl 1 (by omega)
 have g:=fun h=>N3 F L H sl r h m hm hF hL hH hr0 hrm m 0 true (by omega) (by omega)
 simp only[bta] at g
 have l3:loopW tab [0,1,5] cF {env:=upd (upd (upd emp 5 (some (I 3))) 1 (some (I r))) 0 (some (.ptr (0,0) [] 0 0)),heap:=wkH F L H sl,fr:=1,next:=0}=some (.ext 0,{env:=emp,heap:=wkH F L H sl,fr:=1,next:=0}):=by
  unfold loopW
  conv=>lhs;arg 1;unfold cF
  simp -implicitDefEqProofs (disch:=first|assumption|omega) only[go_sem,simprocAttr,hd]
 rw[aR Qg _ _ _ rfl,Bm]
 unfold rO
 have g0:=g 0
 have g1:=g 1
 have g2:=g 2
 generalize eT F L H (vJ 0 m) r 0=B0 at *
 generalize eT F L H (vJ 0 m) r 1=B1 at *
 generalize eT F L H (vJ 0 m) r 2=B2 at *
 have l2:loopW tab [0,1,5] cF {env:=upd (upd (upd emp 5 (some (I 2))) 1 (some (I r))) 0 (some (.ptr (0,0) [] 0 0)),heap:=wkH F L H sl,fr:=1,next:=0}=if B2=false then some (.ret,{env:=upd emp 4 (some (I 2)),heap:=wkH F L H sl,fr:=1,next:=0}) else some (.ext 0,{env:=emp,heap:=wkH F L H sl,fr:=1,next:=0}):=by
  cases B2<;>simp only[if_true,if_false,Bool.true_eq_false,←l3,Bool.not_true,Bool.not_false] at *
  ·conv=>lhs;unfold loopW;arg 1;unfold cF
   simp -implicitDefEqProofs (disch:=first|assumption|omega) only[go_sem,simprocAttr,g2,hd]
  ·conv=>lhs;unfold loopW;arg 1;unfold cF
   simp -implicitDefEqProofs (disch:=first|assumption|omega) only[go_sem,simprocAttr,g2,hd]
 have l1:loopW tab [0,1,5] cF {env:=upd (upd (upd emp 5 (some (I 1))) 1 (some (I r))) 0 (some (.ptr (0,0) [] 0 0)),heap:=wkH F L H sl,fr:=1,next:=0}=if B1=false then some (.ret,{env:=upd emp 4 (some (I 1)),heap:=wkH F L H sl,fr:=1,next:=0}) else if B2=false then some (.ret,{env:=upd emp 4 (some (I 2)),heap:=wkH F L H sl,fr:=1,next:=0}) else some (.ext 0,{env:=emp,heap:=wkH F L H sl,fr:=1,next:=0}):=by
  rw[←l2]
  clear l2 g0 g2
  cases B1<;>simp only[if_true,if_false,Bool.true_eq_false,Bool.not_true,Bool.not_false] at *
  ·conv=>lhs;unfold loopW;arg 1;unfold cF
   simp -implicitDefEqProofs (disch:=first|assumption|omega) only[go_sem,simprocAttr,g1,hd]
  ·conv=>lhs;unfold loopW;arg 1;unfold cF
   simp -implicitDefEqProofs (disch:=first|assumption|omega) only[go_sem,simprocAttr,g1,hd]
 have l0:loopW tab [0,1,5] cF {env:=upd (upd (upd emp 5 (some (I 0))) 1 (some (I r))) 0 (some (.ptr (0,0) [] 0 0)),heap:=wkH F L H sl,fr:=1,next:=0}=if B0=false then some (.ret,{env:=upd emp 4 (some (I 0)),heap:=wkH F L H sl,fr:=1,next:=0}) else if B1=false then some (.ret,{env:=upd emp 4 (some (I 1)),heap:=wkH F L H sl,fr:=1,next:=0}) else if B2=false then some (.ret,{env:=upd emp 4 (some (I 2)),heap:=wkH F L H sl,fr:=1,next:=0}) else some (.ext 0,{env:=emp,heap:=wkH F L H sl,fr:=1,next:=0}):=by
  rw[←l1]
  clear l1 l2 g1 g2
  cases B0<;>simp only[if_true,if_false,Bool.true_eq_false,Bool.not_true,Bool.not_false] at *
  ·conv=>lhs;unfold loopW;arg 1;unfold cF
   simp -implicitDefEqProofs (disch:=first|assumption|omega) only[go_sem,simprocAttr,g0,hd]
  ·conv=>lhs;unfold loopW;arg 1;unfold cF
   simp -implicitDefEqProofs (disch:=first|assumption|omega) only[go_sem,simprocAttr,g0,hd]
 clear g0 g1 g2 l1 l2 l3
 cases B0<;>cases B1<;>cases B2<;>simp only[if_true,if_false,Bool.true_eq_false] at l0 ⊢ <;> simp -implicitDefEqProofs (disch:=first|assumption|omega) only[go_sem,simprocAttr,l0,hd]
set_option maxRecDepth 8000
set_option maxHeartbeats 8000000
theorem zv8(u:ZD)(F L:List Int)(Cb:BL)(sl:Int)(m:Nat)(hm:m≤250)(hp0:0≤u.fParams)(hp4:u.fParams≤4)(hpm:u.fParams≤m):∀(n:Nat) (j:Int) (H:List Int),0≤j→j+n=u.fParams→H.length=m →
  loopW tab [1,4,5,6] lB {env:=upd (upd (upd (upd emp 6 (some (I j))) 5 (some (.ptr (0,0) [] 0 0))) 4 (some (.d (.r (bR Cb))))) 1 (some (uV u)),heap:=wkH F L H sl,fr:=0,next:=1} =
  some (.ext 0,{env:=upd (upd (upd emp 5 (some (.ptr (0,0) [] 0 0))) 4 (some (.d (.r (bR Cb))))) 1 (some (uV u)),heap:=wkH F L (H.take j.toNat++(iR u.fParams j n++H.drop u.fParams.toNat)) sl,fr:=0,next:=1})
 |0,j,H,h0,hk,hH=>by
  have e:H.take j.toNat++(iR u.fParams j 0++H.drop u.fParams.toNat)=H:=by
   rw[show j=u.fParams by omega,iR,zqf,List.take_append_drop]
  rw[e]
  unfold loopW
  conv=>lhs;arg 1;unfold lB
  simp -implicitDefEqProofs (disch:=first|assumption|omega) only[go_sem,simprocAttr,show u.fParams≤j by omega]
 |n+1,j,H,h0,hk,hH=>by
  have ih:=zv8 u F L Cb sl m hm hp0 hp4 hpm n (j+1) (H.set j.toNat (10+j)) (by omega) (by omega) (by simp[hH])
  rw[p8 h0 (by omega),List.drop_set_of_lt (by omega)] at ih
  rw[iR,if_pos (by omega),show H.take j.toNat++((10+j)::iR u.fParams (j+1) n++H.drop u.fParams.toNat)=H.take j.toNat++[10+j]++(iR u.fParams (j+1) n++H.drop u.fParams.toNat) by simp,←ih]
  have n1:(aG H).length=m:=by simp[aG,hH]
  have f1:=(bN (zs:=H) h0 (by omega)).1
  have g1:=dL H j.toNat (10+j)
  generalize aC H j=z at *
  conv=>lhs;unfold loopW;arg 1;unfold lB
  simp -implicitDefEqProofs (disch:=first|assumption|omega) only[go_sem,simprocAttr,show j<u.fParams by omega,n1,f1,g1]
theorem Xi(u:ZD)(F L C:List Int)(Cb:BL)(m:Nat)(hu:u.fRegs=m)(hm:m≤250)(hF:F.length=m)(hL:L.length=m)(hCb:Cb.length=m)(hC:∀r:Int,0≤r→(Cb[r.toNat]? = some true↔r∈C))(q:Int):∀(n:Nat) (r:Int) (H:List Int) (sl:Int),0≤r→r+n=m→H.length=m→0≤sl→sl≤1000000+r →
  loopW tab [1,4,5,7,8] gS {env:=upd (upd (upd (upd (upd emp 8 (some (I r))) 7 (some (I q))) 5 (some (.ptr (0,0) [] 0 0))) 4 (some (.d (.r (bR Cb))))) 1 (some (uV u)),heap:=wkH F L H sl,fr:=0,next:=1} =
  some (.ext 4,{env:=upd (upd (upd (upd emp 7 (some (I q))) 5 (some (.ptr (0,0) [] 0 0))) 4 (some (.d (.r (bR Cb))))) 1 (some (uV u)),heap:=wkH F L ((rV F q r n).foldl (asg F L C) (H,sl)).1 ((rV F q r n).foldl (asg F L C) (H,sl)).2,fr:=0,next:=1})
 |0,r,H,sl,h0,hk,hH,hs0,hs1=>by
  unfold loopW
  conv=>lhs;arg 1;unfold gS
  simp -implicitDefEqProofs (disch:=first|assumption|omega) only[go_sem,simprocAttr,show u.fRegs≤r by omega,rV,List.foldl_nil]
 |n+1,r,H,sl,h0,hk,hH,hs0,hs1=>by
  have n1:(aG H).length=m:=by simp[aG,hH]
  have n2:(aG F).length=m:=by simp[aG,hF]
  have f2:=(bN (zs:=F) h0 (by omega)).1
  have f1:=(bN (zs:=H) h0 (by omega)).1
  have hru:r<u.fRegs:=by omega
  rw[rV]
  by_cases hq:aC F r=q
  ·rw[if_pos hq,List.foldl_cons]
   have hsl:=Z3 F L C (H,sl) r
   have ih:=Xi u F L C Cb m hu hm hF hL hCb hC q n (r+1) (asg F L C (H,sl) r).1 (asg F L C (H,sl) r).2 (by omega) (by omega) (by rw[zvk];exact hH) (by have:=hsl.1;simp only at this;omega) (by have:=hsl.2;simp only at this;omega)
   rw[show((asg F L C (H,sl) r).1,(asg F L C (H,sl) r).2)=asg F L C (H,sl) r from rfl] at ih
   rw[←ih]
   have g0:=zQj F L H sl r m hm hF hL hH h0 (by omega)
   have hb:=Ho F L H (vJ 0 m) r
   have c1:=hC r h0
   have hlt:r.toNat<Cb.length:=by omega
   have c2:=kO (List.getElem?_eq_getElem hlt)
   rw[List.getElem?_eq_getElem hlt,oi] at c1
   have n4:(bR Cb).length=m:=by simp[hCb]
   generalize Cb[r.toNat]=cb at *
   have s1:=dL H r.toNat (10+sl)
   have s2:=dL H r.toNat (rO F L H (vJ 0 m) r)
   unfold asg
   simp only[hH]
   generalize rO F L H (vJ 0 m) r=fp at *
   generalize aC H r=z at *
   rw[hq] at f2
   clear hsl ih
   conv=>lhs;unfold loopW;arg 1;unfold gS
   cases cb
   ·have hc:¬r∈C:=fun h=>by simpa using c1.2 h
    by_cases hf:fp<0
    ·rw[if_pos (.inl hf)]
     simp -implicitDefEqProofs (disch:=first|assumption|omega) only[go_sem,simprocAttr,n1,n2,f1,f2,n4,c2,g0,s1,hf,hru]
    ·rw[if_neg (by rintro(h|h);exact hf h;exact hc h)]
     simp -implicitDefEqProofs (disch:=first|assumption|omega) only[go_sem,simprocAttr,n1,n2,f1,f2,n4,c2,g0,s2,hf,hru]
   ·rw[if_pos (.inr (c1.1 rfl))]
    simp -implicitDefEqProofs (disch:=first|assumption|omega) only[go_sem,simprocAttr,n1,n2,f1,f2,n4,c2,s1,hru]
  ·rw[if_neg hq]
   have ih:=Xi u F L C Cb m hu hm hF hL hCb hC q n (r+1) H sl (by omega) (by omega) hH hs0 (by omega)
   rw[←ih]
   generalize aC F r=z at *
   conv=>lhs;unfold loopW;arg 1;unfold gS
   simp -implicitDefEqProofs (disch:=first|assumption|omega) only[go_sem,simprocAttr,n2,f2,hq,hru]
theorem Jz(F L C:List Int):∀(ls:List Int) (S:List Int×Int),S.2≤(ls.foldl (asg F L C) S).2∧(ls.foldl (asg F L C) S).2≤S.2+ls.length
 |[],S=>by simp
 |r::ls,S=>by
  have h1:=Z3 F L C S r
  have h2:=Jz F L C ls (asg F L C S r)
  rw[List.foldl_cons,lc]
  omega
theorem Zw(F:List Int)(q:Int):∀(k:Nat) (j:Int),(rV F q j k).length≤k
 |0,j=>by simp[rV]
 |k+1,j=>by
  have:=Zw F q k (j+1)
  rw[rV]
  split
  ·simp;omega
  ·omega
theorem zvm(u:ZD)(F L C:List Int)(Cb:BL)(m:Nat)(hu:u.fRegs=m)(hm:m≤250)(hF:F.length=m)(hL:L.length=m)(hCb:Cb.length=m)(hC:∀r:Int,0≤r→(Cb[r.toNat]? = some true↔r∈C))(hp0:0≤u.fParams)(hpm:u.fParams≤m)(hcl:u.fCode.length≤900):∀(n:Nat) (q:Int) (H:List Int) (sl:Int),0≤q→q+n=u.fCode.length→H.length=m→0≤sl→sl≤4+250*q →
  loopW tab [1,4,5,7] kT {env:=upd (upd (upd (upd emp 7 (some (I q))) 5 (some (.ptr (0,0) [] 0 0))) 4 (some (.d (.r (bR Cb))))) 1 (some (uV u)),heap:=wkH F L H sl,fr:=0,next:=1} =
  some (.ext 2,{env:=upd emp 5 (some (.ptr (0,0) [] 0 0)),heap:=wkH F L ((Ih F u.fParams (m-u.fParams.toNat) q n).foldl (asg F L C) (H,sl)).1 ((Ih F u.fParams (m-u.fParams.toNat) q n).foldl (asg F L C) (H,sl)).2,fr:=0,next:=1})
 |0,q,H,sl,h0,hk,hH,hs0,hs1=>by
  unfold loopW
  conv=>lhs;arg 1;unfold kT
  simp -implicitDefEqProofs (disch:=first|assumption|omega) only[go_sem,simprocAttr,show(u.fCode.length:Int)≤q by omega,Ih,List.foldl_nil]
 |n+1,q,H,sl,h0,hk,hH,hs0,hs1=>by
  rw[Ih,List.foldl_append]
  have g:=Xi u F L C Cb m hu hm hF hL hCb hC q (m-u.fParams.toNat) u.fParams H sl hp0 (by omega) hH hs0 (by omega)
  have hsl:=Jz F L C (rV F q u.fParams (m-u.fParams.toNat)) (H,sl)
  have hln:=Z4 F L C (rV F q u.fParams (m-u.fParams.toNat)) (H,sl)
  have hse:=Zw F q (m-u.fParams.toNat) u.fParams
  simp only at hsl hln
  have ih:=zvm u F L C Cb m hu hm hF hL hCb hC hp0 hpm hcl n (q+1) ((rV F q u.fParams (m-u.fParams.toNat)).foldl (asg F L C) (H,sl)).1 ((rV F q u.fParams (m-u.fParams.toNat)).foldl (asg F L C) (H,sl)).2 (by omega) (by omega) (by rw[hln];exact hH) (by omega) (by omega)
  rw[show(((rV F q u.fParams (m-u.fParams.toNat)).foldl (asg F L C) (H,sl)).1,((rV F q u.fParams (m-u.fParams.toNat)).foldl (asg F L C) (H,sl)).2)=(rV F q u.fParams (m-u.fParams.toNat)).foldl (asg F L C) (H,sl) from rfl] at ih
  rw[←ih]
  clear ih hsl hln hse
  generalize ((rV F q u.fParams (m-u.fParams.toNat)).foldl (asg F L C) (H,sl)).1=S1 at *
  generalize ((rV F q u.fParams (m-u.fParams.toNat)).foldl (asg F L C) (H,sl)).2=S2 at *
  conv=>lhs;unfold loopW;arg 1;unfold kT
  simp -implicitDefEqProofs (disch:=first|assumption|omega) only[go_sem,simprocAttr,show q<(u.fCode.length:Int) by omega,g]
theorem P5(pr:Int):∀(a b:Nat) (j:Int),j+a=pr→iR pr j (a+b)=iR pr j a++List.replicate b (-1)
 |0,b,j,h=>by rw[Nat.zero_add,iR,zqf,U5 b j (by omega)]
 |a+1,b,j,h=>by
  rw[show a+1+b=(a+b)+1 by omega,iR,iR,P5 pr a b (j+1) (by omega),List.cons_append]
theorem zxk{t:ZC}{o:BL}{r:Int}(h:r∈y4 t o):0≤r∧r<o.length:=by
 unfold y4 at h
 split at h
 ·exact xO (List.mem_filter.1 h).1
 ·simp at h
theorem U0{m z:Nat}(hz:z=m):∀{ts:List ZC} {os:List BL},(∀o∈os,o.length=m)→∀r∈kN ts os,0≤r∧r<z
 |[],_,_,r,h=>by simp[kN] at h
 |_::_,[],_,r,h=>by simp[kN] at h
 |t::ts,o::os,ho,r,h=>by
  rw[kN,List.mem_append] at h
  rcases h with h|h
  ·have:=zxk h
   have:=ho o (by simp)
   omega
  ·exact U0 hz (fun o h=>ho o (by simp[h])) r h
theorem x4(u:ZD)(hs:u.sm)(hr:Right u):∃F L:List Int,call tab pY [u.x]=some (.rop [.r (aG F),.r (aG L),.r (aG (homU u).1),DI (homU u).2]):=by
 refine⟨(spU u).1,(spU u).2,?_⟩
 obtain⟨hL,h1⟩:=No u hr hs
 have h2:=Gg u hr hL
 have h3:=J4 u hs hr hL
 obtain⟨hr0,hr1⟩:=hr.regs
 obtain⟨hp0,hp4,hpm⟩:=hr.pars
 have hl:=hr.len
 obtain⟨hF,hLl⟩:=Mv u
 have h4:=zvM u.fRegs hr0 hr1
 have g0:=zv8 u (spU u).1 (spU u).2 (b7 true (zB u) (crU u)) u.fParams u.fRegs.toNat (by omega) hp0 hp4 (by omega) u.fParams.toNat 0 (List.replicate u.fRegs.toNat (-1)) (by omega) (by omega) (by simp)
 have e1:(List.replicate u.fRegs.toNat (-1:Int)).take (0:Int).toNat++(iR u.fParams 0 u.fParams.toNat++(List.replicate u.fRegs.toNat (-1)).drop u.fParams.toNat)=iR u.fParams 0 u.fRegs.toNat:=by
  rw[show(0:Int).toNat=0 from rfl,List.take_zero,zqf,List.drop_replicate,←P5 u.fParams u.fParams.toNat (u.fRegs.toNat-u.fParams.toNat) 0 (by omega),show u.fParams.toNat+(u.fRegs.toNat-u.fParams.toNat)=u.fRegs.toNat by omega]
 rw[e1] at g0
 have hcb:∀r∈crU u,0≤r∧r<(zB u).length:=U0 (by simp) (pM hL).2
 have g1:=zvm u (spU u).1 (spU u).2 (crU u) (b7 true (zB u) (crU u)) u.fRegs.toNat (by omega) (by omega) hF hLl (by rw[kF];simp) (fun r h0=>by
  have:=Jq r.toNat (crU u) (zB u) hcb
  rw[this,show(r.toNat:Int)=r by omega]
  constructor
  ·rintro(h|h)
   ·exact h
   ·exact absurd h (Xr _ _)
  ·exact .inl) hp0 (by omega) (by omega) u.fCode.length 0 (iR u.fParams 0 u.fRegs.toNat) u.fParams (by omega) (by omega) (If _ _ _) hp0 (by omega)
 rw[show(Ih (spU u).1 u.fParams (u.fRegs.toNat-u.fParams.toNat) 0 u.fCode.length).foldl (asg (spU u).1 (spU u).2 (crU u)) (iR u.fParams 0 u.fRegs.toNat,u.fParams)=homU u from rfl] at g1
 have e2:fzs (bM (live u))=bMr (live u):=zWL _
 have e3:=I7 (b7 true (zB u) (crU u))
 rw[aT Mc _ rfl,Av]
 clear e1 hcb
 simp only[wkH] at g0 g1
 generalize b7 true (zB u) (crU u)=Cb at *
 generalize iR u.fParams 0 u.fRegs.toNat=H at *
 generalize (spU u).1=F at *
 generalize (spU u).2=L at *
 generalize homU u=S at *
 obtain⟨S1,S2⟩:=S
 simp -implicitDefEqProofs (disch:=first|assumption|omega|(simp only[aE,aL,aF,i64,sa,aB,lm,la,lc,ln];omega)) only[go_sem,simprocAttr,h1,h2,h3,h4,e2,e3,g0,g1,cM]
end Go.Ev.G
