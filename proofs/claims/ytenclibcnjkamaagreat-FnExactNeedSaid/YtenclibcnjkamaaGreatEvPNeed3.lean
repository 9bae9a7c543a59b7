import Derived.Test.YtenclibcnjkamaaGreatEvPUnit2
import Derived.Test.YtenclibcnjkamaaGreatEvPHom13
set_option linter.all false
namespace Go.Ev.G
set_option maxRecDepth 8000
set_option maxHeartbeats 4000000
theorem qK(f:Nat)(p:ZB→Bool)(h:Heap)(fr:Nat)(hh:bU fr h=h)(xs:List ZB)(hx:xs.length≤140737488351232)(kc:Nat)(h1:1≤fr)(hf:∀x∈xs,evCW tab f [x.x,.ptr (0,kc) [] 0 0] h (fr+1)=some (B (p x),h)):∀(Bl:List ZB) (j:Int),xs.drop j.toNat=Bl→0≤j →
  loopW tab [0,1,7,8] bK {env:=upd (upd (upd (upd emp 8 (some (I j))) 7 (some (I (xs.length:Int)))) 1 (some (.clo f [.ptr (0,kc) [] 0 0]))) 0 (some (.d (.r (xs.map (ZB.r))))),heap:=h,fr:=fr,next:=0}=if aR p j Bl= -1 then some (.ext 0,{env:=emp,heap:=h,fr:=fr,next:=0}) else some (.ret,{env:=upd emp 4 (some (I (aR p j Bl))),heap:=h,fr:=fr,next:=0})
 |[],j,hd,hj=>by
  unfold loopW
  conv=>lhs;arg 1;unfold bK
  have:=cN hd hj
  simp only[aR,if_true]
  (repeat'(first|simp -implicitDefEqProofs (disch:=first|assumption|omega|(simp only[aI,aP,aH,i64,sa,aC,lm,la,lc,ln];omega)) only[go_sem,simprocAttr,hh,show ¬0=fr from by omega]|((first|rw[aM]|rw[aG]|rw[aD]|rw[aL]|rw[aO]|rw[aE]|rw[aF]|rw[aN]|skip);split)))
 |x::Bl,j,hd,hj=>by
  unfold loopW
  conv=>lhs;arg 1;unfold bK
  have h4:=(bL hd hj).2.1
  have ih:=qK f p h fr hh xs hx kc h1 hf Bl (j+1) (bL hd hj).2.2.1 (by omega)
  have h2:=eM (ZB.r) (bL hd hj).1
  simp only[ZB.r] at h2
  have h3:=hf x (bL hd hj).2.2.2.1
  rw[aR]
  by_cases hp:p x=true
  ·rw[if_pos hp,if_neg (by omega)]
   (repeat'(first|simp -implicitDefEqProofs (disch:=first|assumption|omega|(simp only[aI,aP,aH,i64,sa,aC,lm,la,lc,ln];omega)) only[go_sem,simprocAttr,h2,show ¬0=fr from by omega,h3,hh]|((first|rw[aM]|rw[aG]|rw[aD]|rw[aL]|rw[aO]|rw[aE]|rw[aF]|rw[aN]|skip);split)))
  ·rw[if_neg hp,←ih]
   (repeat'(first|simp -implicitDefEqProofs (disch:=first|assumption|omega|(simp only[aI,aP,aH,i64,sa,aC,lm,la,lc,ln];omega)) only[go_sem,simprocAttr,h2,show ¬0=fr from by omega,h3,hh]|((first|rw[aM]|rw[aG]|rw[aD]|rw[aL]|rw[aO]|rw[aE]|rw[aF]|rw[aN]|skip);split)))
theorem rN(f:Nat)(p:ZB→Bool)(h:Heap)(fr:Nat)(hh:bU fr h=h)(xs:List ZB)(hx:xs.length≤140737488351232)(kc:Nat)(h1:1≤fr)(hf:∀x∈xs,evCW tab f [x.x,.ptr (0,kc) [] 0 0] h (fr+1)=some (B (p x),h)):evCW tab cQ [.d (.r (xs.map (ZB.r))),.clo f [.ptr (0,kc) [] 0 0]] h fr=some (I (aR p 0 xs),h):=by
 rw[dM i9 _ _ _ rfl,dU]
 have h0:=qK f p h fr hh xs hx kc h1 hf xs 0 rfl (by omega)
 by_cases hp:aR p 0 xs= -1
 ·rw[if_pos hp] at h0
  (repeat'(first|simp -implicitDefEqProofs (disch:=first|assumption|omega|(simp only[aI,aP,aH,i64,sa,aC,lm,la,lc,ln];omega)) only[go_sem,simprocAttr,hh,h0,hp,show ¬0=fr from by omega]|((first|rw[aM]|rw[aG]|rw[aD]|rw[aL]|rw[aO]|rw[aE]|rw[aF]|rw[aN]|skip);split)))
 ·rw[if_neg hp] at h0
  (repeat'(first|simp -implicitDefEqProofs (disch:=first|assumption|omega|(simp only[aI,aP,aH,i64,sa,aC,lm,la,lc,ln];omega)) only[go_sem,simprocAttr,hh,h0,hp,show ¬0=fr from by omega]|((first|rw[aM]|rw[aG]|rw[aD]|rw[aL]|rw[aO]|rw[aE]|rw[aF]|rw[aN]|skip);split)))
set_option maxRecDepth 8000
set_option maxHeartbeats 8000000
def qN(nm:ByteArray)(u:ZB):Bool:=decide (u.fName=nm)
def bT(us:List ZB)(nm:ByteArray):Int:=aR (qN nm) 0 us
theorem Cy(t:ZB)(nm:ByteArray)(h:Heap)(fr:Nat)(h2:2≤fr)(hh:h (0,0)=some (.s 1 [[DS nm]]))(hd:bU fr h=h):evCW tab mZ [t.x,.ptr (0,0) [] 0 0] h fr=some (B (qN nm t),h):=by
 rw[dM D1 _ _ _ rfl,uK,qN]
 simp -implicitDefEqProofs (disch:=first|assumption|omega) only[go_sem,simprocAttr,hh,hd,show ¬0=fr by omega]
theorem wP(us:List ZB)(nm:ByteArray)(hl:us.length≤1048576):call tab qD [.d (.r (us.map ZB.r)),Str nm]=some (I (bT us nm)):=by
 rw[aS J8 _ rfl,yC,bT]
 have h0:=rN mZ (qN nm) (upd emp (0,0) (some (.s 1 [[DS nm]]))) 1 (by simp only[Ew,lD]) us (by omega) 0 (by omega) (fun t _=>Cy t nm _ 2 (by omega) (by simp[upd]) (by simp only[Oc,lD]))
 simp -implicitDefEqProofs (disch:=first|assumption|omega) only[go_sem,simprocAttr,h0]
theorem Fq(us:List ZB)(nm:ByteArray)(hl:us.length≤1048576):∀(Bl:List ZB) (j:Int),us.drop j.toNat=Bl→0≤j →
  loopW tab [0,1,5] gE {env:=upd (upd (upd emp 5 (some (I j))) 1 (some (Str nm))) 0 (some (.d (.r (us.map ZB.r)))),heap:=emp,fr:=0,next:=0} =
  if aR (qN nm) j Bl= -1 then some (.ext 0,{env:=emp,heap:=emp,fr:=0,next:=0}) else some (.ret,{env:=upd emp 4 (some (I (aR (qN nm) j Bl))),heap:=emp,fr:=0,next:=0})
 |[],j,hd,hj=>by
  have hh:=cN hd hj
  simp only[aR,if_true]
  unfold loopW
  conv=>lhs;arg 1;unfold gE
  simp -implicitDefEqProofs (disch:=first|assumption|omega) only[go_sem,simprocAttr,hh]
 |u::Bl,j,hd,hj=>by
  have hc:=bL hd hj
  have h2:=eM ZB.r hc.1
  have h4:=hc.2.1
  simp only[ZB.r] at h2
  have ih:=Fq us nm hl Bl (j+1) hc.2.2.1 (by omega)
  by_cases hp:u.fName=nm
  ·have hf:aR (qN nm) j (u::Bl)=j:=by rw[aR];exact if_pos (decide_eq_true hp)
   rw[hf,if_neg (by omega)]
   conv=>lhs;unfold loopW;arg 1;unfold gE
   simp -implicitDefEqProofs (disch:=first|assumption|omega) only[go_sem,simprocAttr,h2,h4,hp]
  ·have hf:aR (qN nm) j (u::Bl)=aR (qN nm) (j+1) Bl:=by rw[aR];exact if_neg (by unfold qN;simp[hp])
   rw[hf,←ih]
   conv=>lhs;unfold loopW;arg 1;unfold gE
   simp -implicitDefEqProofs (disch:=first|assumption|omega) only[go_sem,simprocAttr,h2,h4,hp]
theorem nU(us:List ZB)(nm:ByteArray)(hl:us.length≤1048576):call tab oC [.d (.r (us.map ZB.r)),Str nm]=some (I (bT us nm)):=by
 rw[aS Gp _ rfl,xG,bT]
 have h0:=Fq us nm hl us 0 rfl (by omega)
 by_cases hp:aR (qN nm) 0 us= -1
 ·rw[if_pos hp] at h0
  simp -implicitDefEqProofs (disch:=first|assumption|omega) only[go_sem,simprocAttr,h0,hp]
 ·rw[if_neg hp] at h0
  simp -implicitDefEqProofs (disch:=first|assumption|omega) only[go_sem,simprocAttr,h0,hp]
noncomputable def slotsU (u:ZB):Int:=if sT u=true then(homU u).2 else 0
theorem Ci(u:ZB):0≤slotsU u∧slotsU u≤226000:=by
 unfold slotsU
 split
 ·rename_i h
  have hr:=mR h
  have:=C0 (spU u).1 (spU u).2 (crU u) (refU u) (hY u.fParams 0 u.fRegs.toNat,u.fParams)
  rw[show(refU u).foldl (asg (spU u).1 (spU u).2 (crU u)) (hY u.fParams 0 u.fRegs.toNat,u.fParams)=homU u from rfl] at this
  have h2:=(Y1 hr).perm.length_eq
  have h3:(ordU u).length≤u.fRegs.toNat:=F6 (spU u).1 u.fParams u.fRegs.toNat 0
  have h4:=hr.regs
  have h5:=hr.pars
  simp only at this
  omega
 ·omega
theorem Jh(u:ZB)(hs:u.sm):call tab zW [u.x]=some (I (slotsU u)):=by
 rw[aS Mu _ rfl,A0,slotsU]
 have h0:=lY u hs
 by_cases hu:sT u=true
 ·have h1:=Jj u hs hu
  rw[if_pos hu]
  rw[hu] at h0
  generalize homU u=S at *
  obtain⟨S1,S2⟩:=S
  simp -implicitDefEqProofs (disch:=first|assumption|omega|(simp only[aI,aP,aH,i64,sa,aC,lm,la,lc,ln];omega)) only[go_sem,simprocAttr,h0,h1,cO]
 ·rw[if_neg hu]
  rw[Bool.not_eq_true] at hu
  rw[hu] at h0
  simp -implicitDefEqProofs (disch:=first|assumption|omega|(simp only[aI,aP,aH,i64,sa,aC,lm,la,lc,ln];omega)) only[go_sem,simprocAttr,h0]
theorem Js(u:ZB)(hs:u.sm):call tab yW [u.x]=some (I (slotsU u)):=by
 rw[aS Mq _ rfl,As,slotsU]
 have h0:=H1 u hs
 by_cases hu:sT u=true
 ·obtain⟨F,L,h1⟩:=Bx u hs (mR hu)
  rw[if_pos hu]
  rw[hu] at h0
  generalize homU u=S at *
  obtain⟨S1,S2⟩:=S
  simp -implicitDefEqProofs (disch:=first|assumption|omega|(simp only[aI,aP,aH,i64,sa,aC,lm,la,lc,ln];omega)) only[go_sem,simprocAttr,h0,h1,cO]
 ·rw[if_neg hu]
  rw[Bool.not_eq_true] at hu
  rw[hu] at h0
  simp -implicitDefEqProofs (disch:=first|assumption|omega|(simp only[aI,aP,aH,i64,sa,aC,lm,la,lc,ln];omega)) only[go_sem,simprocAttr,h0]
def mxI(a b:Int):Int:=if a<b then b else a
theorem Jy(a b:Int):call tab yZ [I a,I b]=some (I (mxI a b)):=by
 rw[aS L7 _ rfl,Bd,mxI]
 by_cases h:a<b
 ·rw[if_pos h]
  by_cases h2:b<a
  ·omega
  ·simp -implicitDefEqProofs (disch:=first|assumption|omega) only[go_sem,simprocAttr,h2]
 ·rw[if_neg h]
  by_cases h2:b<a
  ·simp -implicitDefEqProofs (disch:=first|assumption|omega) only[go_sem,simprocAttr,h2]
  ·have:a=b:=by omega
   subst this
   simp -implicitDefEqProofs (disch:=first|assumption|omega) only[go_sem,simprocAttr,h2]
def lU(V:Nat→Int)(us:List ZB)(m:Int)(t:ZA):Int:=if t.fOp=11∧0≤bT us t.fS then mxI m (V (bT us t.fS).toNat) else m
noncomputable def needV (us:List ZB):Nat→Nat→Int
 |0,_=>0
 |n+1,k=>match us[k]? with
  |none=>0
  |some u=>slotsU u+2+u.fCode.foldl (lU (needV us n) (us.take k)) 0
theorem Hs{V:Nat→Int}{us:List ZB}{m c:Int}(t:ZA)(h0:0≤m)(hm:m≤c)(hV:∀j,j<us.length→0≤V j∧V j≤c):0≤lU V us m t∧lU V us m t≤c:=by
 unfold lU mxI
 split
 ·rename_i h
  have:=mO (qN t.fS) us 0 (by omega)
  rw[←bT] at this
  have:=hV (bT us t.fS).toNat (by omega)
  split<;>omega
 ·omega
theorem Bu{V:Nat→Int}{us:List ZB}{c:Int}(hV:∀j,j<us.length→0≤V j∧V j≤c):∀(ts:List ZA) (m:Int),0≤m→m≤c→0≤ts.foldl (lU V us) m∧ts.foldl (lU V us) m≤c
 |[],m,h0,hm=>by simp only[List.foldl_nil];omega
 |t::ts,m,h0,hm=>by
  rw[List.foldl_cons]
  have:=Hs t h0 hm hV
  exact Bu hV ts _ this.1 this.2
theorem xC(us:List ZB):∀(n k:Nat),0≤needV us n k∧needV us n k≤300000*n
 |0,k=>by simp[needV]
 |n+1,k=>by
  rw[needV]
  cases h:us[k]? with
  |none=>simp only;omega
  |some u =>
   simp only
   have h1:=Ci u
   have h2:=Bu (V:=needV us n) (us:=us.take k) (c:=300000*n) (fun j _=>xC us n j) u.fCode 0 (by omega) (by omega)
   omega
theorem Qf{V W:Nat→Int}{us:List ZB}(h:∀j,j<us.length→V j=W j)(m:Int)(t:ZA):lU V us m t=lU W us m t:=by
 unfold lU
 split
 ·rename_i hh
  have:=mO (qN t.fS) us 0 (by omega)
  rw[←bT] at this
  rw[h (bT us t.fS).toNat (by omega)]
 ·rfl
theorem Dp{V W:Nat→Int}{us:List ZB}(h:∀j,j<us.length→V j=W j):∀(ts:List ZA) (m:Int),ts.foldl (lU V us) m=ts.foldl (lU W us) m
 |[],m=>rfl
 |t::ts,m=>by rw[List.foldl_cons,List.foldl_cons,Qf h,Dp h ts]
theorem Fa(us:List ZB):∀(n k m:Nat),k<m→needV (us.take m) n k=needV us n k
 |0,k,m,h=>by simp[needV]
 |n+1,k,m,h=>by
  rw[needV,needV,List.getElem?_take,if_pos h]
  cases hu:us[k]? with
  |none=>rfl
  |some u =>
   simp only
   rw[List.take_take,Nat.min_eq_left (by omega),Dp (fun j hj=>Fa us n j m (by rw[List.length_take] at hj;omega))]
set_option maxRecDepth 8000
set_option maxHeartbeats 8000000
theorem Y3(us:List ZB)(k:Nat):(us.map ZB.r).take k=(us.take k).map ZB.r:=by rw[List.map_take]
theorem Nm(us:List ZB):((us.map ZB.r).all fun el=>el.length==4)=true:=by simp[ZB.r]
theorem oH(us:List ZB)(nm:ByteArray): -1≤bT us nm∧bT us nm<us.length:=by
 have:=mO (qN nm) us 0 (by omega)
 rw[←bT] at this
 omega
theorem Af(us:List ZB)(hl:us.length≤1048576)(V:Nat→Int)(k:Int)(h0:0≤k)(hk:k<us.length)(C:List ZA)(hC:C.length≤1048576)(hV:∀j,j<k.toNat→0≤V j∧V j≤1000000000000)(hrec:∀j:Int,0≤j→j<k→call tab sY [.d (.r (us.map ZB.r)),I j]=some (I (V j.toNat))):∀(Bl:List ZA) (j m:Int),C.drop j.toNat=Bl→0≤j→0≤m→m≤1000000000000 →
  loopW tab [0,1,5,13,14,15] mX {env:=upd (upd (upd (upd (upd (upd emp 15 (some (I j))) 14 (some (I (C.length:Int)))) 13 (some (.d (.r (C.map ZA.r))))) 5 (some (I m))) 1 (some (I k))) 0 (some (.d (.r (us.map ZB.r)))),heap:=emp,fr:=0,next:=0} =
  some (.ext 0,{env:=upd (upd (upd emp 5 (some (I (Bl.foldl (lU V (us.take k.toNat)) m)))) 1 (some (I k))) 0 (some (.d (.r (us.map ZB.r)))),heap:=emp,fr:=0,next:=0})
 |[],j,m,hd,hj,hm0,hm=>by
  have hh:=cN hd hj
  unfold loopW
  conv=>lhs;arg 1;unfold mX
  simp -implicitDefEqProofs (disch:=first|assumption|omega) only[go_sem,simprocAttr,hh,List.foldl_nil]
 |t::Bl,j,m,hd,hj,hm0,hm=>by
  have hc:=bL hd hj
  have h2:=eM ZA.r hc.1
  have h4:=hc.2.1
  simp only[ZA.r] at h2
  have hlt:(us.take k.toNat).length=k.toNat:=by rw[List.length_take];omega
  have hb:=Hs (V:=V) (us:=us.take k.toNat) (c:=1000000000000) t hm0 hm (fun j hj=>hV j (by omega))
  have ih:=Af us hl V k h0 hk C hC hV hrec Bl (j+1) (lU V (us.take k.toNat) m t) hc.2.2.1 (by omega) hb.1 hb.2
  rw[List.foldl_cons,←ih]
  have g0:=wP (us.take k.toNat) t.fS (by omega)
  have hib:=oH (us.take k.toNat) t.fS
  have e1:=Y3 us k.toNat
  have hml:(us.map ZB.r).length=us.length:=by simp
  unfold lU
  clear ih hb
  generalize bT (us.take k.toNat) t.fS=ix at *
  conv=>lhs;unfold loopW;arg 1;unfold mX
  by_cases h11:t.fOp=11
  ·by_cases hi:0≤ix
   ·have g1:=hrec ix hi (by omega)
    rw[if_pos ⟨h11,hi⟩,mxI]
    generalize V ix.toNat=v at *
    simp -implicitDefEqProofs (disch:=first|assumption|omega|(simp only[aI,aP,aH,i64,sa,aC,lm,la,lc,ln];omega)) only[go_sem,simprocAttr,h2,h4,h11,g0,g1,e1,hi,hml,Nm]
   ·rw[if_neg (fun h=>hi h.2)]
    simp -implicitDefEqProofs (disch:=first|assumption|omega|(simp only[aI,aP,aH,i64,sa,aC,lm,la,lc,ln];omega)) only[go_sem,simprocAttr,h2,h4,h11,g0,e1,hi,hml,Nm]
  ·rw[if_neg (fun h=>h11 h.1)]
   simp -implicitDefEqProofs (disch:=first|assumption|omega|(simp only[aI,aP,aH,i64,sa,aC,lm,la,lc,ln];omega)) only[go_sem,simprocAttr,h2,h4,h11]
theorem Ae(us:List ZB)(hl:us.length≤1048576)(hs:∀u∈us,u.sm):∀(n:Nat) (k:Int),0≤k→k<us.length→k<n→n≤1048576→call tab sY [.d (.r (us.map ZB.r)),I k]=some (I (needV us n k.toNat))
 |0,k,h0,hk,hn,hn2=>by omega
 |n+1,k,h0,hk,hn,hn2=>by
  obtain⟨u,hu⟩:∃u,us[k.toNat]? = some u:=⟨_,List.getElem?_eq_getElem (by omega)⟩
  have hum:=List.mem_of_getElem? hu
  have hus:=hs u hum
  have g0:=Af us hl (needV us n) k h0 hk u.fCode hus.2.1 (fun j _=>by have:=xC us n j;omega) (fun j h1 h2=>Ae us hl hs n j h1 (by omega) (by omega) (by omega)) u.fCode 0 0 rfl (by omega) (by omega) (by omega)
  have g1:=Jh u hus
  have hsl:=Ci u
  have hfb:=Bu (V:=needV us n) (us:=us.take k.toNat) (c:=300000*n) (fun j _=>xC us n j) u.fCode 0 (by omega) (by omega)
  have h2:=eM ZB.r hu
  simp only[ZB.r] at h2
  rw[needV,hu]
  simp only
  generalize u.fCode.foldl (lU (needV us n) (us.take k.toNat)) 0=d at *
  generalize slotsU u=s0 at *
  rw[aS Pt _ rfl,Dn]
  simp -implicitDefEqProofs (disch:=first|assumption|omega|(simp only[aI,aP,aH,i64,sa,aC,lm,la,lc,ln];omega)) only[go_sem,simprocAttr,h2,g0,g1]
theorem N3(us:List ZB)(nm:ByteArray)(hl:us.length≤1048576)(hs:∀u∈us,u.sm):call tab Co [.d (.r (us.map ZB.r)),Str nm]=some (I (if bT us nm<0 then 0 else needV us us.length (bT us nm).toNat)):=by
 have g0:=wP us nm hl
 have hib:=oH us nm
 rw[aS Oj _ rfl,Db]
 by_cases h:bT us nm<0
 ·rw[if_pos h]
  generalize bT us nm=ix at *
  simp -implicitDefEqProofs (disch:=first|assumption|omega|(simp only[aI,aP,aH,i64,sa,aC,lm,la,lc,ln];omega)) only[go_sem,simprocAttr,g0,h]
 ·rw[if_neg h]
  have g1:=Ae us hl hs us.length (bT us nm) (by omega) (by omega) (by omega) hl
  generalize bT us nm=ix at *
  simp -implicitDefEqProofs (disch:=first|assumption|omega|(simp only[aI,aP,aH,i64,sa,aC,lm,la,lc,ln];omega)) only[go_sem,simprocAttr,g0,g1,h]
theorem Br(us:List ZB)(hl:us.length≤1048576)(V:Nat→Int)(k:Int)(h0:0≤k)(hk:k<us.length)(C:List ZA)(hC:C.length≤1048576)(hV:∀j,j<k.toNat→0≤V j∧V j≤1000000000000)(hrec:∀nm:ByteArray,call tab sP [.d (.r ((us.take k.toNat).map ZB.r)),Str nm]=some (I (if bT (us.take k.toNat) nm<0 then 0 else V (bT (us.take k.toNat) nm).toNat))):∀(Bl:List ZA) (j m:Int),C.drop j.toNat=Bl→0≤j→0≤m→m≤1000000000000 →
  loopW tab [0,5,6,7,8] m4 {env:=upd (upd (upd (upd (upd emp 8 (some (I j))) 7 (some (.d (.r (C.map ZA.r))))) 6 (some (I m))) 5 (some (I k))) 0 (some (.d (.r (us.map ZB.r)))),heap:=emp,fr:=0,next:=0} =
  some (.ext 0,{env:=upd (upd (upd emp 6 (some (I (Bl.foldl (lU V (us.take k.toNat)) m)))) 5 (some (I k))) 0 (some (.d (.r (us.map ZB.r)))),heap:=emp,fr:=0,next:=0})
 |[],j,m,hd,hj,hm0,hm=>by
  have hh:=cN hd hj
  unfold loopW
  conv=>lhs;arg 1;unfold m4
  simp -implicitDefEqProofs (disch:=first|assumption|omega) only[go_sem,simprocAttr,hh,List.foldl_nil]
 |t::Bl,j,m,hd,hj,hm0,hm=>by
  have hc:=bL hd hj
  have h2:=eM ZA.r hc.1
  have h4:=hc.2.1
  simp only[ZA.r] at h2
  have hlt:(us.take k.toNat).length=k.toNat:=by rw[List.length_take];omega
  have hb:=Hs (V:=V) (us:=us.take k.toNat) (c:=1000000000000) t hm0 hm (fun j hj=>hV j (by omega))
  have ih:=Br us hl V k h0 hk C hC hV hrec Bl (j+1) (lU V (us.take k.toNat) m t) hc.2.2.1 (by omega) hb.1 hb.2
  rw[List.foldl_cons,←ih]
  have g0:=nU (us.take k.toNat) t.fS (by omega)
  have hib:=oH (us.take k.toNat) t.fS
  have e1:=Y3 us k.toNat
  have hml:(us.map ZB.r).length=us.length:=by simp
  have g1:=hrec t.fS
  unfold lU
  clear ih hb hrec
  generalize bT (us.take k.toNat) t.fS=ix at *
  conv=>lhs;unfold loopW;arg 1;unfold m4
  by_cases h11:t.fOp=11
  ·by_cases hi:0≤ix
   ·rw[if_neg (by omega)] at g1
    rw[if_pos ⟨h11,hi⟩]
    have g2:=Jy m (V ix.toNat)
    generalize V ix.toNat=v at *
    simp -implicitDefEqProofs (disch:=first|assumption|omega|(simp only[aI,aP,aH,i64,sa,aC,lm,la,lc,ln];omega)) only[go_sem,simprocAttr,h2,h4,h11,g0,g1,g2,e1,hi,hml,Nm]
   ·rw[if_neg (fun h=>hi h.2)]
    simp -implicitDefEqProofs (disch:=first|assumption|omega|(simp only[aI,aP,aH,i64,sa,aC,lm,la,lc,ln];omega)) only[go_sem,simprocAttr,h2,h4,h11,g0,e1,hi,hml,Nm]
  ·rw[if_neg (fun h=>h11 h.1)]
   simp -implicitDefEqProofs (disch:=first|assumption|omega|(simp only[aI,aP,aH,i64,sa,aC,lm,la,lc,ln];omega)) only[go_sem,simprocAttr,h2,h4,h11]
theorem N0:∀(n:Nat) (us:List ZB) (nm:ByteArray),us.length≤n→n≤1048576→(∀u∈us,u.sm)→call tab sP [.d (.r (us.map ZB.r)),Str nm]=some (I (if bT us nm<0 then 0 else needV us n (bT us nm).toNat)):=by
 intro n
 induction n with
 |zero =>
  intro us nm hl hn hs
  have g0:=nU us nm (by omega)
  have hib:=oH us nm
  rw[aS De _ rfl,u6]
  have h:bT us nm<0:=by omega
  rw[if_pos h]
  generalize bT us nm=ix at *
  simp -implicitDefEqProofs (disch:=first|assumption|omega|(simp only[aI,aP,aH,i64,sa,aC,lm,la,lc,ln];omega)) only[go_sem,simprocAttr,g0,h]
 |succ n ihn =>
  intro us nm hl hn hs
  have g0:=nU us nm (by omega)
  have hib:=oH us nm
  rw[aS De _ rfl,u6]
  by_cases h:bT us nm<0
  ·rw[if_pos h]
   generalize bT us nm=ix at *
   simp -implicitDefEqProofs (disch:=first|assumption|omega|(simp only[aI,aP,aH,i64,sa,aC,lm,la,lc,ln];omega)) only[go_sem,simprocAttr,g0,h]
  ·rw[if_neg h]
   obtain⟨u,hu⟩:∃u,us[(bT us nm).toNat]? = some u:=⟨_,List.getElem?_eq_getElem (by omega)⟩
   have hum:=List.mem_of_getElem? hu
   have hus:=hs u hum
   have hlt:(us.take (bT us nm).toNat).length=(bT us nm).toNat:=by rw[List.length_take];omega
   have g2:=Br us (by omega) (needV us n) (bT us nm) (by omega) (by omega) u.fCode hus.2.1 (fun j _=>by have:=xC us n j;omega) (fun nm2=>by
    have hb2:=oH (us.take (bT us nm).toNat) nm2
    rw[ihn (us.take (bT us nm).toNat) nm2 (by omega) (by omega) (fun u hu=>hs u (List.mem_of_mem_take hu))]
    by_cases hz:bT (us.take (bT us nm).toNat) nm2<0
    ·rw[if_pos hz,if_pos hz]
    ·rw[if_neg hz,if_neg hz,Fa us n _ _ (by omega)]) u.fCode 0 0 rfl (by omega) (by omega) (by omega)
   have g1:=Js u hus
   have hsl:=Ci u
   have hfb:=Bu (V:=needV us n) (us:=us.take (bT us nm).toNat) (c:=300000*n) (fun j _=>xC us n j) u.fCode 0 (by omega) (by omega)
   have h2:=eM ZB.r hu
   simp only[ZB.r] at h2
   rw[needV,hu]
   simp only
   generalize u.fCode.foldl (lU (needV us n) (us.take (bT us nm).toNat)) 0=d at *
   generalize slotsU u=s0 at *
   generalize bT us nm=ix at *
   simp -implicitDefEqProofs (disch:=first|assumption|omega|(simp only[aI,aP,aH,i64,sa,aC,lm,la,lc,ln];omega)) only[go_sem,simprocAttr,h2,g0,g1,g2,h]
set_option maxRecDepth 8000
set_option maxHeartbeats 16000000
theorem D5(us:List ZB)(hU:us.length≤140737488351232∧∀y∈us,y.ok)(nm:ByteArray)(hnm:nm.size≤140737488351232):call tab mU [.d (.r (us.map ZB.r)),Str nm]=some (B true):=by
 have g0:=Dv us 1048576 (by omega) hU
 rw[aS zX _ rfl,pO]
 by_cases hn:(1048576:Int)<nm.size
 ·simp -implicitDefEqProofs (disch:=first|assumption|omega) only[go_sem,simprocAttr,hn]
 by_cases h0:(1048576:Int)<ZB.szs us
 ·rw[if_pos h0] at g0
  simp -implicitDefEqProofs (disch:=first|assumption|omega) only[go_sem,simprocAttr,g0,hn]
 ·rw[if_neg h0] at g0
  obtain⟨r1,r2⟩:=ZB.sms_of (by omega:ZB.szs us≤1048576)
  have g1:=Dr us ⟨r1,r2⟩
  have g2:=N0 us.length us nm (Nat.le_refl _) r1 r2
  have g3:=N3 us nm r1 r2
  have g4:=D9 us ⟨r1,r2⟩
  have hz:¬1048576-ZB.szs us<0:=by omega
  generalize 1048576-ZB.szs us=z at *
  generalize (if bT us nm<0 then 0 else needV us us.length (bT us nm).toNat)=v at *
  simp -implicitDefEqProofs (disch:=first|assumption|omega) only[go_sem,simprocAttr,g0,g1,g2,g3,g4,hz,hn,ZB.fzs,ZB.fzr,ZB.noR]
theorem pure_FnExactNeed(xs:List X)(h:Zl [(false,[.l 56 [.s,.i .i64,.i .i64,.l 80 [.i .i64,.i .i64,.i .i64,.i .i64,.i .i64,.s,.l 8 [.i .i64]]]]),(false,[.s])] xs):call tab mU xs=some (.d (.v (.bool true))):=by
 simp only[Zl,zVM] at h
 obtain⟨x0,r0,rfl,⟨d0,rfl,hf0⟩,x1,r1,rfl,⟨d1,rfl,hf1⟩,rfl⟩:=h
 rw[fit] at hf0
 obtain⟨els0,rfl,hb0,hc0⟩:=hf0
 obtain⟨y0,rfl,hy0⟩:=Et (fun c hc=>ZB.fit hc) hc0
 rw[lm] at hb0
 rw[fit] at hf1
 obtain⟨y1,rfl,hy1⟩:=hf1
 exact D5 y0 ⟨by omega,hy0⟩ y1 hy1
end Go.Ev.G
