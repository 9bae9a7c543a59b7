import Derived.Test.YtenclibcnjkamaaGreatEvPUnit2
import Derived.Test.YtenclibcnjkamaaGreatEvPHom13
set_option linter.all false
namespace Go.Ev.G
set_option maxRecDepth 8000
set_option maxHeartbeats 4000000
theorem uC(f:Nat)(p:ZD→Bool)(h:Heap)(fr:Nat)(hh:cC fr h=h)(xs:List ZD)(hx:xs.length≤140737488351232)(kc:Nat)(h1:1≤fr)(hf:∀x∈xs,evCW tab f [x.x,.ptr (0,kc) [] 0 0] h (fr+1)=some (B (p x),h)):∀(Bl:List ZD) (j:Int),xs.drop j.toNat=Bl→0≤j →
  loopW tab [0,1,7,8] cD {env:=upd (upd (upd (upd emp 8 (some (I j))) 7 (some (I (xs.length:Int)))) 1 (some (.clo f [.ptr (0,kc) [] 0 0]))) 0 (some (.d (.r (xs.map (ZD.r))))),heap:=h,fr:=fr,next:=0}=if aZ p j Bl= -1 then some (.ext 0,{env:=emp,heap:=h,fr:=fr,next:=0}) else some (.ret,{env:=upd emp 4 (some (I (aZ p j Bl))),heap:=h,fr:=fr,next:=0})
 |[],j,hd,hj=>by
  unfold loopW
  conv=>lhs;arg 1;unfold cD
  have:=cJ hd hj
  simp only[aZ,if_true]
  (repeat'(first|simp -implicitDefEqProofs (disch:=first|assumption|omega|(simp only[aE,aL,aF,i64,sa,aB,lm,la,lc,ln];omega)) only[go_sem,simprocAttr,hh,show ¬0=fr from by omega]|((first|rw[aP]|rw[aJ]|rw[aI]|rw[aQ]|rw[aO]|rw[aK]|rw[aH]|rw[aN]|skip);split)))
 |x::Bl,j,hd,hj=>by
  unfold loopW
  conv=>lhs;arg 1;unfold cD
  have h4:=(bT hd hj).2.1
  have ih:=uC f p h fr hh xs hx kc h1 hf Bl (j+1) (bT hd hj).2.2.1 (by omega)
  have h2:=d6 (ZD.r) (bT hd hj).1
  simp only[ZD.r] at h2
  have h3:=hf x (bT hd hj).2.2.2.1
  rw[aZ]
  by_cases hp:p x=true
  ·rw[if_pos hp,if_neg (by omega)]
   (repeat'(first|simp -implicitDefEqProofs (disch:=first|assumption|omega|(simp only[aE,aL,aF,i64,sa,aB,lm,la,lc,ln];omega)) only[go_sem,simprocAttr,h2,show ¬0=fr from by omega,h3,hh]|((first|rw[aP]|rw[aJ]|rw[aI]|rw[aQ]|rw[aO]|rw[aK]|rw[aH]|rw[aN]|skip);split)))
  ·rw[if_neg hp,←ih]
   (repeat'(first|simp -implicitDefEqProofs (disch:=first|assumption|omega|(simp only[aE,aL,aF,i64,sa,aB,lm,la,lc,ln];omega)) only[go_sem,simprocAttr,h2,show ¬0=fr from by omega,h3,hh]|((first|rw[aP]|rw[aJ]|rw[aI]|rw[aQ]|rw[aO]|rw[aK]|rw[aH]|rw[aN]|skip);split)))
theorem wM(f:Nat)(p:ZD→Bool)(h:Heap)(fr:Nat)(hh:cC fr h=h)(xs:List ZD)(hx:xs.length≤140737488351232)(kc:Nat)(h1:1≤fr)(hf:∀x∈xs,evCW tab f [x.x,.ptr (0,kc) [] 0 0] h (fr+1)=some (B (p x),h)):evCW tab dG [.d (.r (xs.map (ZD.r))),.clo f [.ptr (0,kc) [] 0 0]] h fr=some (I (aZ p 0 xs),h):=by
 rw[aR lU _ _ _ rfl,eG]
 have h0:=uC f p h fr hh xs hx kc h1 hf xs 0 rfl (by omega)
 by_cases hp:aZ p 0 xs= -1
 ·rw[if_pos hp] at h0
  (repeat'(first|simp -implicitDefEqProofs (disch:=first|assumption|omega|(simp only[aE,aL,aF,i64,sa,aB,lm,la,lc,ln];omega)) only[go_sem,simprocAttr,hh,h0,hp,show ¬0=fr from by omega]|((first|rw[aP]|rw[aJ]|rw[aI]|rw[aQ]|rw[aO]|rw[aK]|rw[aH]|rw[aN]|skip);split)))
 ·rw[if_neg hp] at h0
  (repeat'(first|simp -implicitDefEqProofs (disch:=first|assumption|omega|(simp only[aE,aL,aF,i64,sa,aB,lm,la,lc,ln];omega)) only[go_sem,simprocAttr,hh,h0,hp,show ¬0=fr from by omega]|((first|rw[aP]|rw[aJ]|rw[aI]|rw[aQ]|rw[aO]|rw[aK]|rw[aH]|rw[aN]|skip);split)))
set_option maxRecDepth 8000
set_option maxHeartbeats 8000000
def uM(nm:ByteArray)(u:ZD):Bool:=decide (u.fName=nm)
def bY(us:List ZD)(nm:ByteArray):Int:=aZ (uM nm) 0 us
theorem Jn(t:ZD)(nm:ByteArray)(h:Heap)(fr:Nat)(h2:2≤fr)(hh:h (0,0)=some (.s 1 [[DS nm]]))(hd:cC fr h=h):evCW tab qA [t.x,.ptr (0,0) [] 0 0] h fr=some (B (uM nm t),h):=by
 rw[aR Lf _ _ _ rfl,Ax,uM]
 simp -implicitDefEqProofs (disch:=first|assumption|omega) only[go_sem,simprocAttr,hh,hd,show ¬0=fr by omega]
theorem A7(us:List ZD)(nm:ByteArray)(hl:us.length≤1048576):call tab uD [.d (.r (us.map ZD.r)),Str nm]=some (I (bY us nm)):=by
 rw[aT Tp _ rfl,Et,bY]
 have h0:=wM qA (uM nm) (upd emp (0,0) (some (.s 1 [[DS nm]]))) 1 (by simp only[M5,i7]) us (by omega) 0 (by omega) (fun t _=>Jn t nm _ 2 (by omega) (by simp[upd]) (by simp only[Xd,i7]))
 simp -implicitDefEqProofs (disch:=first|assumption|omega) only[go_sem,simprocAttr,h0]
theorem Ow(us:List ZD)(nm:ByteArray)(hl:us.length≤1048576):∀(Bl:List ZD) (j:Int),us.drop j.toNat=Bl→0≤j →
  loopW tab [0,1,5] i6 {env:=upd (upd (upd emp 5 (some (I j))) 1 (some (Str nm))) 0 (some (.d (.r (us.map ZD.r)))),heap:=emp,fr:=0,next:=0} =
  if aZ (uM nm) j Bl= -1 then some (.ext 0,{env:=emp,heap:=emp,fr:=0,next:=0}) else some (.ret,{env:=upd emp 4 (some (I (aZ (uM nm) j Bl))),heap:=emp,fr:=0,next:=0})
 |[],j,hd,hj=>by
  have hh:=cJ hd hj
  simp only[aZ,if_true]
  unfold loopW
  conv=>lhs;arg 1;unfold i6
  simp -implicitDefEqProofs (disch:=first|assumption|omega) only[go_sem,simprocAttr,hh]
 |u::Bl,j,hd,hj=>by
  have hc:=bT hd hj
  have h2:=d6 ZD.r hc.1
  have h4:=hc.2.1
  simp only[ZD.r] at h2
  have ih:=Ow us nm hl Bl (j+1) hc.2.2.1 (by omega)
  by_cases hp:u.fName=nm
  ·have hf:aZ (uM nm) j (u::Bl)=j:=by rw[aZ];exact if_pos (decide_eq_true hp)
   rw[hf,if_neg (by omega)]
   conv=>lhs;unfold loopW;arg 1;unfold i6
   simp -implicitDefEqProofs (disch:=first|assumption|omega) only[go_sem,simprocAttr,h2,h4,hp]
  ·have hf:aZ (uM nm) j (u::Bl)=aZ (uM nm) (j+1) Bl:=by rw[aZ];exact if_neg (by unfold uM;simp[hp])
   rw[hf,←ih]
   conv=>lhs;unfold loopW;arg 1;unfold i6
   simp -implicitDefEqProofs (disch:=first|assumption|omega) only[go_sem,simprocAttr,h2,h4,hp]
theorem rG(us:List ZD)(nm:ByteArray)(hl:us.length≤1048576):call tab rU [.d (.r (us.map ZD.r)),Str nm]=some (I (bY us nm)):=by
 rw[aT Oy _ rfl,C5,bY]
 have h0:=Ow us nm hl us 0 rfl (by omega)
 by_cases hp:aZ (uM nm) 0 us= -1
 ·rw[if_pos hp] at h0
  simp -implicitDefEqProofs (disch:=first|assumption|omega) only[go_sem,simprocAttr,h0,hp]
 ·rw[if_neg hp] at h0
  simp -implicitDefEqProofs (disch:=first|assumption|omega) only[go_sem,simprocAttr,h0,hp]
noncomputable def slotsU (u:ZD):Int:=if qI u=true then(homU u).2 else 0
theorem I4(u:ZD):0≤slotsU u∧slotsU u≤226000:=by
 unfold slotsU
 split
 ·rename_i h
  have hr:=lM h
  have:=Jz (spU u).1 (spU u).2 (crU u) (refU u) (iR u.fParams 0 u.fRegs.toNat,u.fParams)
  rw[show(refU u).foldl (asg (spU u).1 (spU u).2 (crU u)) (iR u.fParams 0 u.fRegs.toNat,u.fParams)=homU u from rfl] at this
  have h2:=(Mw hr).perm.length_eq
  have h3:(ordU u).length≤u.fRegs.toNat:=Hp (spU u).1 u.fParams u.fRegs.toNat 0
  have h4:=hr.regs
  have h5:=hr.pars
  simp only at this
  omega
 ·omega
theorem Se(u:ZD)(hs:u.sm):call tab Gc [u.x]=some (I (slotsU u)):=by
 rw[aT V9 _ rfl,Im,slotsU]
 have h0:=lY u hs
 by_cases hu:qI u=true
 ·have h1:=Fe u hs hu
  rw[if_pos hu]
  rw[hu] at h0
  generalize homU u=S at *
  obtain⟨S1,S2⟩:=S
  simp -implicitDefEqProofs (disch:=first|assumption|omega|(simp only[aE,aL,aF,i64,sa,aB,lm,la,lc,ln];omega)) only[go_sem,simprocAttr,h0,h1,cM]
 ·rw[if_neg hu]
  rw[Bool.not_eq_true] at hu
  rw[hu] at h0
  simp -implicitDefEqProofs (disch:=first|assumption|omega|(simp only[aE,aL,aF,i64,sa,aB,lm,la,lc,ln];omega)) only[go_sem,simprocAttr,h0]
theorem S7(u:ZD)(hs:u.sm):call tab Gv [u.x]=some (I (slotsU u)):=by
 rw[aT Wu _ rfl,Ir,slotsU]
 have h0:=C1 u hs
 by_cases hu:qI u=true
 ·obtain⟨F,L,h1⟩:=x4 u hs (lM hu)
  rw[if_pos hu]
  rw[hu] at h0
  generalize homU u=S at *
  obtain⟨S1,S2⟩:=S
  simp -implicitDefEqProofs (disch:=first|assumption|omega|(simp only[aE,aL,aF,i64,sa,aB,lm,la,lc,ln];omega)) only[go_sem,simprocAttr,h0,h1,cM]
 ·rw[if_neg hu]
  rw[Bool.not_eq_true] at hu
  rw[hu] at h0
  simp -implicitDefEqProofs (disch:=first|assumption|omega|(simp only[aE,aL,aF,i64,sa,aB,lm,la,lc,ln];omega)) only[go_sem,simprocAttr,h0]
def mxI(a b:Int):Int:=if a<b then b else a
theorem Tv(a b:Int):call tab F7 [I a,I b]=some (I (mxI a b)):=by
 rw[aT Vr _ rfl,It,mxI]
 by_cases h:a<b
 ·rw[if_pos h]
  by_cases h2:b<a
  ·omega
  ·simp -implicitDefEqProofs (disch:=first|assumption|omega) only[go_sem,simprocAttr,h2]
 ·rw[if_neg h]
  by_cases h2:b<a
  ·simp -implicitDefEqProofs (disch:=first|assumption|omega) only[go_sem,simprocAttr,h2]
  ·have:a=b:=by omega
   subst this
   simp -implicitDefEqProofs (disch:=first|assumption|omega) only[go_sem,simprocAttr,h2]
def o8(V:Nat→Int)(us:List ZD)(m:Int)(t:ZC):Int:=if t.fOp=11∧0≤bY us t.fS then mxI m (V (bY us t.fS).toNat) else m
noncomputable def needV (us:List ZD):Nat→Nat→Int
 |0,_=>0
 |n+1,k=>match us[k]? with
  |none=>0
  |some u=>slotsU u+2+u.fCode.foldl (o8 (needV us n) (us.take k)) 0
theorem Q3{V:Nat→Int}{us:List ZD}{m c:Int}(t:ZC)(h0:0≤m)(hm:m≤c)(hV:∀j,j<us.length→0≤V j∧V j≤c):0≤o8 V us m t∧o8 V us m t≤c:=by
 unfold o8 mxI
 split
 ·rename_i h
  have:=pH (uM t.fS) us 0 (by omega)
  rw[←bY] at this
  have:=hV (bY us t.fS).toNat (by omega)
  split<;>omega
 ·omega
theorem G8{V:Nat→Int}{us:List ZD}{c:Int}(hV:∀j,j<us.length→0≤V j∧V j≤c):∀(ts:List ZC) (m:Int),0≤m→m≤c→0≤ts.foldl (o8 V us) m∧ts.foldl (o8 V us) m≤c
 |[],m,h0,hm=>by simp only[List.foldl_nil];omega
 |t::ts,m,h0,hm=>by
  rw[List.foldl_cons]
  have:=Q3 t h0 hm hV
  exact G8 hV ts _ this.1 this.2
theorem B9(us:List ZD):∀(n k:Nat),0≤needV us n k∧needV us n k≤300000*n
 |0,k=>by simp[needV]
 |n+1,k=>by
  rw[needV]
  cases h:us[k]? with
  |none=>simp only;omega
  |some u =>
   simp only
   have h1:=I4 u
   have h2:=G8 (V:=needV us n) (us:=us.take k) (c:=300000*n) (fun j _=>B9 us n j) u.fCode 0 (by omega) (by omega)
   omega
theorem zzZ{V W:Nat→Int}{us:List ZD}(h:∀j,j<us.length→V j=W j)(m:Int)(t:ZC):o8 V us m t=o8 W us m t:=by
 unfold o8
 split
 ·rename_i hh
  have:=pH (uM t.fS) us 0 (by omega)
  rw[←bY] at this
  rw[h (bY us t.fS).toNat (by omega)]
 ·rfl
theorem Kt{V W:Nat→Int}{us:List ZD}(h:∀j,j<us.length→V j=W j):∀(ts:List ZC) (m:Int),ts.foldl (o8 V us) m=ts.foldl (o8 W us) m
 |[],m=>rfl
 |t::ts,m=>by rw[List.foldl_cons,List.foldl_cons,zzZ h,Kt h ts]
theorem Of(us:List ZD):∀(n k m:Nat),k<m→needV (us.take m) n k=needV us n k
 |0,k,m,h=>by simp[needV]
 |n+1,k,m,h=>by
  rw[needV,needV,List.getElem?_take,if_pos h]
  cases hu:us[k]? with
  |none=>rfl
  |some u =>
   simp only
   rw[List.take_take,Nat.min_eq_left (by omega),Kt (fun j hj=>Of us n j m (by rw[List.length_take] at hj;omega))]
set_option maxRecDepth 8000
set_option maxHeartbeats 8000000
theorem zv7(us:List ZD)(k:Nat):(us.map ZD.r).take k=(us.take k).map ZD.r:=by rw[List.map_take]
theorem Vi(us:List ZD):((us.map ZD.r).all fun el=>el.length==4)=true:=by simp[ZD.r]
theorem sG(us:List ZD)(nm:ByteArray): -1≤bY us nm∧bY us nm<us.length:=by
 have:=pH (uM nm) us 0 (by omega)
 rw[←bY] at this
 omega
theorem Hi(us:List ZD)(hl:us.length≤1048576)(V:Nat→Int)(k:Int)(h0:0≤k)(hk:k<us.length)(C:List ZC)(hC:C.length≤1048576)(hV:∀j,j<k.toNat→0≤V j∧V j≤1000000000000)(hrec:∀j:Int,0≤j→j<k→call tab xN [.d (.r (us.map ZD.r)),I j]=some (I (V j.toNat))):∀(Bl:List ZC) (j m:Int),C.drop j.toNat=Bl→0≤j→0≤m→m≤1000000000000 →
  loopW tab [0,1,5,13,14,15] pU {env:=upd (upd (upd (upd (upd (upd emp 15 (some (I j))) 14 (some (I (C.length:Int)))) 13 (some (.d (.r (C.map ZC.r))))) 5 (some (I m))) 1 (some (I k))) 0 (some (.d (.r (us.map ZD.r)))),heap:=emp,fr:=0,next:=0} =
  some (.ext 0,{env:=upd (upd (upd emp 5 (some (I (Bl.foldl (o8 V (us.take k.toNat)) m)))) 1 (some (I k))) 0 (some (.d (.r (us.map ZD.r)))),heap:=emp,fr:=0,next:=0})
 |[],j,m,hd,hj,hm0,hm=>by
  have hh:=cJ hd hj
  unfold loopW
  conv=>lhs;arg 1;unfold pU
  simp -implicitDefEqProofs (disch:=first|assumption|omega) only[go_sem,simprocAttr,hh,List.foldl_nil]
 |t::Bl,j,m,hd,hj,hm0,hm=>by
  have hc:=bT hd hj
  have h2:=d6 ZC.r hc.1
  have h4:=hc.2.1
  simp only[ZC.r] at h2
  have hlt:(us.take k.toNat).length=k.toNat:=by rw[List.length_take];omega
  have hb:=Q3 (V:=V) (us:=us.take k.toNat) (c:=1000000000000) t hm0 hm (fun j hj=>hV j (by omega))
  have ih:=Hi us hl V k h0 hk C hC hV hrec Bl (j+1) (o8 V (us.take k.toNat) m t) hc.2.2.1 (by omega) hb.1 hb.2
  rw[List.foldl_cons,←ih]
  have g0:=A7 (us.take k.toNat) t.fS (by omega)
  have hib:=sG (us.take k.toNat) t.fS
  have e1:=zv7 us k.toNat
  have hml:(us.map ZD.r).length=us.length:=by simp
  unfold o8
  clear ih hb
  generalize bY (us.take k.toNat) t.fS=ix at *
  conv=>lhs;unfold loopW;arg 1;unfold pU
  by_cases h11:t.fOp=11
  ·by_cases hi:0≤ix
   ·have g1:=hrec ix hi (by omega)
    rw[if_pos ⟨h11,hi⟩,mxI]
    generalize V ix.toNat=v at *
    simp -implicitDefEqProofs (disch:=first|assumption|omega|(simp only[aE,aL,aF,i64,sa,aB,lm,la,lc,ln];omega)) only[go_sem,simprocAttr,h2,h4,h11,g0,g1,e1,hi,hml,Vi]
   ·rw[if_neg (fun h=>hi h.2)]
    simp -implicitDefEqProofs (disch:=first|assumption|omega|(simp only[aE,aL,aF,i64,sa,aB,lm,la,lc,ln];omega)) only[go_sem,simprocAttr,h2,h4,h11,g0,e1,hi,hml,Vi]
  ·rw[if_neg (fun h=>h11 h.1)]
   simp -implicitDefEqProofs (disch:=first|assumption|omega|(simp only[aE,aL,aF,i64,sa,aB,lm,la,lc,ln];omega)) only[go_sem,simprocAttr,h2,h4,h11]
theorem I2(us:List ZD)(hl:us.length≤1048576)(hs:∀u∈us,u.sm):∀(n:Nat) (k:Int),0≤k→k<us.length→k<n→n≤1048576→call tab xN [.d (.r (us.map ZD.r)),I k]=some (I (needV us n k.toNat))
 |0,k,h0,hk,hn,hn2=>by omega
 |n+1,k,h0,hk,hn,hn2=>by
  obtain⟨u,hu⟩:∃u,us[k.toNat]? = some u:=⟨_,List.getElem?_eq_getElem (by omega)⟩
  have hum:=List.mem_of_getElem? hu
  have hus:=hs u hum
  have g0:=Hi us hl (needV us n) k h0 hk u.fCode hus.2.1 (fun j _=>by have:=B9 us n j;omega) (fun j h1 h2=>I2 us hl hs n j h1 (by omega) (by omega) (by omega)) u.fCode 0 0 rfl (by omega) (by omega) (by omega)
  have g1:=Se u hus
  have hsl:=I4 u
  have hfb:=G8 (V:=needV us n) (us:=us.take k.toNat) (c:=300000*n) (fun j _=>B9 us n j) u.fCode 0 (by omega) (by omega)
  have h2:=d6 ZD.r hu
  simp only[ZD.r] at h2
  rw[needV,hu]
  simp only
  generalize u.fCode.foldl (o8 (needV us n) (us.take k.toNat)) 0=d at *
  generalize slotsU u=s0 at *
  rw[aT Yv _ rfl,K6]
  simp -implicitDefEqProofs (disch:=first|assumption|omega|(simp only[aE,aL,aF,i64,sa,aB,lm,la,lc,ln];omega)) only[go_sem,simprocAttr,h2,g0,g1]
theorem Is(us:List ZD)(nm:ByteArray)(hl:us.length≤1048576)(hs:∀u∈us,u.sm):call tab Ee [.d (.r (us.map ZD.r)),Str nm]=some (I (if bY us nm<0 then 0 else needV us us.length (bY us nm).toNat)):=by
 have g0:=A7 us nm hl
 have hib:=sG us nm
 rw[aT Yl _ rfl,Kx]
 by_cases h:bY us nm<0
 ·rw[if_pos h]
  generalize bY us nm=ix at *
  simp -implicitDefEqProofs (disch:=first|assumption|omega|(simp only[aE,aL,aF,i64,sa,aB,lm,la,lc,ln];omega)) only[go_sem,simprocAttr,g0,h]
 ·rw[if_neg h]
  have g1:=I2 us hl hs us.length (bY us nm) (by omega) (by omega) (by omega) hl
  generalize bY us nm=ix at *
  simp -implicitDefEqProofs (disch:=first|assumption|omega|(simp only[aE,aL,aF,i64,sa,aB,lm,la,lc,ln];omega)) only[go_sem,simprocAttr,g0,g1,h]
theorem H4(us:List ZD)(hl:us.length≤1048576)(V:Nat→Int)(k:Int)(h0:0≤k)(hk:k<us.length)(C:List ZC)(hC:C.length≤1048576)(hV:∀j,j<k.toNat→0≤V j∧V j≤1000000000000)(hrec:∀nm:ByteArray,call tab sD [.d (.r ((us.take k.toNat).map ZD.r)),Str nm]=some (I (if bY (us.take k.toNat) nm<0 then 0 else V (bY (us.take k.toNat) nm).toNat))):∀(Bl:List ZC) (j m:Int),C.drop j.toNat=Bl→0≤j→0≤m→m≤1000000000000 →
  loopW tab [0,5,6,7,8] pX {env:=upd (upd (upd (upd (upd emp 8 (some (I j))) 7 (some (.d (.r (C.map ZC.r))))) 6 (some (I m))) 5 (some (I k))) 0 (some (.d (.r (us.map ZD.r)))),heap:=emp,fr:=0,next:=0} =
  some (.ext 0,{env:=upd (upd (upd emp 6 (some (I (Bl.foldl (o8 V (us.take k.toNat)) m)))) 5 (some (I k))) 0 (some (.d (.r (us.map ZD.r)))),heap:=emp,fr:=0,next:=0})
 |[],j,m,hd,hj,hm0,hm=>by
  have hh:=cJ hd hj
  unfold loopW
  conv=>lhs;arg 1;unfold pX
  simp -implicitDefEqProofs (disch:=first|assumption|omega) only[go_sem,simprocAttr,hh,List.foldl_nil]
 |t::Bl,j,m,hd,hj,hm0,hm=>by
  have hc:=bT hd hj
  have h2:=d6 ZC.r hc.1
  have h4:=hc.2.1
  simp only[ZC.r] at h2
  have hlt:(us.take k.toNat).length=k.toNat:=by rw[List.length_take];omega
  have hb:=Q3 (V:=V) (us:=us.take k.toNat) (c:=1000000000000) t hm0 hm (fun j hj=>hV j (by omega))
  have ih:=H4 us hl V k h0 hk C hC hV hrec Bl (j+1) (o8 V (us.take k.toNat) m t) hc.2.2.1 (by omega) hb.1 hb.2
  rw[List.foldl_cons,←ih]
  have g0:=rG (us.take k.toNat) t.fS (by omega)
  have hib:=sG (us.take k.toNat) t.fS
  have e1:=zv7 us k.toNat
  have hml:(us.map ZD.r).length=us.length:=by simp
  have g1:=hrec t.fS
  unfold o8
  clear ih hb hrec
  generalize bY (us.take k.toNat) t.fS=ix at *
  conv=>lhs;unfold loopW;arg 1;unfold pX
  by_cases h11:t.fOp=11
  ·by_cases hi:0≤ix
   ·rw[if_neg (by omega)] at g1
    rw[if_pos ⟨h11,hi⟩]
    have g2:=Tv m (V ix.toNat)
    generalize V ix.toNat=v at *
    simp -implicitDefEqProofs (disch:=first|assumption|omega|(simp only[aE,aL,aF,i64,sa,aB,lm,la,lc,ln];omega)) only[go_sem,simprocAttr,h2,h4,h11,g0,g1,g2,e1,hi,hml,Vi]
   ·rw[if_neg (fun h=>hi h.2)]
    simp -implicitDefEqProofs (disch:=first|assumption|omega|(simp only[aE,aL,aF,i64,sa,aB,lm,la,lc,ln];omega)) only[go_sem,simprocAttr,h2,h4,h11,g0,e1,hi,hml,Vi]
  ·rw[if_neg (fun h=>h11 h.1)]
   simp -implicitDefEqProofs (disch:=first|assumption|omega|(simp only[aE,aL,aF,i64,sa,aB,lm,la,lc,ln];omega)) only[go_sem,simprocAttr,h2,h4,h11]
theorem Il:∀(n:Nat) (us:List ZD) (nm:ByteArray),us.length≤n→n≤1048576→(∀u∈us,u.sm)→call tab sD [.d (.r (us.map ZD.r)),Str nm]=some (I (if bY us nm<0 then 0 else needV us n (bY us nm).toNat)):=by
 intro n
 induction n with
 |zero =>
  intro us nm hl hn hs
  have g0:=rG us nm (by omega)
  have hib:=sG us nm
  rw[aT Ku _ rfl,Bs]
  have h:bY us nm<0:=by omega
  rw[if_pos h]
  generalize bY us nm=ix at *
  simp -implicitDefEqProofs (disch:=first|assumption|omega|(simp only[aE,aL,aF,i64,sa,aB,lm,la,lc,ln];omega)) only[go_sem,simprocAttr,g0,h]
 |succ n ihn =>
  intro us nm hl hn hs
  have g0:=rG us nm (by omega)
  have hib:=sG us nm
  rw[aT Ku _ rfl,Bs]
  by_cases h:bY us nm<0
  ·rw[if_pos h]
   generalize bY us nm=ix at *
   simp -implicitDefEqProofs (disch:=first|assumption|omega|(simp only[aE,aL,aF,i64,sa,aB,lm,la,lc,ln];omega)) only[go_sem,simprocAttr,g0,h]
  ·rw[if_neg h]
   obtain⟨u,hu⟩:∃u,us[(bY us nm).toNat]? = some u:=⟨_,List.getElem?_eq_getElem (by omega)⟩
   have hum:=List.mem_of_getElem? hu
   have hus:=hs u hum
   have hlt:(us.take (bY us nm).toNat).length=(bY us nm).toNat:=by rw[List.length_take];omega
   have g2:=H4 us (by omega) (needV us n) (bY us nm) (by omega) (by omega) u.fCode hus.2.1 (fun j _=>by have:=B9 us n j;omega) (fun nm2=>by
    have hb2:=sG (us.take (bY us nm).toNat) nm2
    rw[ihn (us.take (bY us nm).toNat) nm2 (by omega) (by omega) (fun u hu=>hs u (List.mem_of_mem_take hu))]
    by_cases hz:bY (us.take (bY us nm).toNat) nm2<0
    ·rw[if_pos hz,if_pos hz]
    ·rw[if_neg hz,if_neg hz,Of us n _ _ (by omega)]) u.fCode 0 0 rfl (by omega) (by omega) (by omega)
   have g1:=S7 u hus
   have hsl:=I4 u
   have hfb:=G8 (V:=needV us n) (us:=us.take (bY us nm).toNat) (c:=300000*n) (fun j _=>B9 us n j) u.fCode 0 (by omega) (by omega)
   have h2:=d6 ZD.r hu
   simp only[ZD.r] at h2
   rw[needV,hu]
   simp only
   generalize u.fCode.foldl (o8 (needV us n) (us.take (bY us nm).toNat)) 0=d at *
   generalize slotsU u=s0 at *
   generalize bY us nm=ix at *
   simp -implicitDefEqProofs (disch:=first|assumption|omega|(simp only[aE,aL,aF,i64,sa,aB,lm,la,lc,ln];omega)) only[go_sem,simprocAttr,h2,g0,g1,g2,h]
end Go.Ev.G
