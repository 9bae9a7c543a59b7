import Derived.Test.YtenclibcnjkamaaGreatEvPUnit2
import Derived.Test.YtenclibcnjkamaaGreatEvPHom13
set_option linter.all false
namespace Go.Ev.G
set_option maxRecDepth 8000
set_option maxHeartbeats 4000000
theorem r9(f:Nat)(p:ZB→Bool)(h:Heap)(fr:Nat)(hh:a8 fr h=h)(xs:List ZB)(hx:xs.length≤140737488351232)(kc:Nat)(h1:1≤fr)(hf:∀x∈xs,evCW tab f [x.x,.ptr (0,kc) [] 0 0] h (fr+1)=some (B (p x),h)):∀(Bl:List ZB) (j:Int),xs.drop j.toNat=Bl→0≤j →
  loopW tab [0,1,7,8] bB {env:=upd (upd (upd (upd emp 8 (some (I j))) 7 (some (I (xs.length:Int)))) 1 (some (.clo f [.ptr (0,kc) [] 0 0]))) 0 (some (.d (.r (xs.map (ZB.r))))),heap:=h,fr:=fr,next:=0}=if aT p j Bl= -1 then some (.ext 0,{env:=emp,heap:=h,fr:=fr,next:=0}) else some (.ret,{env:=upd emp 4 (some (I (aT p j Bl))),heap:=h,fr:=fr,next:=0})
 |[],j,hd,hj=>by
  unfold loopW
  conv=>lhs;arg 1;unfold bB
  have:=dW hd hj
  simp only[aT,if_true]
  (repeat'(first|simp -implicitDefEqProofs (disch:=first|assumption|omega|(simp only[aE,aF,aD,i64,sa,aB,lm,la,lc,ln];omega)) only[go_sem,simprocAttr,hh,show ¬0=fr from by omega]|((first|rw[aM]|rw[aI]|rw[aH]|rw[aO]|rw[aL]|rw[aJ]|rw[aG]|rw[aN]|skip);split)))
 |x::Bl,j,hd,hj=>by
  unfold loopW
  conv=>lhs;arg 1;unfold bB
  have h4:=(b7 hd hj).2.1
  have ih:=r9 f p h fr hh xs hx kc h1 hf Bl (j+1) (b7 hd hj).2.2.1 (by omega)
  have h2:=kH (ZB.r) (b7 hd hj).1
  simp only[ZB.r] at h2
  have h3:=hf x (b7 hd hj).2.2.2.1
  rw[aT]
  by_cases hp:p x=true
  ·rw[if_pos hp,if_neg (by omega)]
   (repeat'(first|simp -implicitDefEqProofs (disch:=first|assumption|omega|(simp only[aE,aF,aD,i64,sa,aB,lm,la,lc,ln];omega)) only[go_sem,simprocAttr,h2,show ¬0=fr from by omega,h3,hh]|((first|rw[aM]|rw[aI]|rw[aH]|rw[aO]|rw[aL]|rw[aJ]|rw[aG]|rw[aN]|skip);split)))
  ·rw[if_neg hp,←ih]
   (repeat'(first|simp -implicitDefEqProofs (disch:=first|assumption|omega|(simp only[aE,aF,aD,i64,sa,aB,lm,la,lc,ln];omega)) only[go_sem,simprocAttr,h2,show ¬0=fr from by omega,h3,hh]|((first|rw[aM]|rw[aI]|rw[aH]|rw[aO]|rw[aL]|rw[aJ]|rw[aG]|rw[aN]|skip);split)))
theorem tL(f:Nat)(p:ZB→Bool)(h:Heap)(fr:Nat)(hh:a8 fr h=h)(xs:List ZB)(hx:xs.length≤140737488351232)(kc:Nat)(h1:1≤fr)(hf:∀x∈xs,evCW tab f [x.x,.ptr (0,kc) [] 0 0] h (fr+1)=some (B (p x),h)):evCW tab cM [.d (.r (xs.map (ZB.r))),.clo f [.ptr (0,kc) [] 0 0]] h fr=some (I (aT p 0 xs),h):=by
 rw[bU jG _ _ _ rfl,dT]
 have h0:=r9 f p h fr hh xs hx kc h1 hf xs 0 rfl (by omega)
 by_cases hp:aT p 0 xs= -1
 ·rw[if_pos hp] at h0
  (repeat'(first|simp -implicitDefEqProofs (disch:=first|assumption|omega|(simp only[aE,aF,aD,i64,sa,aB,lm,la,lc,ln];omega)) only[go_sem,simprocAttr,hh,h0,hp,show ¬0=fr from by omega]|((first|rw[aM]|rw[aI]|rw[aH]|rw[aO]|rw[aL]|rw[aJ]|rw[aG]|rw[aN]|skip);split)))
 ·rw[if_neg hp] at h0
  (repeat'(first|simp -implicitDefEqProofs (disch:=first|assumption|omega|(simp only[aE,aF,aD,i64,sa,aB,lm,la,lc,ln];omega)) only[go_sem,simprocAttr,hh,h0,hp,show ¬0=fr from by omega]|((first|rw[aM]|rw[aI]|rw[aH]|rw[aO]|rw[aL]|rw[aJ]|rw[aG]|rw[aN]|skip);split)))
set_option maxRecDepth 8000
set_option maxHeartbeats 8000000
def yR(nm:ByteArray)(u:ZB):Bool:=decide (u.fName=nm)
def bF(us:List ZB)(nm:ByteArray):Int:=aT (yR nm) 0 us
theorem Hp(t:ZB)(nm:ByteArray)(h:Heap)(fr:Nat)(h2:2≤fr)(hh:h (0,0)=some (.s 1 [[DS nm]]))(hd:a8 fr h=h):evCW tab nZ [t.x,.ptr (0,0) [] 0 0] h fr=some (B (yR nm t),h):=by
 rw[bU Ju _ _ _ rfl,yQ,yR]
 simp -implicitDefEqProofs (disch:=first|assumption|omega) only[go_sem,simprocAttr,hh,hd,show ¬0=fr by omega]
theorem zH(us:List ZB)(nm:ByteArray)(hl:us.length≤1048576):call tab sA [.d (.r (us.map ZB.r)),Str nm]=some (I (bF us nm)):=by
 rw[aQ Qg _ rfl,Dt,bF]
 have h0:=tL nZ (yR nm) (upd emp (0,0) (some (.s 1 [[DS nm]]))) 1 (by simp only[J8,iW]) us (by omega) 0 (by omega) (fun t _=>Hp t nm _ 2 (by omega) (by simp[upd]) (by simp only[S4,iW]))
 simp -implicitDefEqProofs (disch:=first|assumption|omega) only[go_sem,simprocAttr,h0]
theorem Kk(us:List ZB)(nm:ByteArray)(hl:us.length≤1048576):∀(Bl:List ZB) (j:Int),us.drop j.toNat=Bl→0≤j →
  loopW tab [0,1,5] gI {env:=upd (upd (upd emp 5 (some (I j))) 1 (some (Str nm))) 0 (some (.d (.r (us.map ZB.r)))),heap:=emp,fr:=0,next:=0} =
  if aT (yR nm) j Bl= -1 then some (.ext 0,{env:=emp,heap:=emp,fr:=0,next:=0}) else some (.ret,{env:=upd emp 4 (some (I (aT (yR nm) j Bl))),heap:=emp,fr:=0,next:=0})
 |[],j,hd,hj=>by
  have hh:=dW hd hj
  simp only[aT,if_true]
  unfold loopW
  conv=>lhs;arg 1;unfold gI
  simp -implicitDefEqProofs (disch:=first|assumption|omega) only[go_sem,simprocAttr,hh]
 |u::Bl,j,hd,hj=>by
  have hc:=b7 hd hj
  have h2:=kH ZB.r hc.1
  have h4:=hc.2.1
  simp only[ZB.r] at h2
  have ih:=Kk us nm hl Bl (j+1) hc.2.2.1 (by omega)
  by_cases hp:u.fName=nm
  ·have hf:aT (yR nm) j (u::Bl)=j:=by rw[aT];exact if_pos (decide_eq_true hp)
   rw[hf,if_neg (by omega)]
   conv=>lhs;unfold loopW;arg 1;unfold gI
   simp -implicitDefEqProofs (disch:=first|assumption|omega) only[go_sem,simprocAttr,h2,h4,hp]
  ·have hf:aT (yR nm) j (u::Bl)=aT (yR nm) (j+1) Bl:=by rw[aT];exact if_neg (by unfold yR;simp[hp])
   rw[hf,←ih]
   conv=>lhs;unfold loopW;arg 1;unfold gI
   simp -implicitDefEqProofs (disch:=first|assumption|omega) only[go_sem,simprocAttr,h2,h4,hp]
theorem xX(us:List ZB)(nm:ByteArray)(hl:us.length≤1048576):call tab pT [.d (.r (us.map ZB.r)),Str nm]=some (I (bF us nm)):=by
 rw[aQ K7 _ rfl,B4,bF]
 have h0:=Kk us nm hl us 0 rfl (by omega)
 by_cases hp:aT (yR nm) 0 us= -1
 ·rw[if_pos hp] at h0
  simp -implicitDefEqProofs (disch:=first|assumption|omega) only[go_sem,simprocAttr,h0,hp]
 ·rw[if_neg hp] at h0
  simp -implicitDefEqProofs (disch:=first|assumption|omega) only[go_sem,simprocAttr,h0,hp]
end Go.Ev.G
