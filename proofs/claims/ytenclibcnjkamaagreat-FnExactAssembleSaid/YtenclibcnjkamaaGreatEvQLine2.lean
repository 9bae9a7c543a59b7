import Derived.Test.YtenclibcnjkamaaGreatEvPMach
set_option linter.all false
namespace Go.Ev.G
set_option maxRecDepth 8000
set_option maxHeartbeats 4000000
theorem uF(full:List (List D)):∀(B A:List ZB) (k:Int),full=A.map ZB.r++(ZB.mks k B).map ZB.r→(A.length:Int)+ZB.cts B≤1099511627776→0≤k∧k+ZB.cts B≤4611686018427387904 →
  loopW tab [0,1,5] jO {env:=upd (upd (upd emp 5 (some (I (A.length:Int)))) 1 (some (I k))) 0 (some (.d (.r full))),heap:=emp,fr:=0,next:=0}=some (.ext 0,{env:=upd emp 1 (some (I (k+ZB.cts B))),heap:=emp,fr:=0,next:=0})
 |[],A,k,hf,h,hk=>by
  subst hf
  unfold loopW
  conv=>lhs;arg 1;unfold jO
  simp only[ZB.cts] at h hk
  simp -implicitDefEqProofs (disch:=first|assumption|omega|(simp only[aE,aL,aF,i64,sa,aB,lm,la,lc,ln];omega)) only[go_sem,simprocAttr,ZB.cts,ZB.mks,mn,zqe,Int.add_zero]
 |x::B,A,k,hf,h,hk=>by
  simp only[ZB.cts] at h hk
  have h1:=x.ct_nn
  have h0:=ZB.cts_nn B
  have ih:=uF full B (A++[x.mk_ k]) (k+x.ct) (by rw[hf];simp[ZB.mks]) (by simp;omega) (by omega)
  unfold loopW
  conv=>lhs;arg 1;unfold jO
  have hlen:=ZB.mks_len k (x::B)
  have h2:full[A.length]? = some (ZB.r (x.mk_ k)):=by rw[hf];simp[ZB.mks]
  have h3:full.length=A.length+(B.length+1):=by rw[hf,la,lm,lm,hlen,lc]
  clear hf
  rw[show(((A++[x.mk_ k]).length:Nat):Int)=(A.length:Int)+1 by simp,show k+x.ct+ZB.cts B=k+ZB.cts (x::B) by simp only[ZB.cts];omega] at ih
  have hm:ZB.r (x.mk_ k)=[DS (Hl (k)),DI (k+1),DI (k+1+1),DI (k+1+1+1),DI (k+1+1+1+1),DI (k+1+1+1+1+1),DI (k+1+1+1+1+1+1),DS (Hl (k+1+1+1+1+1+1+1))]:=rfl
  have hkx:k+x.ct=k+1+1+1+1+1+1+1+1:=by unfold ZB.ct;omega
  rw[hkx] at ih
  rw[hm] at h2
  unfold ZB.ct at hk h0
  simp -implicitDefEqProofs (disch:=first|assumption|omega|(simp only[aE,aL,aF,i64,sa,aB,lm,la,lc,ln];omega)) only[go_sem,simprocAttr,h2,h3,l5,ih]
theorem Ie(xs:List ZB)(k:Int)(h:ZB.cts xs≤1099511627776)(hk:0≤k∧k+ZB.cts xs≤4611686018427387904):call tab oP [.d (.r ((ZB.mks k xs).map ZB.r)),I k]=some (I (k+ZB.cts xs)):=by
 rw[aT Jj _ rfl,yA]
 have hl:=uF _ xs [] k rfl (by simpa using h) hk
 simp only[mn,zqf,ln,Int.cast_ofNat_Int] at hl
 simp -implicitDefEqProofs (disch:=first|assumption|omega|(simp only[aE,aL,aF,i64,sa,aB,lm,la,lc,ln];omega)) only[go_sem,simprocAttr,hl]
theorem La(x:ZB):call tab Cq [x.x,x.x]=some (B true):=by
 rw[aT Su _ rfl,Ey]
 simp -implicitDefEqProofs (disch:=first|assumption|omega|(simp only[aE,aL,aF,i64,sa,aB,lm,la,lc,ln];omega)) only[go_sem,simprocAttr,ZB.x,J9]
theorem uZ(xs:List ZB)(hx:xs.length≤1099511627776):∀(B A:List ZB),xs=A++B →
  loopW tab [0,1,5] mI {env:=upd (upd (upd emp 5 (some (I (A.length:Int)))) 1 (some (.d (.r (xs.map ZB.r))))) 0 (some (.d (.r (xs.map ZB.r)))),heap:=emp,fr:=0,next:=0}=some (.ext 0,{env:=emp,heap:=emp,fr:=0,next:=0})
 |[],A,h=>by
  rw[zqe] at h
  subst h
  unfold loopW
  conv=>lhs;arg 1;unfold mI
  have hx':=hx
  simp -implicitDefEqProofs (disch:=first|assumption|omega|(simp only[aE,aL,aF,i64,sa,aB,lm,la,lc,ln];omega)) only[go_sem,simprocAttr]
 |x::B,A,h=>by
  unfold loopW
  conv=>lhs;arg 1;unfold mI
  have hl:xs.length=A.length+(B.length+1):=by rw[h];simp
  have h2:(xs.map ZB.r)[A.length]? = some x.r:=by rw[h];simp
  have hx':=hx
  have hto:=La x
  have ih:=uZ xs hx B (A++[x]) (by simp[h])
  rw[show(((A++[x]).length:Nat):Int)=(A.length:Int)+1 by simp] at ih
  simp only[ZB.r] at h2
  simp only[ZB.x] at hto
  simp -implicitDefEqProofs (disch:=first|assumption|omega|(simp only[aE,aL,aF,i64,sa,aB,lm,la,lc,ln];omega)) only[go_sem,simprocAttr,h2,hto,ih]
theorem Kb(xs:List ZB)(hx:xs.length≤1099511627776):call tab oO [.d (.r (xs.map ZB.r)),.d (.r (xs.map ZB.r))]=some (B true):=by
 rw[aT Nj _ rfl,Cd]
 have hl:=uZ xs hx xs [] rfl
 have hx':=hx
 simp only[ln,Int.cast_ofNat_Int] at hl
 simp -implicitDefEqProofs (disch:=first|assumption|omega|(simp only[aE,aL,aF,i64,sa,aB,lm,la,lc,ln];omega)) only[go_sem,simprocAttr,hl]
end Go.Ev.G
