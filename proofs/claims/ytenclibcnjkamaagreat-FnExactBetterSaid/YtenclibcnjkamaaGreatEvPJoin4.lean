import Derived.Test.YtenclibcnjkamaaGreatEvPUnit2
set_option linter.all false
namespace Go.Ev.G
set_option maxRecDepth 8000
set_option maxHeartbeats 4000000
abbrev ZA.x0(x:ZA):X:= .agg [I x.fOp,I x.fD,I x.fA,I x.fB,I x.fN,Str x.fS,.d (.s 1 [])]
theorem Gz(t:ZA)(ht:t.sm):call tab vT [t.x]=some t.xo:=by
 have h0:=Bo uO (aP t.fArgs) (by simp[aD];have:=ht.2;omega) (by simp)
 rw[Kv] at h0
 rw[aQ Ka _ rfl,zD]
 (repeat'(first|simp -implicitDefEqProofs (disch:=first|assumption|omega|(simp only[aE,aF,aD,i64,sa,aB,lm,la,lc,ln];omega)) only[go_sem,simprocAttr,h0]|((first|rw[aO]|rw[aH]|rw[aI]|rw[aM]|rw[aN]|rw[aJ]|rw[aG]|rw[aL]|skip);split)))
set_option maxRecDepth 8000
set_option maxHeartbeats 4000000
abbrev u0:D:= .s 4 [[DS noS,DI 0,DI 0,.s 7 []]]
theorem tF(u:ZB)(hs:u.sm):∀(Bl A:List ZA) (j:Int),u.fCode.drop j.toNat=Bl→0≤j→A.length=j.toNat →
  loopW tab [1,2,3,8,9,10] iH {env:=upd (upd (upd (upd (upd (upd emp 10 (some (I j))) 9 (some (I (u.fCode.length:Int)))) 8 (some (.d (.r (u.fCode.map ZA.r))))) 3 (some (.ref (0,2) []))) 2 (some (.ptr (0,1) [] 0 0))) 1 (some (.ptr (0,0) [] 0 0)),heap:=upd (upd (upd emp (0,2) (some (.s 7 (A.map ZA.o)))) (0,1) (some u0)) (0,0) (some (.s 4 [[DS u.fName,DI u.fParams,DI u.fRegs,.r (u.fCode.map ZA.r)]])),fr:=0,next:=3} =
  some (.ext 0,{env:=upd (upd (upd emp 3 (some (.ref (0,2) []))) 2 (some (.ptr (0,1) [] 0 0))) 1 (some (.ptr (0,0) [] 0 0)),heap:=upd (upd (upd emp (0,2) (some (.s 7 ((A++Bl).map ZA.o)))) (0,1) (some u0)) (0,0) (some (.s 4 [[DS u.fName,DI u.fParams,DI u.fRegs,.r (u.fCode.map ZA.r)]])),fr:=0,next:=3})
 |[],A,j,hd,hj,hA=>by
  unfold loopW
  conv=>lhs;arg 1;unfold iH
  have h1:=dR hd hj
  (repeat'(first|simp -implicitDefEqProofs (disch:=first|assumption|omega|(simp only[aE,aF,aD,i64,sa,aB,lm,la,lc,ln];omega)) only[go_sem,simprocAttr]|((first|rw[aO]|rw[aH]|rw[aI]|rw[aM]|rw[aN]|rw[aJ]|rw[aG]|rw[aL]|skip);split)))
 |t::Bl,A,j,hd,hj,hA=>by
  unfold loopW
  conv=>lhs;arg 1;unfold iH
  have h1:=cE hd hj
  have h5:=h1.2.1
  have h2:=j4 ZA.r h1.1
  simp only[ZA.r] at h2
  have hl:=hs.2.1
  have ih:=tF u hs Bl (A++[t]) (j+1) h1.2.2.1 (by omega) (by simp;omega)
  have g0:=Gz t (hs.2.2 t h1.2.2.2.1)
  have hA2:A.length≤1048576:=by omega
  simp only[List.map_append,mc,mn,ZA.o,zqc,List.cons_append,zqf] at ih ⊢
  rw[←ih]
  (repeat'(first|simp -implicitDefEqProofs (disch:=first|assumption|omega|(simp only[aE,aF,aD,i64,sa,aB,lm,la,lc,ln];omega)) only[go_sem,simprocAttr,h2,g0]|((first|rw[aO]|rw[aH]|rw[aI]|rw[aM]|rw[aN]|rw[aJ]|rw[aG]|rw[aL]|skip);split)))
theorem fI(u:ZB)(hs:u.sm):call tab eV [u.x]=some u.xo:=by
 rw[aQ G1 _ rfl,wB]
 have h0:=tF u hs u.fCode [] 0 rfl (by omega) rfl
 have hl:=hs.2.1
 simp only[mn,zqf] at h0
 (repeat'(first|simp -implicitDefEqProofs (disch:=first|assumption|omega|(simp only[aE,aF,aD,i64,sa,aB,lm,la,lc,ln];omega)) only[go_sem,simprocAttr,h0]|((first|rw[aO]|rw[aH]|rw[aI]|rw[aM]|rw[aN]|rw[aJ]|rw[aG]|rw[aL]|skip);split)))
set_option maxRecDepth 8000
set_option maxHeartbeats 4000000
theorem zJU(as:List Int):((aP as).all fun el=>el.length==1)=true:=by simp
set_option maxRecDepth 8000
set_option maxHeartbeats 4000000
theorem yK(t:ZA)(ht:t.sm):call tab qV [t.x]=some t.xo:=by
 have hl:=ht.2
 rw[aQ Lr _ rfl,Bf]
 (repeat'(first|simp -implicitDefEqProofs (disch:=first|assumption|omega|(simp only[aE,aF,aD,i64,sa,aB,lm,la,lc,ln];omega)) only[go_sem,simprocAttr,Kv,zJU]|((first|rw[aO]|rw[aH]|rw[aI]|rw[aM]|rw[aN]|rw[aJ]|rw[aG]|rw[aL]|skip);split)))
theorem vY(v0:List ZA)(hl:v0.length≤1048576)(hs:∀t∈v0,t.sm):∀(Bl A:List ZA) (j:Int),v0.drop j.toNat=Bl→0≤j→A.length=j.toNat →
  loopW tab [0,3,4] i9 {env:=upd (upd (upd emp 4 (some (I j))) 3 (some (.ref (0,0) []))) 0 (some (.d (.r (v0.map ZA.r)))),heap:=upd emp (0,0) (some (.s 7 (A.map ZA.o))),fr:=0,next:=1} =
  some (.ext 0,{env:=upd emp 3 (some (.ref (0,0) [])),heap:=upd emp (0,0) (some (.s 7 ((A++Bl).map ZA.o))),fr:=0,next:=1})
 |[],A,j,hd,hj,hA=>by
  unfold loopW
  conv=>lhs;arg 1;unfold i9
  have h1:=dR hd hj
  (repeat'(first|simp -implicitDefEqProofs (disch:=first|assumption|omega|(simp only[aE,aF,aD,i64,sa,aB,lm,la,lc,ln];omega)) only[go_sem,simprocAttr]|((first|rw[aO]|rw[aH]|rw[aI]|rw[aM]|rw[aN]|rw[aJ]|rw[aG]|rw[aL]|skip);split)))
 |t::Bl,A,j,hd,hj,hA=>by
  unfold loopW
  conv=>lhs;arg 1;unfold i9
  have h1:=cE hd hj
  have h5:=h1.2.1
  have h2:=j4 ZA.r h1.1
  simp only[ZA.r] at h2
  have ih:=vY v0 hl hs Bl (A++[t]) (j+1) h1.2.2.1 (by omega) (by simp;omega)
  have g0:=yK t (hs t h1.2.2.2.1)
  have hA2:A.length≤1048576:=by omega
  simp only[List.map_append,mc,mn,ZA.o,zqc,List.cons_append,zqf] at ih ⊢
  rw[←ih]
  (repeat'(first|simp -implicitDefEqProofs (disch:=first|assumption|omega|(simp only[aE,aF,aD,i64,sa,aB,lm,la,lc,ln];omega)) only[go_sem,simprocAttr,h2,g0]|((first|rw[aO]|rw[aH]|rw[aI]|rw[aM]|rw[aN]|rw[aJ]|rw[aG]|rw[aL]|skip);split)))
theorem Gh(v0:List ZA)(hl:v0.length≤1048576)(hs:∀t∈v0,t.sm):call tab vN [.d (.r (v0.map ZA.r))]=some (.d (.s 7 (v0.map ZA.o))):=by
 have h0:=vY v0 hl hs v0 [] 0 rfl (by omega) rfl
 simp only[mn,zqf] at h0
 rw[aQ Kp _ rfl,yA]
 (repeat'(first|simp -implicitDefEqProofs (disch:=first|assumption|omega|(simp only[aE,aF,aD,i64,sa,aB,lm,la,lc,ln];omega)) only[go_sem,simprocAttr,h0]|((first|rw[aO]|rw[aH]|rw[aI]|rw[aM]|rw[aN]|rw[aJ]|rw[aG]|rw[aL]|skip);split)))
theorem gR(u:ZB)(hs:u.sm):call tab fX [u.x]=some u.xo:=by
 have h0:=Gh u.fCode hs.2.1 hs.2.2
 rw[aQ If _ rfl,zK]
 (repeat'(first|simp -implicitDefEqProofs (disch:=first|assumption|omega|(simp only[aE,aF,aD,i64,sa,aB,lm,la,lc,ln];omega)) only[go_sem,simprocAttr,h0]|((first|rw[aO]|rw[aH]|rw[aI]|rw[aM]|rw[aN]|rw[aJ]|rw[aG]|rw[aL]|skip);split)))
end Go.Ev.G
