import Derived.Test.YtenclibcnjkamaaGreatEvPUnit2
set_option linter.all false
namespace Go.Ev.G
set_option maxRecDepth 8000
set_option maxHeartbeats 4000000
abbrev ZA.x0(x:ZA):X:= .agg [I x.fOp,I x.fD,I x.fA,I x.fB,I x.fN,Str x.fS,.d (.s 1 [])]
theorem Io(t:ZA)(ht:t.sm):call tab wD [t.x]=some t.xo:=by
 have h0:=Ej xF (aP t.fArgs) (by simp[aD];have:=ht.2;omega) (by simp)
 rw[L9] at h0
 rw[aQ Kw _ rfl,Br]
 (repeat'(first|simp -implicitDefEqProofs (disch:=first|assumption|omega|(simp only[aE,aF,aD,i64,sa,aB,lm,la,lc,ln];omega)) only[go_sem,simprocAttr,h0]|((first|rw[aM]|rw[aI]|rw[aH]|rw[aO]|rw[aL]|rw[aJ]|rw[aG]|rw[aN]|skip);split)))
set_option maxRecDepth 8000
set_option maxHeartbeats 4000000
abbrev u0:D:= .s 4 [[DS noS,DI 0,DI 0,.s 7 []]]
theorem u5(u:ZB)(hs:u.sm):∀(Bl A:List ZA) (j:Int),u.fCode.drop j.toNat=Bl→0≤j→A.length=j.toNat →
  loopW tab [1,2,3,8,9,10] i5 {env:=upd (upd (upd (upd (upd (upd emp 10 (some (I j))) 9 (some (I (u.fCode.length:Int)))) 8 (some (.d (.r (u.fCode.map ZA.r))))) 3 (some (.ref (0,2) []))) 2 (some (.ptr (0,1) [] 0 0))) 1 (some (.ptr (0,0) [] 0 0)),heap:=upd (upd (upd emp (0,2) (some (.s 7 (A.map ZA.o)))) (0,1) (some u0)) (0,0) (some (.s 4 [[DS u.fName,DI u.fParams,DI u.fRegs,.r (u.fCode.map ZA.r)]])),fr:=0,next:=3} =
  some (.ext 0,{env:=upd (upd (upd emp 3 (some (.ref (0,2) []))) 2 (some (.ptr (0,1) [] 0 0))) 1 (some (.ptr (0,0) [] 0 0)),heap:=upd (upd (upd emp (0,2) (some (.s 7 ((A++Bl).map ZA.o)))) (0,1) (some u0)) (0,0) (some (.s 4 [[DS u.fName,DI u.fParams,DI u.fRegs,.r (u.fCode.map ZA.r)]])),fr:=0,next:=3})
 |[],A,j,hd,hj,hA=>by
  unfold loopW
  conv=>lhs;arg 1;unfold i5
  have h1:=dW hd hj
  (repeat'(first|simp -implicitDefEqProofs (disch:=first|assumption|omega|(simp only[aE,aF,aD,i64,sa,aB,lm,la,lc,ln];omega)) only[go_sem,simprocAttr]|((first|rw[aM]|rw[aI]|rw[aH]|rw[aO]|rw[aL]|rw[aJ]|rw[aG]|rw[aN]|skip);split)))
 |t::Bl,A,j,hd,hj,hA=>by
  unfold loopW
  conv=>lhs;arg 1;unfold i5
  have h1:=b7 hd hj
  have h5:=h1.2.1
  have h2:=kH ZA.r h1.1
  simp only[ZA.r] at h2
  have hl:=hs.2.1
  have ih:=u5 u hs Bl (A++[t]) (j+1) h1.2.2.1 (by omega) (by simp;omega)
  have g0:=Io t (hs.2.2 t h1.2.2.2.1)
  have hA2:A.length≤1048576:=by omega
  simp only[List.map_append,mc,mn,ZA.o,zqc,List.cons_append,zqf] at ih ⊢
  rw[←ih]
  (repeat'(first|simp -implicitDefEqProofs (disch:=first|assumption|omega|(simp only[aE,aF,aD,i64,sa,aB,lm,la,lc,ln];omega)) only[go_sem,simprocAttr,h2,g0]|((first|rw[aM]|rw[aI]|rw[aH]|rw[aO]|rw[aL]|rw[aJ]|rw[aG]|rw[aN]|skip);split)))
theorem eK(u:ZB)(hs:u.sm):call tab eF [u.x]=some u.xo:=by
 rw[aQ I7 _ rfl,yO]
 have h0:=u5 u hs u.fCode [] 0 rfl (by omega) rfl
 have hl:=hs.2.1
 simp only[mn,zqf] at h0
 (repeat'(first|simp -implicitDefEqProofs (disch:=first|assumption|omega|(simp only[aE,aF,aD,i64,sa,aB,lm,la,lc,ln];omega)) only[go_sem,simprocAttr,h0]|((first|rw[aM]|rw[aI]|rw[aH]|rw[aO]|rw[aL]|rw[aJ]|rw[aG]|rw[aN]|skip);split)))
set_option maxRecDepth 8000
set_option maxHeartbeats 4000000
theorem zVs(as:List Int):((aP as).all fun el=>el.length==1)=true:=by simp
set_option maxRecDepth 8000
set_option maxHeartbeats 4000000
theorem Bh(t:ZA)(ht:t.sm):call tab rU [t.x]=some t.xo:=by
 have hl:=ht.2
 rw[aQ O6 _ rfl,Dc]
 (repeat'(first|simp -implicitDefEqProofs (disch:=first|assumption|omega|(simp only[aE,aF,aD,i64,sa,aB,lm,la,lc,ln];omega)) only[go_sem,simprocAttr,L9,zVs]|((first|rw[aM]|rw[aI]|rw[aH]|rw[aO]|rw[aL]|rw[aJ]|rw[aG]|rw[aN]|skip);split)))
theorem yV(v0:List ZA)(hl:v0.length≤1048576)(hs:∀t∈v0,t.sm):∀(Bl A:List ZA) (j:Int),v0.drop j.toNat=Bl→0≤j→A.length=j.toNat →
  loopW tab [0,3,4] kC {env:=upd (upd (upd emp 4 (some (I j))) 3 (some (.ref (0,0) []))) 0 (some (.d (.r (v0.map ZA.r)))),heap:=upd emp (0,0) (some (.s 7 (A.map ZA.o))),fr:=0,next:=1} =
  some (.ext 0,{env:=upd emp 3 (some (.ref (0,0) [])),heap:=upd emp (0,0) (some (.s 7 ((A++Bl).map ZA.o))),fr:=0,next:=1})
 |[],A,j,hd,hj,hA=>by
  unfold loopW
  conv=>lhs;arg 1;unfold kC
  have h1:=dW hd hj
  (repeat'(first|simp -implicitDefEqProofs (disch:=first|assumption|omega|(simp only[aE,aF,aD,i64,sa,aB,lm,la,lc,ln];omega)) only[go_sem,simprocAttr]|((first|rw[aM]|rw[aI]|rw[aH]|rw[aO]|rw[aL]|rw[aJ]|rw[aG]|rw[aN]|skip);split)))
 |t::Bl,A,j,hd,hj,hA=>by
  unfold loopW
  conv=>lhs;arg 1;unfold kC
  have h1:=b7 hd hj
  have h5:=h1.2.1
  have h2:=kH ZA.r h1.1
  simp only[ZA.r] at h2
  have ih:=yV v0 hl hs Bl (A++[t]) (j+1) h1.2.2.1 (by omega) (by simp;omega)
  have g0:=Bh t (hs t h1.2.2.2.1)
  have hA2:A.length≤1048576:=by omega
  simp only[List.map_append,mc,mn,ZA.o,zqc,List.cons_append,zqf] at ih ⊢
  rw[←ih]
  (repeat'(first|simp -implicitDefEqProofs (disch:=first|assumption|omega|(simp only[aE,aF,aD,i64,sa,aB,lm,la,lc,ln];omega)) only[go_sem,simprocAttr,h2,g0]|((first|rw[aM]|rw[aI]|rw[aH]|rw[aO]|rw[aL]|rw[aJ]|rw[aG]|rw[aN]|skip);split)))
theorem Ir(v0:List ZA)(hl:v0.length≤1048576)(hs:∀t∈v0,t.sm):call tab xC [.d (.r (v0.map ZA.r))]=some (.d (.s 7 (v0.map ZA.o))):=by
 have h0:=yV v0 hl hs v0 [] 0 rfl (by omega) rfl
 simp only[mn,zqf] at h0
 rw[aQ M9 _ rfl,A4]
 (repeat'(first|simp -implicitDefEqProofs (disch:=first|assumption|omega|(simp only[aE,aF,aD,i64,sa,aB,lm,la,lc,ln];omega)) only[go_sem,simprocAttr,h0]|((first|rw[aM]|rw[aI]|rw[aH]|rw[aO]|rw[aL]|rw[aJ]|rw[aG]|rw[aN]|skip);split)))
theorem eX(u:ZB)(hs:u.sm):call tab fC [u.x]=some u.xo:=by
 have h0:=Ir u.fCode hs.2.1 hs.2.2
 rw[aQ Mi _ rfl,B1]
 (repeat'(first|simp -implicitDefEqProofs (disch:=first|assumption|omega|(simp only[aE,aF,aD,i64,sa,aB,lm,la,lc,ln];omega)) only[go_sem,simprocAttr,h0]|((first|rw[aM]|rw[aI]|rw[aH]|rw[aO]|rw[aL]|rw[aJ]|rw[aG]|rw[aN]|skip);split)))
end Go.Ev.G
