import Derived.Test.YtenclibcnjkamaaGreatEvPLiv5
set_option linter.all false
namespace Go.Ev.G
set_option maxRecDepth 8000
set_option maxHeartbeats 4000000
theorem uZ{α:Type}(p:α→Bool):∀(xs:List α) (j:Int),0≤j→(aU p j xs= -1↔∀x∈xs,p x=false)
 |[],j,h=>by simp[aU]
 |x::xs,j,h=>by
  rw[aU]
  split
  ·rename_i hp
   constructor
   ·intro h;omega
   ·intro h;have:=h x (by simp);rw[hp] at this;simp at this
  ·rename_i hp
   rw[uZ p xs (j+1) (by omega)]
   simp[hp]
theorem zzS(n:Int)(hn:n≤250):∀(k:Nat) (j:Int),n-j=k→0≤j →
  loopW tab [0,3,4] jE {env:=upd (upd (upd emp 4 (some (I j))) 3 (some (.ref (0,0) []))) 0 (some (I n)),heap:=upd emp (0,0) (some (.s 1 (aP (List.replicate j.toNat (-1))))),fr:=0,next:=1} =
  some (.ext 0,{env:=upd emp 3 (some (.ref (0,0) [])),heap:=upd emp (0,0) (some (.s 1 (aP (List.replicate n.toNat (-1))))),fr:=0,next:=1})
 |0,j,hk,hj=>by
  have e:j=n:=by omega
  subst e
  unfold loopW
  conv=>lhs;arg 1;unfold jE
  simp -implicitDefEqProofs (disch:=first|assumption|omega) only[go_sem,simprocAttr]
 |k+1,j,hk,hj=>by
  have ih:=zzS n hn k (j+1) (by omega) (by omega)
  rw[←ih]
  have hs:aP (List.replicate (j+1).toNat (-1))=aP (List.replicate j.toNat (-1))++[[DI (-1)]]:=by
   rw[show(j+1).toNat=j.toNat+1 by omega,List.replicate_succ']
   simp[aP]
  rw[hs]
  have hl:(aP (List.replicate j.toNat (-1))).length≤250:=by simp[aP];omega
  generalize aP (List.replicate j.toNat (-1))=W at *
  conv=>lhs;unfold loopW;arg 1;unfold jE
  simp -implicitDefEqProofs (disch:=first|assumption|omega|(simp only[aE,aF,aD,i64,sa,aB,lm,la,lc,ln];omega)) only[go_sem,simprocAttr,show j<n by omega]
theorem zjz(n:Int)(h0:0≤n)(hn:n≤250):call tab oM [I n]=some (.d (.s 1 (aP (List.replicate n.toNat (-1))))):=by
 rw[aQ Ij _ rfl,wX]
 have h:=zzS n hn n.toNat 0 (by omega) (by omega)
 rw[show(0:Int).toNat=0 from rfl,List.replicate_zero,aP,mn,aP] at h
 simp -implicitDefEqProofs (disch:=first|assumption|omega|(simp only[aE,aF,aD,i64,sa,aB,lm,la,lc,ln];omega)) only[go_sem,simprocAttr,h]
end Go.Ev.G
