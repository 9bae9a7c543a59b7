import Derived.Test.YtenclibcnjkamaaGreatEvPLiv5
import Derived.Test.YtenclibcnjkamaaGreatEvPSrt9
set_option linter.all false
namespace Go.Ev.G
set_option maxRecDepth 8000
set_option maxHeartbeats 4000000
theorem wL{α:Type}(p:α→Bool):∀(xs:List α) (j:Int),0≤j→(aT p j xs= -1↔∀x∈xs,p x=false)
 |[],j,h=>by simp[aT]
 |x::xs,j,h=>by
  rw[aT]
  split
  ·rename_i hp
   constructor
   ·intro h;omega
   ·intro h;have:=h x (by simp);rw[hp] at this;simp at this
  ·rename_i hp
   rw[wL p xs (j+1) (by omega)]
   simp[hp]
theorem zki(n:Int)(hn:n≤250):∀(k:Nat) (j:Int),n-j=k→0≤j →
  loopW tab [0,3,4] j8 {env:=upd (upd (upd emp 4 (some (I j))) 3 (some (.ref (0,0) []))) 0 (some (I n)),heap:=upd emp (0,0) (some (.s 1 (aP (List.replicate j.toNat (-1))))),fr:=0,next:=1} =
  some (.ext 0,{env:=upd emp 3 (some (.ref (0,0) [])),heap:=upd emp (0,0) (some (.s 1 (aP (List.replicate n.toNat (-1))))),fr:=0,next:=1})
 |0,j,hk,hj=>by
  have e:j=n:=by omega
  subst e
  unfold loopW
  conv=>lhs;arg 1;unfold j8
  simp -implicitDefEqProofs (disch:=first|assumption|omega) only[go_sem,simprocAttr]
 |k+1,j,hk,hj=>by
  have ih:=zki n hn k (j+1) (by omega) (by omega)
  rw[←ih]
  have hs:aP (List.replicate (j+1).toNat (-1))=aP (List.replicate j.toNat (-1))++[[DI (-1)]]:=by
   rw[show(j+1).toNat=j.toNat+1 by omega,List.replicate_succ']
   simp[aP]
  rw[hs]
  have hl:(aP (List.replicate j.toNat (-1))).length≤250:=by simp[aP];omega
  generalize aP (List.replicate j.toNat (-1))=W at *
  conv=>lhs;unfold loopW;arg 1;unfold j8
  simp -implicitDefEqProofs (disch:=first|assumption|omega|(simp only[aE,aF,aD,i64,sa,aB,lm,la,lc,ln];omega)) only[go_sem,simprocAttr,show j<n by omega]
theorem zq1(n:Int)(h0:0≤n)(hn:n≤250):call tab pN [I n]=some (.d (.s 1 (aP (List.replicate n.toNat (-1))))):=by
 rw[aQ Lc _ rfl,zT]
 have h:=zki n hn n.toNat 0 (by omega) (by omega)
 rw[show(0:Int).toNat=0 from rfl,List.replicate_zero,aP,mn,aP] at h
 simp -implicitDefEqProofs (disch:=first|assumption|omega|(simp only[aE,aF,aD,i64,sa,aB,lm,la,lc,ln];omega)) only[go_sem,simprocAttr,h]
set_option maxRecDepth 8000
set_option maxHeartbeats 4000000
abbrev r3(a b c:List Int):List (List D):=[[.r (aP a)],[.r (aP b)],[.r (aP c)]]
set_option maxRecDepth 8000
set_option maxRecDepth 8000
set_option maxHeartbeats 4000000
set_option maxRecDepth 8000
set_option maxHeartbeats 4000000
set_option maxRecDepth 8000
set_option maxHeartbeats 4000000
set_option maxRecDepth 8000
set_option maxHeartbeats 4000000
set_option maxRecDepth 8000
set_option maxRecDepth 8000
set_option maxHeartbeats 8000000
set_option maxRecDepth 8000
set_option maxHeartbeats 8000000
set_option maxRecDepth 8000
set_option maxHeartbeats 8000000
set_option maxRecDepth 8000
set_option maxHeartbeats 8000000
set_option maxRecDepth 8000
set_option maxHeartbeats 8000000
end Go.Ev.G
