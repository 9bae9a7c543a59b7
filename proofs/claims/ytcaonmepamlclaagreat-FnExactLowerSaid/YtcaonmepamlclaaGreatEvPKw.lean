import Derived.Test.YtcaonmepamlclaaGreatEvPMach
import Derived.Test.YtcaonmepamlclaaGreatEvQUnit2
set_option linter.all false
namespace Go.Ev.G
attribute [go_sem] ZB.op_mk ZB.tx_mk ZB.v_mk ZB.ks_mk
set_option maxRecDepth 8000
set_option maxHeartbeats 4000000
def n4(c:Int):Bool:=decide (97≤c∧c≤122)||decide (65≤c∧c≤90)
theorem N8(c:Int):call tab yQ [.d (.v (.int .u8 c))]=some (B (n4 c)):=by
 rw[aJ Pw _ rfl,Dv,n4]
 (repeat'(first|simp -implicitDefEqProofs (disch:=first|assumption|omega|(simp only[aE,aQ,aD,i64,sa,aC,lm,la,lc,ln];omega)) only[go_sem,simprocAttr]|((first|rw[aL]|rw[aF]|rw[aG]|rw[aM]|rw[aN]|rw[aH]|rw[aI]|rw[aO]|skip);split)))
 all_goals simp_all
 all_goals omega
theorem z2X{s:ByteArray}{j:Int}{b:UInt8}{r:List UInt8}(h:s.data.toList.drop j.toNat=b::r)(h0:0≤j):s[j.toNat]? = some b∧j<s.size∧s.data.toList.drop (j+1).toNat=r∧(s.size:Int)=j+1+r.length:=by
 obtain⟨h1,h2,h3,h4,h5⟩:=bK h h0
 have h6:s.data.toList.length=s.size:=by rw[Array.length_toList];rfl
 rw[h6] at h2 h5
 exact⟨by rw[z3N];exact h1,h2,h3,h5⟩
theorem z2J{s:ByteArray}{j:Int}(h:s.data.toList.drop j.toNat=[])(h0:0≤j):¬j<s.size:=by
 have h1:=b9 h h0
 have h6:s.data.toList.length=s.size:=by rw[Array.length_toList];rfl
 omega
set_option maxRecDepth 8000
set_option maxHeartbeats 4000000
def Jp(p:Int→Bool):List UInt8→Nat
 |[]=>0
 |b::r=>if p b.toNat=true then Jp p r+1 else 0
theorem zx8(p:Int→Bool):∀l,Jp p l≤l.length
 |[]=>by simp[Jp]
 |b::r=>by have:=zx8 p r;rw[Jp];split<;>simp only[lc]<;>omega
theorem zk8(c:Int)(h:Heap)(fr:Nat)(hh:bS fr h=h):evCW tab qV [.d (.v (.int .u8 c))] h fr=some (B (n4 c),h):=by
 rw[aP Qb _ _ _ rfl,Dy,n4]
 (repeat'(first|simp -implicitDefEqProofs (disch:=first|assumption|omega|(simp only[aE,aQ,aD,i64,sa,aC,lm,la,lc,ln];omega)) only[go_sem,simprocAttr,hh]|((first|rw[aL]|rw[aF]|rw[aG]|rw[aM]|rw[aN]|rw[aH]|rw[aI]|rw[aO]|skip);split)))
 all_goals simp_all
 all_goals omega
theorem Pb(f:Nat)(p:Int→Bool)(h:Heap)(fr:Nat)(hh:bS fr h=h)(s:ByteArray)(hs:s.size≤1048576)(a:Int)(ha:0≤a)(hf:∀b:UInt8,evCW tab f [.d (.v (.int .u8 b.toNat))] h (fr+1)=some (B (p b.toNat),h)):∀(Bl:List UInt8) (j:Int),s.data.toList.drop (a+j).toNat=Bl→0≤j→a+j≤s.size →
  loopW tab [0,1,2,7] t7 {env:=upd (upd (upd (upd emp 7 (some (I j))) 2 (some (.d (.v (.func (.func f) #[] #[]))))) 1 (some (I a))) 0 (some (Str s)),heap:=h,fr:=fr,next:=0} =
  some (.ext 0,{env:=upd emp 7 (some (I (j+Jp p Bl))),heap:=h,fr:=fr,next:=0})
 |[],j,hd,hj,hz=>by
  unfold loopW
  conv=>lhs;arg 1;unfold t7
  have h2:=z2J hd (by omega)
  have h3:0≤a+j:=by omega
  simp -implicitDefEqProofs (disch:=first|assumption|omega|(simp only[aE,aQ,aD,i64,sa,aC,lm,la,lc,ln];omega)) only[go_sem,simprocAttr,Jp,hh,Int.natCast_zero,Int.add_zero]
 |b::r,j,hd,hj,hz=>by
  unfold loopW
  conv=>lhs;arg 1;unfold t7
  obtain⟨g1,g2,g3,g4⟩:=z2X hd (by omega)
  have g5:=hf b
  rw[Jp]
  cases hp:p b.toNat<;>rw[hp] at g5
  ·simp -implicitDefEqProofs (disch:=first|assumption|omega|(simp only[aE,aQ,aD,i64,sa,aC,lm,la,lc,ln];omega)) only[go_sem,simprocAttr,g1,g5,hh,Bool.false_eq_true,if_false,Int.natCast_zero,Int.add_zero]
  ·have ih:=Pb f p h fr hh s hs a ha hf r (j+1) (by rw[←g3];congr 1;omega) (by omega) (by omega)
   have e:j+((Jp p r+1:Nat):Int)=j+1+(Jp p r:Int):=by omega
   simp only[if_true,e]
   rw[←ih]
   simp -implicitDefEqProofs (disch:=first|assumption|omega|(simp only[aE,aQ,aD,i64,sa,aC,lm,la,lc,ln];omega)) only[go_sem,simprocAttr,g1,g5,hh]
theorem zkx(f:Nat)(p:Int→Bool)(h:Heap)(fr:Nat)(hh:bS fr h=h)(s:ByteArray)(hs:s.size≤1048576)(a:Int)(ha:0≤a∧a≤s.size)(hf:∀b:UInt8,evCW tab f [.d (.v (.int .u8 b.toNat))] h (fr+1)=some (B (p b.toNat),h)) :
  evCW tab U3 [Str s,I a,.d (.v (.func (.func f) #[] #[]))] h fr=some (I (Jp p (s.data.toList.drop a.toNat)),h):=by
 have h0:=Pb f p h fr hh s hs a ha.1 hf (s.data.toList.drop a.toNat) 0 (by rw[Int.add_zero]) (by omega) (by omega)
 rw[aP zw6 _ _ _ rfl,Vf]
 simp only[Int.zero_add] at h0
 simp -implicitDefEqProofs (disch:=first|assumption|omega|(simp only[aE,aQ,aD,i64,sa,aC,lm,la,lc,ln];omega)) only[go_sem,simprocAttr,h0,hh]
abbrev z0:D:= .s 4 [[DI 0,DS noS,DI 0,DI 0]]
set_option maxRecDepth 8000
set_option maxHeartbeats 4000000
def kwS:List ByteArray:=[⟨#[102,117,110,99]⟩,⟨#[108,101,116]⟩,⟨#[105,102]⟩,⟨#[101,108,115,101]⟩,⟨#[119,104,105,108,101]⟩,⟨#[112,114,105,110,116]⟩,⟨#[114,101,116,117,114,110]⟩,⟨#[103,111]⟩,⟨#[115,101,110,100]⟩,⟨#[114,101,99,118]⟩,⟨#[99,108,111,115,101]⟩,⟨#[115,101,108,101,99,116]⟩,⟨#[99,97,115,101]⟩,⟨#[100,101,102,97,117,108,116]⟩,⟨#[109,97,107,101]⟩,⟨#[99,104,97,110]⟩,⟨#[112,111,107,101]⟩,⟨#[110,111,116,101]⟩,⟨#[115,119,97,112]⟩,⟨#[104,97,108,116]⟩,⟨#[111,117,116]⟩,⟨#[112,101,101,107]⟩,⟨#[99,97,115]⟩,⟨#[99,111,114,101]⟩,⟨#[97,100,100,114]⟩]
abbrev Ad(ws:List ByteArray):List (List D):=ws.map fun w=>[DS w]
theorem tH(ws:List ByteArray)(hl:ws.length≤1048576)(v:ByteArray):∀(Bl:List ByteArray) (j:Int),ws.drop j.toNat=Bl→0≤j →
  loopW tab [0,1,7,8] dI {env:=upd (upd (upd (upd emp 8 (some (I j))) 7 (some (I (ws.length:Int)))) 1 (some (Str v))) 0 (some (.d (.r (Ad ws)))),heap:=emp,fr:=0,next:=0}=if aS (fun w=>decide (v=w)) j Bl= -1 then some (.ext 0,{env:=emp,heap:=emp,fr:=0,next:=0}) else some (.ret,{env:=upd emp 4 (some (I (aS (fun w=>decide (v=w)) j Bl))),heap:=emp,fr:=0,next:=0})
 |[],j,hd,hj=>by
  unfold loopW
  conv=>lhs;arg 1;unfold dI
  have h1:=b9 hd hj
  simp only[aS,if_true]
  simp -implicitDefEqProofs (disch:=first|assumption|omega) only[go_sem,simprocAttr]
 |x::Bl,j,hd,hj=>by
  unfold loopW
  conv=>lhs;arg 1;unfold dI
  have h1:=bK hd hj
  have h5:=h1.2.1
  have h2:=eK (fun w=>[DS w]) h1.1
  have ih:=tH ws hl v Bl (j+1) h1.2.2.1 (by omega)
  rw[aS]
  by_cases hp:v=x
  ·have k:decide (v=x)=true:=decide_eq_true hp
   simp only[k,if_true]
   rw[if_neg (by omega)]
   simp -implicitDefEqProofs (disch:=first|assumption|omega) only[go_sem,simprocAttr,h2]
  ·have k:decide (v=x)=false:=decide_eq_false hp
   simp only[k,Bool.false_eq_true,if_false]
   rw[←ih]
   simp -implicitDefEqProofs (disch:=first|assumption|omega) only[go_sem,simprocAttr,h2]
theorem p4(ws:List ByteArray)(hl:ws.length≤1048576)(v:ByteArray):call tab dS [.d (.r (Ad ws)),Str v]=some (B (ws.any fun w=>decide (v=w))):=by
 have h0:=tH ws hl v ws 0 rfl (by omega)
 have h1:call tab gU [.d (.r (Ad ws)),Str v]=some (I (aS (fun w=>decide (v=w)) 0 ws)):=by
  rw[aJ sM _ rfl,kS]
  by_cases hp:aS (fun w=>decide (v=w)) 0 ws= -1
  ·rw[if_pos hp] at h0
   simp -implicitDefEqProofs (disch:=first|assumption|omega) only[go_sem,simprocAttr,h0,hp]
  ·rw[if_neg hp] at h0
   simp -implicitDefEqProofs (disch:=first|assumption|omega) only[go_sem,simprocAttr,h0]
 rw[pB _ 0 (by omega)]
 rw[aJ p8 _ rfl,i8]
 simp -implicitDefEqProofs (disch:=first|assumption|omega) only[go_sem,simprocAttr,h1]
def kwB(v:ByteArray):Bool:=kwS.any fun w=>decide (v=w)
theorem Q2(v:ByteArray):call tab Cv [Str v]=some (B (kwB v)):=by
 have h0:=p4 kwS (by decide) v
 rw[←kwB] at h0
 generalize kwB v=z at *
 simp only[kwS,Ad,mc,mn] at h0
 rw[aJ U9 _ rfl,Eg]
 simp -implicitDefEqProofs (disch:=first|assumption|omega) only[go_sem,simprocAttr,Ev.fzs,Ev.fzl,D.fz,h0]
theorem Dm(ws:List ByteArray)(hl:ws.length≤1048576)(v:ByteArray):∀(Bl:List ByteArray) (j:Int),ws.drop j.toNat=Bl→0≤j →
  loopW tab [0,3,4] mP {env:=upd (upd (upd emp 4 (some (I j))) 3 (some (.ref (0,0) []))) 0 (some (Str v)),heap:=upd emp (0,0) (some (.s 1 (Ad ws))),fr:=0,next:=1}=if (Bl.any fun w=>decide (v=w))=true then some (.ret,{env:=upd emp 2 (some (B true)),heap:=emp,fr:=0,next:=0}) else some (.ext 0,{env:=emp,heap:=emp,fr:=0,next:=0})
 |[],j,hd,hj=>by
  unfold loopW
  conv=>lhs;arg 1;unfold mP
  have h1:=b9 hd hj
  simp only[List.any_nil,Bool.false_eq_true,if_false]
  simp -implicitDefEqProofs (disch:=first|assumption|omega) only[go_sem,simprocAttr]
 |x::Bl,j,hd,hj=>by
  unfold loopW
  conv=>lhs;arg 1;unfold mP
  have h1:=bK hd hj
  have h5:=h1.2.1
  have h2:=eK (fun w=>[DS w]) h1.1
  have ih:=Dm ws hl v Bl (j+1) h1.2.2.1 (by omega)
  rw[List.any_cons]
  by_cases hp:v=x
  ·have k:decide (v=x)=true:=decide_eq_true hp
   have hp':=hp.symm
   simp only[k,Bool.true_or,if_true]
   simp -implicitDefEqProofs (disch:=first|assumption|omega) only[go_sem,simprocAttr,h2]
  ·have k:decide (v=x)=false:=decide_eq_false hp
   have hp':¬x=v:=fun h=>hp h.symm
   simp only[k,Bool.false_or]
   rw[←ih]
   simp -implicitDefEqProofs (disch:=first|assumption|omega) only[go_sem,simprocAttr,h2]
theorem Rf(v:ByteArray):call tab Ca [Str v]=some (B (kwB v)):=by
 have h0:=Dm kwS (by decide) v kwS 0 rfl (by omega)
 rw[←kwB] at h0
 obtain⟨z,hz⟩:∃z,kwB v=z:=⟨_,rfl⟩
 rw[hz] at h0 ⊢
 simp only[kwS,Ad,mc,mn] at h0
 rw[aJ U0 _ rfl,Fg]
 cases z<;>simp only[Bool.false_eq_true,if_false,if_true] at h0<;>simp -implicitDefEqProofs (disch:=first|assumption|omega) only[go_sem,simprocAttr,h0]
end Go.Ev.G
