import Derived.Test.YtcaonmepamlclaaGreatEvPLow9
import Derived.Test.YtcaonmepamlclaaGreatEvPChk13
import Derived.Test.YtcaonmepamlclaaGreatEvQUnit2
set_option linter.all false
namespace Go.Ev.G
set_option maxRecDepth 8000
set_option maxHeartbeats 16000000
abbrev eJ(nm:ByteArray)(p:Int)(W:List ZC)(z:LS):D:= .s 6 [[DS nm,DI p,DI z.n,.s 7 (z.c.map ZD.o),.r (W.map ZC.r),DI z.m]]
abbrev qh(nm:ByteArray)(p:Int)(W:List ZC)(z:LS):Heap:=upd emp (0,0) (some (eJ nm p W z))
abbrev qhl(nm:ByteArray)(p:Int)(W:List ZC)(z:LS)(as:List Int):Heap:=upd (upd emp (0,1) (some (.s 1 (bB as)))) (0,0) (some (eJ nm p W z))
section
variable(nm:ByteArray)(p:Int)(W:List ZC)(z:LS)
theorem lG(hs:z.bd 1099511627776)(t:ZD)(ht:t.fArgs=[]):evCW tab bT [lp,tX0 t] (qh nm p W z) 1=some (.tup [],qh nm p W (z.put t)):=by
 have h1:=hs.l
 rw[aP It _ _ _ rfl,yG]
 simp only[qh,eJ]
 (repeat'(first|simp -implicitDefEqProofs (disch:=first|assumption|omega|(simp only[aE,aQ,aD,i64,sa,aC,lm,la,lc,ln];omega)) only[go_sem,simprocAttr,ZC.noR,ZD.noR]|((first|rw[aL]|rw[aF]|rw[aG]|rw[aM]|rw[aN]|rw[aH]|rw[aI]|rw[aO]|skip);split)))
 simp only[LS.put,ZD.o,List.map_append,mc,mn,ht,bB,mn]
theorem zwr(hs:z.bd 1099511627776)(t:ZD):evCW tab bT [lp,tXl t 1] (qhl nm p W z t.fArgs) 1=some (.tup [],qh nm p W (z.put t)):=by
 have h1:=hs.l
 rw[aP It _ _ _ rfl,yG]
 simp only[qhl,eJ]
 (repeat'(first|simp -implicitDefEqProofs (disch:=first|assumption|omega|(simp only[aE,aQ,aD,i64,sa,aC,lm,la,lc,ln];omega)) only[go_sem,simprocAttr,zy0,ZC.noR,ZD.noR]|((first|rw[aL]|rw[aF]|rw[aG]|rw[aM]|rw[aN]|rw[aH]|rw[aI]|rw[aO]|skip);split)))
 simp only[LS.put,ZD.o,List.map_append,mc,mn,qh,eJ]
theorem zJd(hs:z.bd 1099511627776):evCW tab j4 [lp] (qh nm p W z) 1=some (I z.n,qh nm p W z.reg):=by
 have h1:=hs.n0;have h2:=hs.n
 rw[aP W8 _ _ _ rfl,If]
 simp only[qh,eJ,LS.reg]
 (repeat'(first|simp -implicitDefEqProofs (disch:=first|assumption|omega|(simp only[aE,aQ,aD,i64,sa,aC,lm,la,lc,ln];omega)) only[go_sem,simprocAttr,show z.n+1-1=z.n by omega]|((first|rw[aL]|rw[aF]|rw[aG]|rw[aM]|rw[aN]|rw[aH]|rw[aI]|rw[aO]|skip);split)))
theorem zw3(hs:z.bd 1099511627776):evCW tab gN [lp] (qh nm p W z) 1=some (I z.m,qh nm p W z.lab):=by
 have h1:=hs.m0;have h2:=hs.m
 rw[aP Q7 _ _ _ rfl,Dx]
 simp only[qh,eJ,LS.lab]
 (repeat'(first|simp -implicitDefEqProofs (disch:=first|assumption|omega|(simp only[aE,aQ,aD,i64,sa,aC,lm,la,lc,ln];omega)) only[go_sem,simprocAttr,show z.m+1-1=z.m by omega]|((first|rw[aL]|rw[aF]|rw[aG]|rw[aM]|rw[aN]|rw[aH]|rw[aI]|rw[aO]|skip);split)))
theorem Rt{z:LS}(hs:z.bd 1099511627775):z.reg.bd 1099511627776:=⟨by have:=hs.l;show(z.c.length:Int)≤_;omega,by have:=hs.n0;show 0≤z.n+1;omega,by have:=hs.n;show z.n+1≤_;omega,hs.m0,by have:=hs.m;show z.m≤_;omega⟩
theorem z4E(hs:z.bd 1099511627775)(v:Int):evCW tab rZ [lp,I v] (qh nm p W z) 1=some (I z.n,qh nm p W (z.set (eQ v))):=by
 have g0:=zJd nm p W z (hs.mono (by omega))
 have g1:=lG nm p W z.reg (Rt hs) {eQ v with fD:=z.n} rfl
 rw[show z.reg.put {eQ v with fD:=z.n}=z.set (eQ v) from rfl] at g1
 generalize z.set (eQ v)=z2 at *
 generalize z.reg=z1 at *
 rw[aP W4 _ _ _ rfl,Ii]
 simp only[qh,eJ,tX0,eQ] at g0 g1 ⊢
 simp -implicitDefEqProofs (disch:=first|assumption|omega) only[go_sem,simprocAttr,g0,g1,ZC.noR,ZD.noR]
theorem Ky(hs:z.bd 1099511627776)(l:Int):evCW tab gE [lp,I l] (qh nm p W z) 1=some (.tup [],qh nm p W (z.put (a8 l))):=by
 have g1:=lG nm p W z hs (a8 l) rfl
 generalize z.put (a8 l)=z2 at *
 rw[aP Uq _ _ _ rfl,El]
 simp only[qh,eJ,tX0,a8] at g1 ⊢
 simp -implicitDefEqProofs (disch:=first|assumption|omega) only[go_sem,simprocAttr,g1,ZC.noR,ZD.noR]
theorem z9v(hW:W.length≤16777216)(hs:z.bd 1099511627776)(tx:ByteArray)(r:Int):evCW tab pW [lp,Str tx,I r] (qh nm p W z) 1=some (.tup [],qh nm p W (z.put (d7 (fx W tx) r))):=by
 have g0:=gP W tx (by omega)
 have g1:=lG nm p W z hs (d7 (fx W tx) r) rfl
 generalize z.put (d7 (fx W tx) r)=z2 at *
 rw[aP T8 _ _ _ rfl,Eo]
 simp only[qh,eJ,tX0,d7] at g1 ⊢
 simp -implicitDefEqProofs (disch:=first|assumption|omega) only[go_sem,simprocAttr,g0,g1,ZC.fzr,ZC.noR,ZD.noR]
end
section
variable(nm:ByteArray)(p:Int)(W:List ZC)(hW:W.length≤16777216)
abbrev Mo(y:ZB):Prop:=∀(z:LS) (k:Int),z.bd k→k+8*(y.sz+1)≤1099511627775→evCW tab cX [lp,y.x] (qh nm p W z) 1=some (I ((y.lw W).e z).1,qh nm p W ((y.lw W).e z).2)
theorem zza(ks:List ZB)(hks:ks.length≤1048576)(H:∀y∈ks,Mo nm p W y)(HG:∀y∈ks,GrN W y):∀(Bl:List ZB) (j:Nat) (A:List Int) (z:LS) (k:Int),ks.drop j=Bl→A.length=j→z.bd k→k+kK Bl≤1099511627775 →
  loopW tab [0,1,5,6] lO {env:=upd (upd (upd (upd emp 6 (some (I (j:Int)))) 5 (some (.ref (1,0) []))) 1 (some (.d (.r (ks.map ZB.r))))) 0 (some lp),heap:=upd (qh nm p W z) (1,0) (some (.s 1 (bB A))),fr:=1,next:=1} =
   some (.ext 0,{env:=upd emp 5 (some (.ref (1,0) [])),heap:=upd (qh nm p W (esK (lws W Bl) z).2) (1,0) (some (.s 1 (bB (A++(esK (lws W Bl) z).1)))),fr:=1,next:=1})
 |[],j,A,z,k,hd,hA,hs,hk=>by
  have h1:=b9 (j:=(j:Int)) (by simpa using hd) (by omega)
  unfold loopW
  conv=>lhs;arg 1;unfold lO
  rw[show lws W []=[] from rfl,esK]
  simp only[List.append_nil]
  simp -implicitDefEqProofs (disch:=first|assumption|omega) only[go_sem,simprocAttr,h1,qh,eJ]
 |y::Bl,j,A,z,k,hd,hA,hs,hk=>by
  have h1:=bK (j:=(j:Int)) (by simpa using hd) (by omega)
  have h5:=h1.2.1
  have h2:=eK ZB.r h1.1
  rw[ZB.r_def,Int.toNat_natCast] at h2
  rw[bO] at hk
  have hkn:=K3 Bl
  have hyn:=y.sz_nn
  have g0:=H y h1.2.2.2.1 z k hs (by omega)
  have gg:=(HG y h1.2.2.2.1).e z
  have ih:=zza ks hks H HG Bl (j+1) (A++[((y.lw W).e z).1]) ((y.lw W).e z).2 _ (by have:=h1.2.2.1;simpa using this) (by rw[la,hA];rfl) (hs.gr gg) (by omega)
  rw[show(((j+1:Nat)):Int)=(j:Int)+1 by omega] at ih
  rw[show lws W (y::Bl)=y.lw W::lws W Bl from rfl,esK]
  rw[List.append_assoc] at ih
  rw[show [((y.lw W).e z).1]++(esK (lws W Bl) ((y.lw W).e z).2).1=((y.lw W).e z).1::(esK (lws W Bl) ((y.lw W).e z).2).1 from rfl] at ih
  rw[←ih]
  conv=>lhs;unfold loopW;arg 1;unfold lO
  simp only[qh,eJ] at g0 ⊢
  have hn:bB (A++[((y.lw W).e z).1])=bB A++[[DI ((y.lw W).e z).1]]:=by simp[bB]
  rw[hn]
  simp -implicitDefEqProofs (disch:=first|assumption|omega|(simp only[aE,aQ,aD,i64,sa,aC,lm,la,lc,ln];omega)) only[go_sem,simprocAttr,h5,h2,g0,ZB.fzs,ZB.fzr,ZC.noR,ZD.noR,bB,lm,hA]
theorem Z4(ks:List ZB)(hks:ks.length≤1048576)(H:∀y∈ks,Mo nm p W y)(HG:∀y∈ks,GrN W y)(z:LS)(k:Int)(hs:z.bd k)(hk:k+kK ks≤1099511627775) :
  evCW tab q7 [lp,.d (.r (ks.map ZB.r))] (qh nm p W z) 1=some (.d (.s 1 (bB (esK (lws W ks) z).1)),qh nm p W (esK (lws W ks) z).2):=by
 have h0:=zza nm p W ks hks H HG ks 0 [] z k rfl rfl hs hk
 rw[List.nil_append] at h0
 simp only[qh,eJ,cK,show bB []=[] from rfl] at h0 ⊢
 rw[aP Qc _ _ _ rfl,C6]
 generalize esK (lws W ks) z=r at *
 simp -implicitDefEqProofs (disch:=first|assumption|omega) only[go_sem,simprocAttr,h0]
include hW in
theorem z8c(x:ZB)(hx:x.Sm)(hsl:x.sel=true)(hsh:Sh 0 x):Mo nm p W x:=by
 refine ZB.ind (P:=fun x=>x.Sm→x.sel=true→Sh 0 x→Mo nm p W x) (fun op tx v ks ih hx hsl hsh=> ?_) x hx hsl hsh
 intro z k hs hk
 have hk':=hx.ks
 have htx:=hx.tx
 simp only[ZB.ks_mk,ZB.tx_mk] at hk' htx
 have hk1:=hk'.1
 rw[sN,bE,List.all_eq_true] at hsl
 have H:∀y∈ks,Mo nm p W y:=fun y hy=>ih y hy (hk'.2 y hy) (hsl.2 y hy) (hsh.ekids y hy)
 have HG:∀y∈ks,GrN W y:=fun y hy=>grN y (hk'.2 y hy) (hsl.2 y hy)
 have hle:=tJ op tx v ks
 have hkn:=K3 ks
 have hop:=hsh.op.1 rfl
 simp only[ZB.op_mk] at hop
 rw[zKI]
 simp only[ZB.x,ZB.op_mk,ZB.tx_mk,ZB.v_mk,ZB.ks_mk]
 by_cases c20:op=20
 ·rw[if_pos c20]
  subst c20
  have g0:=gP W tx (by omega)
  rw[aP wE _ _ _ rfl,pO]
  simp only[qh,eJ]
  simp -implicitDefEqProofs (disch:=first|assumption|omega) only[go_sem,simprocAttr,g0,ZC.fzr]
 rw[if_neg c20]
 by_cases c19:op=19
 ·subst c19
  have hks:ks=[]:=by
   cases hsh with
   |ex0 h=>rfl
   |ex1 h=>omega
   |ex2 h=>omega
  subst hks
  have g0:=z4E nm p W z (hs.mono (by omega)) v
  rw[show lws W []=[] from rfl]
  simp only[esK,eM,if_true]
  rw[aP wE _ _ _ rfl,pO]
  generalize z.set (eQ v)=z2 at *
  simp only[qh,eJ] at g0 ⊢
  simp -implicitDefEqProofs (disch:=first|assumption|omega) only[go_sem,simprocAttr,g0,ZC.noR,ZD.noR]
 have g0:=Z4 nm p W ks hk1 H HG z k hs (by omega)
 have hbd:=hs.gr (Kk HG z)
 have hlen:(esK (lws W ks) z).1.length=ks.length:=by rw[He,Lm]
 have gr:=zJd nm p W (esK (lws W ks) z).2 (hbd.mono (by omega))
 have gl:=fun t:ZD=>zwr nm p W (esK (lws W ks) z).2.reg (Rt (hbd.mono (by omega))) {t with fD:=(esK (lws W ks) z).2.n}
 rw[aP wE _ _ _ rfl,pO]
 generalize esK (lws W ks) z=r at *
 obtain⟨as,z'⟩:=r
 simp only at g0 hlen gr gl hbd ⊢
 have hn:=hbd.n0
 cases hsh with
 |ex0 h =>
  simp only[ln,List.length_eq_zero_iff] at hlen
  subst hlen
  rcases h with rfl|rfl|rfl|rfl
  ·exact absurd rfl c19
  ·exact absurd rfl c20
  ·have g1:=gl (eM 30 tx v [])
   rw[show z'.reg.put {eM 30 tx v [] with fD:=z'.n}=z'.set (eM 30 tx v []) from rfl] at g1
   generalize z'.set (eM 30 tx v [])=z2 at *
   simp only[eM,Int.reduceEq,if_false,if_true,tXl,qh,qhl,eJ,bB,mn] at g0 gr g1 ⊢
   simp -implicitDefEqProofs (disch:=first|assumption|omega) only[go_sem,simprocAttr,g0,gr,g1,ZC.noR,ZD.noR]
  ·have g1:=gl (eM 31 tx v [])
   rw[show z'.reg.put {eM 31 tx v [] with fD:=z'.n}=z'.set (eM 31 tx v []) from rfl] at g1
   generalize z'.set (eM 31 tx v [])=z2 at *
   simp only[eM,Int.reduceEq,if_false,if_true,tXl,qh,qhl,eJ,bB,mn] at g0 gr g1 ⊢
   simp -implicitDefEqProofs (disch:=first|assumption|omega) only[go_sem,simprocAttr,g0,gr,g1,ZC.noR,ZD.noR]
 |ex1 h a =>
  obtain⟨a0,rfl⟩:=zQT hlen
  rcases h with rfl|rfl
  ·have g1:=gl (eM 27 tx v [a0])
   rw[show z'.reg.put {eM 27 tx v [a0] with fD:=z'.n}=z'.set (eM 27 tx v [a0]) from rfl] at g1
   generalize z'.set (eM 27 tx v [a0])=z2 at *
   simp only[eM,ix,List.getD_cons_zero,Int.reduceEq,if_false,if_true,tXl,qh,qhl,eJ,bB,mc,mn] at g0 gr g1 ⊢
   simp -implicitDefEqProofs (disch:=first|assumption|omega) only[go_sem,simprocAttr,g0,gr,g1,ZC.noR,ZD.noR]
  ·have g1:=gl (eM 28 tx v [a0])
   rw[show z'.reg.put {eM 28 tx v [a0] with fD:=z'.n}=z'.set (eM 28 tx v [a0]) from rfl] at g1
   generalize z'.set (eM 28 tx v [a0])=z2 at *
   simp only[eM,ix,List.getD_cons_zero,Int.reduceEq,if_false,if_true,tXl,qh,qhl,eJ,bB,mc,mn] at g0 gr g1 ⊢
   simp -implicitDefEqProofs (disch:=first|assumption|omega) only[go_sem,simprocAttr,g0,gr,g1,ZC.noR,ZD.noR]
 |ex2 h a b =>
  obtain⟨a0,a1,rfl⟩:=zjm hlen
  have e:eM op tx v [a0,a1]=⟨op-21+3,0,a0,a1,0,emS,[]⟩:=by
   unfold eM
   rw[if_neg (by omega),if_neg (by omega),if_neg (by omega),if_neg (by omega),if_neg (by omega),if_neg (by omega),if_neg (by omega)]
   rfl
  have g1:=gl (eM op tx v [a0,a1])
  rw[show z'.reg.put {eM op tx v [a0,a1] with fD:=z'.n}=z'.set (eM op tx v [a0,a1]) from rfl] at g1
  generalize hz2:z'.set (eM op tx v [a0,a1])=z2 at *
  rw[e] at g1
  have n26:(op=26)=False:=eq_false (by omega)
  have n27:(op=27)=False:=eq_false (by omega)
  have n28:(op=28)=False:=eq_false (by omega)
  have n29:(op=29)=False:=eq_false (by omega)
  have n30:(op=30)=False:=eq_false (by omega)
  have n31:(op=31)=False:=eq_false (by omega)
  have eo:3+op-21=op-21+3:=by omega
  simp only[tXl,qh,qhl,eJ,bB,mc,mn] at g0 gr g1 ⊢
  simp -implicitDefEqProofs (disch:=first|assumption|omega) only[go_sem,simprocAttr,g0,gr,g1,ZC.noR,ZD.noR,c19,c20,n26,n27,n28,n29,n30,n31,eo]
 |ex3 a b c =>
  obtain⟨a0,a1,a2,rfl⟩:=zWG hlen
  have g1:=gl (eM 29 tx v [a0,a1,a2])
  rw[show z'.reg.put {eM 29 tx v [a0,a1,a2] with fD:=z'.n}=z'.set (eM 29 tx v [a0,a1,a2]) from rfl] at g1
  generalize z'.set (eM 29 tx v [a0,a1,a2])=z2 at *
  simp only[eM,ix,List.getD_cons_zero,List.getD_cons_succ,Int.reduceEq,if_false,if_true,tXl,qhl,qh,eJ,bB,mc,mn,List.drop_succ_cons,List.drop_zero] at g0 gr g1 ⊢
  simp -implicitDefEqProofs (disch:=first|assumption|omega) only[go_sem,simprocAttr,g0,gr,g1,ZC.noR,ZD.noR]
 |cll h =>
  have g1:=gl (eM 26 tx v as)
  rw[show z'.reg.put {eM 26 tx v as with fD:=z'.n}=z'.set (eM 26 tx v as) from rfl] at g1
  generalize z'.set (eM 26 tx v as)=z2 at *
  simp only[eM,Int.reduceEq,if_false,if_true,tXl,qhl,qh,eJ] at g0 gr g1 ⊢
  simp -implicitDefEqProofs (disch:=first|assumption|omega) only[go_sem,simprocAttr,g0,gr,g1,ZC.noR,ZD.noR,uK]
end
set_option maxRecDepth 8000
set_option maxHeartbeats 16000000
def LS.al(z:LS)(j:Int):LS:=⟨z.c,z.n,z.m+j⟩
theorem Zo{W:List ZC}:∀{ks:List ZB},(∀y∈ks,∀(z:LS) (j:Int),(y.lw W).e (z.al j)=(((y.lw W).e z).1,((y.lw W).e z).2.al j))→∀(z:LS) (j:Int),esK (lws W ks) (z.al j)=((esK (lws W ks) z).1,(esK (lws W ks) z).2.al j)
 |[],_,z,j=>rfl
 |y::ks,h,z,j=>by
  rw[show lws W (y::ks)=y.lw W::lws W ks from rfl,esK,esK,h y (by simp),Zo (fun q hq=>h q (by simp[hq]))]
theorem z1u{W:List ZC}(x:ZB):∀(z:LS) (j:Int),(x.lw W).e (z.al j)=(((x.lw W).e z).1,((x.lw W).e z).2.al j):=by
 refine ZB.ind (P:=fun x=>∀(z:LS) (j:Int),(x.lw W).e (z.al j)=(((x.lw W).e z).1,((x.lw W).e z).2.al j)) (fun op tx v ks ih=> ?_) x
 intro z j
 rw[zKI,zKI,Zo ih]
 split
 ·rfl
 ·rfl
theorem zvU{W:List ZC}:∀{ks:List ZB},(∀y∈ks,∀z:LS,((y.lw W).e z).2.m=z.m)→∀z:LS,(esK (lws W ks) z).2.m=z.m
 |[],_,z=>rfl
 |y::ks,h,z=>by
  rw[show lws W (y::ks)=y.lw W::lws W ks from rfl,esK]
  simp only
  rw[zvU (fun q hq=>h q (by simp[hq])),h y (by simp)]
theorem e_m{W:List ZC}(x:ZB):∀z:LS,((x.lw W).e z).2.m=z.m:=by
 refine ZB.ind (P:=fun x=>∀z:LS,((x.lw W).e z).2.m=z.m) (fun op tx v ks ih=> ?_) x
 intro z
 rw[zKI]
 split
 ·rfl
 ·exact zvU ih z
section
variable(nm:ByteArray)(p:Int)(W:List ZC)(hW:W.length≤16777216)
abbrev z87(y:ZB):Prop:=∀(z:LS) (k:Int),z.bd k→k+8*(y.sz+1)≤1099511627775→evCW tab m8 [lp,y.x] (qh nm p W z) 1=some (.tup [],qh nm p W ((y.lw W).s z))
abbrev Xc(y:ZB):Prop:=∀(z:LS) (k:Int),z.bd k→k+8*(y.sz+1)≤1099511627775→evCW tab i6 [lp,y.x] (qh nm p W z) 1=some (.tup [],qh nm p W ((y.lw W).b z))
theorem Zq(x:ZB)(hks:x.ks.length≤1048576)(H:∀y∈x.ks,z87 nm p W y)(HG:∀y∈x.ks,GrN W y):∀(Bl:List ZB) (j:Nat) (z:LS) (k:Int),x.ks.drop j=Bl→z.bd k→k+kK Bl≤1099511627775 →
  loopW tab [0,3,4] lK {env:=upd (upd (upd emp 4 (some (I (j:Int)))) 3 (some (nvp x))) 0 (some lp),heap:=qh nm p W z,fr:=1,next:=0} =
   some (.ext 0,{env:=emp,heap:=qh nm p W (ssK (lws W Bl) z),fr:=1,next:=0})
 |[],j,z,k,hd,hs,hk=>by
  have h1:=b9 (j:=(j:Int)) (by simpa using hd) (by omega)
  unfold loopW
  conv=>lhs;arg 1;unfold lK
  rw[show lws W []=[] from rfl,ssK]
  simp -implicitDefEqProofs (disch:=first|assumption|omega) only[go_sem,simprocAttr,h1,qh,eJ,nvp]
 |y::Bl,j,z,k,hd,hs,hk=>by
  have h1:=bK (j:=(j:Int)) (by simpa using hd) (by omega)
  have h5:=h1.2.1
  have h2:=eK ZB.r h1.1
  rw[ZB.r_def,Int.toNat_natCast] at h2
  rw[bO] at hk
  have hkn:=K3 Bl
  have hyn:=y.sz_nn
  have g0:=H y h1.2.2.2.1 z k hs (by omega)
  have gg:=(HG y h1.2.2.2.1).s z
  have ih:=Zq x hks H HG Bl (j+1) ((y.lw W).s z) _ (by have:=h1.2.2.1;simpa using this) (hs.gr gg) (by omega)
  rw[show(((j+1:Nat)):Int)=(j:Int)+1 by omega] at ih
  rw[show lws W (y::Bl)=y.lw W::lws W Bl from rfl,ssK,←ih]
  conv=>lhs;unfold loopW;arg 1;unfold lK
  simp only[qh,eJ,nvp] at g0 ⊢
  simp -implicitDefEqProofs (disch:=first|assumption|omega) only[go_sem,simprocAttr,h5,h2,g0,ZB.fzs,ZB.fzr,ZC.noR,ZD.noR]
theorem zKi(x:ZB)(hks:x.ks.length≤1048576)(H:∀y∈x.ks,z87 nm p W y)(HG:∀y∈x.ks,GrN W y):Xc nm p W x:=by
 intro z k hs hk
 have hle:=tJ x.op x.tx x.v x.ks
 rw[show ZB.mk x.op x.tx x.v x.ks=x from by cases x;rfl] at hle
 have h0:=Zq nm p W x hks H HG x.ks 0 z k rfl hs (by omega)
 have e:((x.lw W).b z)=ssK (lws W x.ks) z:=by
  obtain⟨op,tx,v,ks⟩:=x
  exact z3y W op tx v ks z
 rw[e]
 have hl:=(show Low 1 (qh nm p W (ssK (lws W x.ks) z)) from(Low.emp 0).upd (by omega) _).drop (Nat.le_refl 1)
 rw[aP Qs _ _ _ rfl,Di]
 generalize ssK (lws W x.ks) z=z' at *
 simp only[qh,eJ,nvp,cK] at h0 hl ⊢
 simp -implicitDefEqProofs (disch:=first|assumption|omega) only[go_sem,simprocAttr,h0,hl]
theorem z7n(tx:ByteArray)(v:Int)(a b:ZB)(Ea:Mo nm p W a)(Bb:Xc nm p W b)(Ga:GrN W a)(Gb:GrN W b)(z:LS)(k:Int)(hs:z.bd k)(hk:k+8*((ZB.mk 4 tx v [a,b]).sz+1)≤1099511627775) :
  evCW tab vH [lp,(ZB.mk 4 tx v [a,b]).x] (qh nm p W z) 1=some (.tup [],qh nm p W (zQl (a.lw W) (b.lw W) z)):=by
 have hle:=tJ 4 tx v [a,b]
 rw[bO,bO,gC] at hle
 have ha:=a.sz_nn
 have hb:=b.sz_nn
 have g1:=Ea z k hs (by omega)
 have b1:=hs.gr (Ga.e z)
 unfold zQl
 generalize (a.lw W).e z=r at *
 obtain⟨r,z1⟩:=r
 simp only at g1 b1 ⊢
 have g2:=zw3 nm p W z1 (b1.mono (by omega))
 have b2:=pZ b1
 have g3:=lG nm p W z1.lab (b2.mono (by omega)) (dG r z1.m) rfl
 have b3:=dK b2 (dG r z1.m)
 have g4:=Bb _ _ b3 (by omega)
 have b4:=b3.gr (Gb.b (z1.lab.put (dG r z1.m)))
 have g5:=Ky nm p W _ (b4.mono (by omega)) z1.m
 generalize z1.lab.put (dG r z1.m)=z3 at *
 generalize (b.lw W).b z3=z4 at *
 generalize z4.put (a8 z1.m)=z5 at *
 generalize z1.lab=z2 at *
 rw[aP Mb _ _ _ rfl,Cs]
 simp only[qh,eJ,tX0,dG,a8,ZB.x,ZB.op_mk,ZB.tx_mk,ZB.v_mk,ZB.ks_mk] at g1 g2 g3 g4 g5 ⊢
 simp -implicitDefEqProofs (disch:=first|assumption|omega) only[go_sem,simprocAttr,g1,g2,g3,g4,g5,ZB.r_def,mc,mn,lc,ln,ZB.fzs,ZB.fzr,ZC.noR,ZD.noR]
theorem z6w(tx:ByteArray)(v:Int)(a b c:ZB)(Ea:Mo nm p W a)(Bb:Xc nm p W b)(Bc:Xc nm p W c)(Ga:GrN W a)(Gb:GrN W b)(Gc:GrN W c)(z:LS)(k:Int)(hs:z.bd k)(hk:k+8*((ZB.mk 4 tx v [a,b,c]).sz+1)≤1099511627775) :
  evCW tab vH [lp,(ZB.mk 4 tx v [a,b,c]).x] (qh nm p W z) 1=some (.tup [],qh nm p W (zQB (a.lw W) (b.lw W) (c.lw W) z)):=by
 have hle:=tJ 4 tx v [a,b,c]
 rw[bO,bO,bO,gC] at hle
 have ha:=a.sz_nn
 have hb:=b.sz_nn
 have hc:=c.sz_nn
 have g1:=Ea z k hs (by omega)
 have b1:=hs.gr (Ga.e z)
 unfold zQB zQt
 generalize (a.lw W).e z=r at *
 obtain⟨r,z1⟩:=r
 simp only at g1 b1 ⊢
 have g2:=zw3 nm p W z1 (b1.mono (by omega))
 have b2:=pZ b1
 have g3:=lG nm p W z1.lab (b2.mono (by omega)) (dG r z1.m) rfl
 have b3:=dK b2 (dG r z1.m)
 have g4:=Bb _ _ b3 (by omega)
 have b4:=b3.gr (Gb.b (z1.lab.put (dG r z1.m)))
 generalize z1.lab.put (dG r z1.m)=z3 at *
 generalize (b.lw W).b z3=z4 at *
 have g5:=zw3 nm p W z4 (b4.mono (by omega))
 have b5:=pZ b4
 have g6:=lG nm p W z4.lab (b5.mono (by omega)) (cW z4.m) rfl
 have b6:=dK b5 (cW z4.m)
 have g7:=Ky nm p W _ (b6.mono (by omega)) z1.m
 have b7:=dK b6 (a8 z1.m)
 have g8:=Bc _ _ b7 (by omega)
 have b8:=b7.gr (Gc.b ((z4.lab.put (cW z4.m)).put (a8 z1.m)))
 have g9:=Ky nm p W _ (b8.mono (by omega)) z4.m
 generalize (z4.lab.put (cW z4.m)).put (a8 z1.m)=z7 at *
 generalize (c.lw W).b z7=z8 at *
 generalize z8.put (a8 z4.m)=z9 at *
 generalize z4.lab.put (cW z4.m)=z6 at *
 generalize z4.lab=z5 at *
 generalize z1.lab=z2 at *
 rw[aP Mb _ _ _ rfl,Cs]
 simp only[qh,eJ,tX0,dG,a8,cW,ZB.x,ZB.op_mk,ZB.tx_mk,ZB.v_mk,ZB.ks_mk] at g1 g2 g3 g4 g5 g6 g7 g8 g9 ⊢
 simp -implicitDefEqProofs (disch:=first|assumption|omega) only[go_sem,simprocAttr,g1,g2,g3,g4,g5,g6,g7,g8,g9,ZB.r_def,mc,mn,lc,ln,ZB.fzs,ZB.fzr,ZC.noR,ZD.noR]
theorem zKn(tx:ByteArray)(v:Int)(a b:ZB)(Ea:Mo nm p W a)(Bb:Xc nm p W b)(Ga:GrN W a)(Gb:GrN W b)(z:LS)(k:Int)(hs:z.bd k)(hk:k+8*((ZB.mk 5 tx v [a,b]).sz+1)≤1099511627775) :
  evCW tab rB [lp,(ZB.mk 5 tx v [a,b]).x] (qh nm p W z) 1=some (.tup [],qh nm p W (whK (a.lw W) (b.lw W) z)):=by
 have hle:=tJ 5 tx v [a,b]
 rw[bO,bO,gC] at hle
 have ha:=a.sz_nn
 have hb:=b.sz_nn
 have g1:=zw3 nm p W z (hs.mono (by omega))
 have b1:=pZ hs
 have g2:=zw3 nm p W z.lab (b1.mono (by omega))
 have b2:=pZ b1
 have g3:=Ky nm p W z.lab.lab (b2.mono (by omega)) z.m
 have b3:=dK b2 (a8 z.m)
 have g4:=Ea _ _ b3 (by omega)
 have b4:=b3.gr (Ga.e (z.lab.lab.put (a8 z.m)))
 rw[show z.lab.lab.put (a8 z.m)=(z.lab.put (a8 z.m)).al 1 from rfl] at g3 g4 b4
 have em:=e_m (W:=W) a (z.lab.put (a8 z.m))
 rw[z1u] at g4 b4
 unfold whK whE
 rw[show(z.lab.put (a8 z.m)).m=z.m+1 from rfl] at em
 rw[show z.lab.m=z.m+1 from rfl] at g2
 generalize (a.lw W).e (z.lab.put (a8 z.m))=r at *
 obtain⟨r,z3⟩:=r
 simp only at g4 b4 em ⊢
 rw[show z3.al 1=z3.lab from rfl] at g4 b4
 rw[←em] at g2
 have g5:=lG nm p W z3.lab (b4.mono (by omega)) (dG r z3.m) rfl
 have b5:=dK b4 (dG r z3.m)
 have g6:=Bb _ _ b5 (by omega)
 have b6:=b5.gr (Gb.b (z3.lab.put (dG r z3.m)))
 have g7:=lG nm p W _ (b6.mono (by omega)) (cW z.m) rfl
 have b7:=dK b6 (cW z.m)
 have g8:=Ky nm p W _ (b7.mono (by omega)) z3.m
 generalize z3.lab.put (dG r z3.m)=z5 at *
 generalize (b.lw W).b z5=z6 at *
 generalize (z6.put (cW z.m)).put (a8 z3.m)=z8 at *
 generalize z6.put (cW z.m)=z7 at *
 generalize z3.lab=z4 at *
 generalize (z.lab.put (a8 z.m)).al 1=z2 at *
 generalize z.lab.lab=z9 at *
 generalize z.lab=z1 at *
 rw[aP P0 _ _ _ rfl,Dz]
 simp only[qh,eJ,tX0,dG,a8,cW,ZB.x,ZB.op_mk,ZB.tx_mk,ZB.v_mk,ZB.ks_mk] at g1 g2 g3 g4 g5 g6 g7 g8 ⊢
 simp -implicitDefEqProofs (disch:=first|assumption|omega) only[go_sem,simprocAttr,g1,g2,g3,g4,g5,g6,g7,g8,ZB.r_def,mc,mn,lc,ln,ZB.fzs,ZB.fzr,ZC.noR,ZD.noR]
end
set_option maxRecDepth 8000
set_option maxHeartbeats 16000000
section
variable(nm:ByteArray)(p:Int)(W:List ZC)(hW:W.length≤16777216)
theorem zZe(x:ZB)(hks:x.ks.length≤4)(H:∀y∈x.ks,CsOk (Mo nm p W) (Xc nm p W) W y):∀(Bl:List ZB) (j:Nat) (A:List Int) (N:Int) (z:LS) (k:Int),x.ks.drop j=Bl→A.length≤3*j→z.bd k→k+sAs Bl≤1099511627775 →
  loopW tab [0,3,4,5] eY {env:=upd (upd (upd (upd emp 5 (some (I (j:Int)))) 4 (some (.ptr (1,0) [] 0 0))) 3 (some (nvp x))) 0 (some lp),heap:=upd (qh nm p W z) (1,0) (some (tbx N A)),fr:=1,next:=1} =
   some (.ext 0,{env:=upd (upd (upd emp 4 (some (.ptr (1,0) [] 0 0))) 3 (some (nvp x))) 0 (some lp),heap:=upd (qh nm p W (caK (caL Bl W) A N z).2.2) (1,0) (some (tbx (caK (caL Bl W) A N z).2.1 (caK (caL Bl W) A N z).1)),fr:=1,next:=1})
 |[],j,A,N,z,k,hd,hA,hs,hk=>by
  have h1:=b9 (j:=(j:Int)) (by simpa using hd) (by omega)
  unfold loopW
  conv=>lhs;arg 1;unfold eY
  rw[show caL [] W=[] from rfl,caK]
  simp -implicitDefEqProofs (disch:=first|assumption|omega) only[go_sem,simprocAttr,h1,qh,eJ,nvp,tbx]
 |y::Bl,j,A,N,z,k,hd,hA,hs,hk=>by
  have h1:=bK (j:=(j:Int)) (by simpa using hd) (by omega)
  have h5:=h1.2.1
  have h2:=eK ZB.r h1.1
  rw[ZB.r_def,Int.toNat_natCast] at h2
  rw[sAs] at hk
  have hj:j≤3:=by omega
  have hkn:=(sAD Bl).2.1
  have hkA:=kAD y
  have hy:=H y h1.2.2.2.1
  have gA:=hy.gr.a z
  have ih:=fun A N z k=>zZe x hks H Bl (j+1) A N z k (by have:=h1.2.2.1;simpa using this)
  rw[show(((j+1:Nat)):Int)=(j:Int)+1 by omega] at ih
  rw[show caL (y::Bl) W=(y.op,y.lw W)::caL Bl W from rfl,caK]
  obtain⟨op,tx,v,ks⟩:=y
  have hkd:=hy.kd
  have hsh:=hy.sh
  simp only[ZB.ks_mk,ZB.op_mk,ZB.tx_mk,ZB.v_mk] at *
  rw[z4v] at gA ⊢
  cases hsh with
  |tak ha hb =>
   rename_i a b
   have g0:=(hkd a (by simp)).1 ha z k hs (by have:=a.sz_nn;have:=b.sz_nn;unfold kA at *;simp only[ZB.ks_mk,List.dropLast_cons_cons,List.dropLast_singleton,bO,gC] at *;omega)
   simp only[lws,mc,mn,List.dropLast_cons_cons,List.dropLast_singleton,esK,ix,List.getD_cons_zero,if_true] at gA ⊢
   have ih':=ih (A++[1,((a.lw W).e z).1,0]) N ((a.lw W).e z).2 _ (by simp only[la,lc,ln];omega) (hs.gr gA) (by omega)
   rw[←ih']
   conv=>lhs;unfold loopW;arg 1;unfold eY
   simp only[qh,eJ,tbx,nvp,L4] at g0 ⊢
   generalize (a.lw W).e z=r at *
   simp only[show bB [1,r.1,0]=[[DI 1],[DI r.1],[DI 0]] from rfl,ZB.r_def,mc,mn] at h2 ⊢
   simp -implicitDefEqProofs (disch:=first|assumption|omega|(simp only[aE,aQ,aD,i64,sa,aC,lm,la,lc,ln];omega)) only[go_sem,simprocAttr,h5,h2,g0,ZB.fzs,ZB.fzr,ZC.noR,ZD.noR,wT]
  |giv ha hb hc =>
   rename_i a b c
   have hb1:=a.sz_nn
   have hb2:=b.sz_nn
   have hka:kA (ZB.mk 33 tx v [a,b,c])=8*(a.sz+1)+(8*(b.sz+1)+0):=by
    unfold kA
    simp only[ZB.ks_mk,List.dropLast_cons_cons,List.dropLast_singleton,bO,gC]
   have g0:=(hkd a (by simp)).1 ha z k hs (by omega)
   have b0:=hs.gr ((hkd a (by simp)).2.2.e z)
   have g1:=(hkd b (by simp)).1 hb ((a.lw W).e z).2 _ b0 (by omega)
   simp only[lws,mc,mn,List.dropLast_cons_cons,List.dropLast_singleton,esK,Int.reduceEq,if_false,if_true,ix,List.getD_cons_zero,List.getD_cons_succ] at gA ⊢
   have ih':=ih (A++[2,((a.lw W).e z).1,((b.lw W).e ((a.lw W).e z).2).1]) N ((b.lw W).e ((a.lw W).e z).2).2 _ (by simp only[la,lc,ln];omega) (hs.gr gA) (by omega)
   rw[←ih']
   conv=>lhs;unfold loopW;arg 1;unfold eY
   simp only[qh,eJ,tbx,nvp,L4] at g0 g1 ⊢
   generalize (b.lw W).e ((a.lw W).e z).2=r2 at *
   generalize (a.lw W).e z=r at *
   simp only[show bB [2,r.1,r2.1]=[[DI 2],[DI r.1],[DI r2.1]] from rfl,ZB.r_def,mc,mn] at h2 ⊢
   simp -implicitDefEqProofs (disch:=first|assumption|omega|(simp only[aE,aQ,aD,i64,sa,aC,lm,la,lc,ln];omega)) only[go_sem,simprocAttr,h5,h2,g0,g1,ZB.fzs,ZB.fzr,ZC.noR,ZD.noR,wT,lc,ln]
  |els hb =>
   rename_i b
   simp only[Int.reduceEq,if_false]
   have ih':=ih A 1 z k (by omega) hs (by omega)
   rw[←ih']
   conv=>lhs;unfold loopW;arg 1;unfold eY
   simp only[qh,eJ,tbx,nvp] at ⊢
   simp -implicitDefEqProofs (disch:=first|assumption|omega|(simp only[aE,aQ,aD,i64,sa,aC,lm,la,lc,ln];omega)) only[go_sem,simprocAttr,h5,h2,ZB.fzs,ZB.fzr,ZC.noR,ZD.noR]
include hW in
theorem zxV(x:ZB)(hks:x.ks.length≤4)(H:∀y∈x.ks,CsOk (Mo nm p W) (Xc nm p W) W y)(D0 B0 N E0:Int):∀(Bl:List ZB) (j:Nat) (z:LS) (k:Int),x.ks.drop j=Bl→z.bd k→k+sDs Bl≤1099511627775 →
  loopW tab [0,3,4,9,10] e9 {env:=upd (upd (upd (upd (upd emp 10 (some (I (j:Int)))) 9 (some (I E0))) 4 (some (.ptr (1,0) [] 0 0))) 3 (some (nvp x))) 0 (some lp),heap:=upd (qh nm p W z) (1,0) (some (tby D0 B0 N)),fr:=1,next:=1} =
   some (.ext 3,{env:=upd (upd emp 9 (some (I E0))) 0 (some lp),heap:=qh nm p W (cbK W D0 B0 E0 j (cbL Bl W) z),fr:=1,next:=0})
 |[],j,z,k,hd,hs,hk=>by
  have h1:=b9 (j:=(j:Int)) (by simpa using hd) (by omega)
  unfold loopW
  conv=>lhs;arg 1;unfold e9
  rw[show cbL [] W=[] from rfl,cbK]
  simp -implicitDefEqProofs (disch:=first|assumption|omega) only[go_sem,simprocAttr,h1,qh,eJ,tby,nvp]
 |y::Bl,j,z,k,hd,hs,hk=>by
  have h1:=bK (j:=(j:Int)) (by simpa using hd) (by omega)
  have h5:=h1.2.1
  have h2:=eK ZB.r h1.1
  rw[ZB.r_def,Int.toNat_natCast] at h2
  rw[sDs] at hk
  have hkn:=(sAD Bl).2.2
  have hkA:=kAD y
  have hy:=H y h1.2.2.2.1
  have ih:=fun z k=>zxV x hks H D0 B0 N E0 Bl (j+1) z k (by have:=h1.2.2.1;simpa using this)
  rw[show(((j+1:Nat)):Int)=(j:Int)+1 by omega] at ih
  rw[show cbL (y::Bl) W=(y.op,y.tx,y.lw W)::cbL Bl W from rfl,cbK]
  have g1:=z4E nm p W z (hs.mono (by omega)) j
  have b1:=Gq hs (eQ j)
  have g2:=zJd nm p W (z.set (eQ j)) (b1.mono (by omega))
  have g2b:=lG nm p W (z.set (eQ j)).reg (Rt (b1.mono (by omega))) {kV D0 z.n with fD:=(z.set (eQ j)).n} rfl
  rw[show(z.set (eQ j)).reg.put {kV D0 z.n with fD:=(z.set (eQ j)).n}=(z.set (eQ j)).set (kV D0 z.n) from rfl] at g2b
  have b2:=Gq b1 (kV D0 z.n)
  have g3:=zw3 nm p W ((z.set (eQ j)).set (kV D0 z.n)) (b2.mono (by omega))
  have b3:=pZ b2
  have g4:=lG nm p W (((z.set (eQ j)).set (kV D0 z.n)).lab) (b3.mono (by omega)) (dG (z.n+1) z.m) rfl
  have b4:=dK b3 (dG (z.n+1) z.m)
  rw[show(((z.set (eQ j)).set (kV D0 z.n)).lab).put (dG (z.n+1) z.m)=cb1 j D0 z from rfl] at g4 b4
  rw[show(z.set (eQ j)).n=z.n+1 from rfl] at g2 g2b
  rw[show((z.set (eQ j)).set (kV D0 z.n)).m=z.m from rfl] at g3
  generalize hc1:cb1 j D0 z=z4 at *
  generalize ((z.set (eQ j)).set (kV D0 z.n)).lab=z3 at *
  generalize (z.set (eQ j)).set (kV D0 z.n)=z2 at *
  generalize (z.set (eQ j)).reg=z1r at *
  generalize z.set (eQ j)=z1 at *
  obtain⟨op,tx,v,ks⟩:=y
  have hkd:=hy.kd
  have hsh:=hy.sh
  have gD:=hy.gr.d
  simp only[ZB.ks_mk,ZB.op_mk,ZB.tx_mk,ZB.v_mk] at *
  have ed:∀(q:ZB) (q0:LS),(lws W ks).getLast? = some (q.lw W)→((ZB.mk op tx v ks).lw W).d q0=(q.lw W).b q0:=fun q q0 e=>by rw[z48,e]
  have kb:∀(q:ZB),ks.getLast? = some q→∀(l0:List ZB),ks=l0++[q]→8*(q.sz+1)≤kD (ZB.mk op tx v ks):=fun q _ l0 e=>by
   unfold kD
   simp only[ZB.ks_mk]
   rw[e,List.dropLast_concat,zjK,bO,gC]
   omega
  cases hsh with
  |tak ha hb =>
   rename_i a b
   have e0:=ed b
   have hbk:=kb b rfl [a] rfl
   simp only[Int.reduceEq,if_true]
   have g5:=z9v nm p W z4 hW (b4.mono (by omega)) tx B0
   have b5:=dK b4 (d7 (fx W tx) B0)
   generalize z4.put (d7 (fx W tx) B0)=z5 at *
   have g6:=(hkd b (by simp)).2.1 hb z5 _ b5 (by omega)
   have b6:=b5.gr (gD z5)
   rw[e0 z5 rfl] at b6 ⊢
   generalize (b.lw W).b z5=z6 at *
   have g7:=lG nm p W z6 (b6.mono (by omega)) (cW E0) rfl
   have b7:=dK b6 (cW E0)
   generalize z6.put (cW E0)=z7 at *
   have g8:=Ky nm p W z7 (b7.mono (by omega)) z.m
   have b8:=dK b7 (a8 z.m)
   have ih':=ih (z7.put (a8 z.m)) _ b8 (by omega)
   generalize z7.put (a8 z.m)=z8 at *
   rw[←ih']
   conv=>lhs;unfold loopW;arg 1;unfold e9
   simp only[qh,eJ,nvp,tby,tX0,eQ,kV,dG,cW,a8,ZB.r_def,mc,mn] at h2 g1 g2 g2b g3 g4 g5 g6 g7 g8 ⊢
   simp -implicitDefEqProofs (disch:=first|assumption|omega|(simp only[aE,aQ,aD,i64,sa,aC,lm,la,lc,ln];omega)) only[go_sem,simprocAttr,h5,h2,g1,g2,g2b,g3,g4,g5,g6,g7,g8,ZB.fzs,ZB.fzr,ZC.noR,ZD.noR,lc,ln]
  |giv ha hb hc =>
   rename_i a b c
   have e0:=ed c
   have hbk:=kb c rfl [a,b] rfl
   simp only[Int.reduceEq,if_false]
   have b5:=b4
   have g6:=(hkd c (by simp)).2.1 hc z4 _ b5 (by omega)
   have b6:=b5.gr (gD z4)
   rw[e0 z4 rfl] at b6 ⊢
   generalize (c.lw W).b z4=z6 at *
   have g7:=lG nm p W z6 (b6.mono (by omega)) (cW E0) rfl
   have b7:=dK b6 (cW E0)
   generalize z6.put (cW E0)=z7 at *
   have g8:=Ky nm p W z7 (b7.mono (by omega)) z.m
   have b8:=dK b7 (a8 z.m)
   have ih':=ih (z7.put (a8 z.m)) _ b8 (by omega)
   generalize z7.put (a8 z.m)=z8 at *
   rw[←ih']
   conv=>lhs;unfold loopW;arg 1;unfold e9
   simp only[qh,eJ,nvp,tby,tX0,eQ,kV,dG,cW,a8,ZB.r_def,mc,mn] at h2 g1 g2 g2b g3 g4 g6 g7 g8 ⊢
   simp -implicitDefEqProofs (disch:=first|assumption|omega|(simp only[aE,aQ,aD,i64,sa,aC,lm,la,lc,ln];omega)) only[go_sem,simprocAttr,h5,h2,g1,g2,g2b,g3,g4,g6,g7,g8,ZB.fzs,ZB.fzr,ZC.noR,ZD.noR,lc,ln]
  |els hb =>
   rename_i b
   have e0:=ed b
   have hbk:=kb b rfl [] rfl
   simp only[Int.reduceEq,if_false]
   have b5:=b4
   have g6:=(hkd b (by simp)).2.1 hb z4 _ b5 (by omega)
   have b6:=b5.gr (gD z4)
   rw[e0 z4 rfl] at b6 ⊢
   generalize (b.lw W).b z4=z6 at *
   have g7:=lG nm p W z6 (b6.mono (by omega)) (cW E0) rfl
   have b7:=dK b6 (cW E0)
   generalize z6.put (cW E0)=z7 at *
   have g8:=Ky nm p W z7 (b7.mono (by omega)) z.m
   have b8:=dK b7 (a8 z.m)
   have ih':=ih (z7.put (a8 z.m)) _ b8 (by omega)
   generalize z7.put (a8 z.m)=z8 at *
   rw[←ih']
   conv=>lhs;unfold loopW;arg 1;unfold e9
   simp only[qh,eJ,nvp,tby,tX0,eQ,kV,dG,cW,a8,ZB.r_def,mc,mn] at h2 g1 g2 g2b g3 g4 g6 g7 g8 ⊢
   simp -implicitDefEqProofs (disch:=first|assumption|omega|(simp only[aE,aQ,aD,i64,sa,aC,lm,la,lc,ln];omega)) only[go_sem,simprocAttr,h5,h2,g1,g2,g2b,g3,g4,g6,g7,g8,ZB.fzs,ZB.fzr,ZC.noR,ZD.noR,lc,ln]
include hW in
theorem zvY(tx:ByteArray)(v:Int)(ks:List ZB)(hks:ks.length≤4)(H:∀y∈ks,CsOk (Mo nm p W) (Xc nm p W) W y)(z:LS)(k:Int)(hs:z.bd k)(hk:k+kK ks≤1099511627767) :
  evCW tab pN [lp,(ZB.mk 12 tx v ks).x] (qh nm p W z) 1=some (.tup [],qh nm p W (zy1 W (cbL ks W) z)):=by
 have hsum:=sAD ks
 have h0:=zZe nm p W (.mk 12 tx v ks) hks H ks 0 [] 0 z k rfl (by simp) hs (by omega)
 have hl:=Hf (caL ks W) [] 0 z
 have b1:=hs.gr (zzO (fun y hy=>(H y hy).gr) [] 0 z)
 unfold zy1
 simp only[List.map_map]
 rw[show((fun k:Int×ByteArray×LW=>(k.1,k.2.2)) ∘ fun k:ZB=>(k.op,k.tx,k.lw W))=fun k:ZB=>(k.op,k.lw W) from rfl]
 generalize caK (ks.map fun k=>(k.op,k.lw W)) [] 0 z=r at *
 obtain⟨A,N,z1⟩:=r
 simp only at h0 hl b1 ⊢
 have g1:=zJd nm p W z1 (b1.mono (by omega))
 have b2:=zzD b1
 have g2:=zJd nm p W z1.reg (b2.mono (by omega))
 have b3:=zzD b2
 rw[show z1.reg.n=z1.n+1 from rfl] at g2
 have g3:=zwr nm p W z1.reg.reg (b3.mono (by omega)) (A3 z1.n (z1.n+1) N A)
 have b4:=dK b3 (A3 z1.n (z1.n+1) N A)
 have g4:=zw3 nm p W (z1.reg.reg.put (A3 z1.n (z1.n+1) N A)) (b4.mono (by omega))
 have b5:=pZ b4
 rw[show(z1.reg.reg.put (A3 z1.n (z1.n+1) N A)).m=z1.m from rfl] at g4
 have h1:=zxV nm p W hW (.mk 12 tx v ks) hks H z1.n (z1.n+1) N z1.m ks 0 _ _ rfl b5 (by omega)
 have b6:=b5.gr (zz7 (W:=W) z1.n (z1.n+1) z1.m (fun y hy=>(H y hy).gr) 0 (z1.reg.reg.put (A3 z1.n (z1.n+1) N A)).lab)
 rw[cK] at h1
 have g6:=Ky nm p W _ (b6.mono (by omega)) z1.m
 generalize cbK W z1.n (z1.n+1) z1.m 0 (ks.map fun k=>(k.op,k.tx,k.lw W)) (z1.reg.reg.put (A3 z1.n (z1.n+1) N A)).lab=z6 at *
 generalize (z1.reg.reg.put (A3 z1.n (z1.n+1) N A)).lab=z5 at *
 generalize z1.reg.reg.put (A3 z1.n (z1.n+1) N A)=z4 at *
 generalize z1.reg.reg=z3 at *
 generalize z1.reg=z2 at *
 generalize z6.put (a8 z1.m)=z7 at *
 rw[aP My _ _ _ rfl,Ak]
 simp only[qh,qhl,eJ,tbx,tby,nvp,tX0,tXl,A3,a8,cK,show bB []=[] from rfl,ZB.x,ZB.op_mk,ZB.tx_mk,ZB.v_mk,ZB.ks_mk] at h0 h1 g1 g2 g3 g4 g6 ⊢
 simp -implicitDefEqProofs (disch:=first|assumption|omega|(simp only[aE,aQ,aD,i64,sa,aC,lm,la,lc,ln];omega)) only[go_sem,simprocAttr,h0,h1,g1,g2,g3,g4,g6,ZB.fzs,ZB.fzr,ZC.noR,ZD.noR,uK]
end
set_option maxRecDepth 8000
set_option maxHeartbeats 16000000
theorem Hk(op:Int)(h:op=9∨op=13∨op=14∨op=15):call tab Es [I op]=some (I (rU op)):=by
 rw[aJ Xk _ rfl,I0]
 rcases h with rfl|rfl|rfl|rfl<;>simp only[rU,Int.reduceEq,if_true,if_false]<;>simp -implicitDefEqProofs (disch:=first|assumption|omega) only[go_sem,simprocAttr]
theorem zW(op:Int)(h:op=6∨op=7∨op=11∨op=16∨op=17):call tab Ff [I op]=some (I (rU op)):=by
 rw[aJ Ys _ rfl,Jb]
 rcases h with rfl|rfl|rfl|rfl|rfl<;>simp only[rU,Int.reduceEq,if_true,if_false]<;>simp -implicitDefEqProofs (disch:=first|assumption|omega) only[go_sem,simprocAttr]
section
variable(nm:ByteArray)(p:Int)(W:List ZC)(hW:W.length≤16777216)
include hW in
theorem zQs(op:Int)(tx:ByteArray)(v:Int)(ks:List ZB)(hks:ks.length≤1048576)(hsh:Sh 1 (.mk op tx v ks))(h4:op≠4)(h5:op≠5)(h12:op≠12)(H:∀y∈ks,Mo nm p W y)(HG:∀y∈ks,GrN W y):z87 nm p W (.mk op tx v ks):=by
 intro z k hs hk
 have hle:=tJ op tx v ks
 rw[z55 W op tx v ks z h4 h5 h12]
 cases hsh with
 |st1 h a =>
  rename_i y
  rw[bO,gC] at hle
  have hyn:=y.sz_nn
  have g0:=H y (by simp) z k hs (by omega)
  have b0:=hs.gr ((HG y (by simp)).e z)
  have gr:=zJd nm p W ((y.lw W).e z).2 (b0.mono (by omega))
  have gl:=fun t ht=>lG nm p W ((y.lw W).e z).2 (b0.mono (by omega)) t ht
  have gs:=fun (t:ZD) ht=>lG nm p W ((y.lw W).e z).2.reg (Rt (b0.mono (by omega))) {t with fD:=((y.lw W).e z).2.n} ht
  have gc:=fun tx r=>z9v nm p W ((y.lw W).e z).2 hW (b0.mono (by omega)) tx r
  have gc2:=fun t tx r=>z9v nm p W (((y.lw W).e z).2.set t) hW ((Gq b0 t).mono (by omega)) tx r
  rw[show esK (lws W [y]) z=([((y.lw W).e z).1],((y.lw W).e z).2) from rfl]
  rw[aP jF _ _ _ rfl,gZ]
  generalize (y.lw W).e z=r at *
  obtain⟨a0,z'⟩:=r
  simp only at g0 gr gl gs gc gc2 ⊢
  rcases h with rfl|rfl|rfl|rfl|rfl|rfl|rfl|rfl|rfl
  ·have g1:=gc tx a0
   simp only[stE,ix,List.getD_cons_zero,List.getD_cons_succ,Int.reduceEq,true_or,or_true,or_false,or_self,if_true,if_false,lc,ln,Nat.reduceAdd,Nat.reduceEqDiff,Nat.zero_add,esK,lws,mc,mn,tX0,tXl,cC,tGo,fO,d7,qh,qhl,eJ,bB,ZB.x,ZB.op_mk,ZB.tx_mk,ZB.v_mk,ZB.ks_mk] at g0 g1 ⊢
   simp -implicitDefEqProofs (disch:=first|assumption|omega) only[go_sem,simprocAttr,g0,g1,ZB.r_def,ZB.fzs,ZB.fzr,ZC.noR,ZD.noR,lm]
  ·have g1:=gc tx a0
   simp only[stE,ix,List.getD_cons_zero,List.getD_cons_succ,Int.reduceEq,true_or,or_true,or_false,or_self,if_true,if_false,lc,ln,Nat.reduceAdd,Nat.reduceEqDiff,Nat.zero_add,esK,lws,mc,mn,tX0,tXl,cC,tGo,fO,d7,qh,qhl,eJ,bB,ZB.x,ZB.op_mk,ZB.tx_mk,ZB.v_mk,ZB.ks_mk] at g0 g1 ⊢
   simp -implicitDefEqProofs (disch:=first|assumption|omega) only[go_sem,simprocAttr,g0,g1,ZB.r_def,ZB.fzs,ZB.fzr,ZC.noR,ZD.noR,lm]
  ·have gp:=zW 6 (by simp)
   have g1:=gl (cC (rU 6) a0 0) rfl
   simp only[stE,ix,List.getD_cons_zero,List.getD_cons_succ,Int.reduceEq,true_or,or_true,or_false,or_self,if_true,if_false,lc,ln,Nat.reduceAdd,Nat.reduceEqDiff,Nat.zero_add,esK,lws,mc,mn,tX0,tXl,cC,tGo,fO,d7,qh,qhl,eJ,bB,ZB.x,ZB.op_mk,ZB.tx_mk,ZB.v_mk,ZB.ks_mk] at g0 g1 ⊢
   simp -implicitDefEqProofs (disch:=first|assumption|omega) only[go_sem,simprocAttr,g0,g1,gp,ZB.r_def,ZB.fzs,ZB.fzr,ZC.noR,ZD.noR,lm]
  ·have gp:=zW 7 (by simp)
   have g1:=gl (cC (rU 7) a0 0) rfl
   simp only[stE,ix,List.getD_cons_zero,List.getD_cons_succ,Int.reduceEq,true_or,or_true,or_false,or_self,if_true,if_false,lc,ln,Nat.reduceAdd,Nat.reduceEqDiff,Nat.zero_add,esK,lws,mc,mn,tX0,tXl,cC,tGo,fO,d7,qh,qhl,eJ,bB,ZB.x,ZB.op_mk,ZB.tx_mk,ZB.v_mk,ZB.ks_mk] at g0 g1 ⊢
   simp -implicitDefEqProofs (disch:=first|assumption|omega) only[go_sem,simprocAttr,g0,g1,gp,ZB.r_def,ZB.fzs,ZB.fzr,ZC.noR,ZD.noR,lm]
  ·have g1:=gs (fO a0) rfl
   rw[show z'.reg.put {fO a0 with fD:=z'.n}=z'.set (fO a0) from rfl] at g1
   have g2:=gc2 (fO a0) tx z'.n
   simp only[stE,Int.reduceEq,or_false,or_self,if_true,if_false,ix,List.getD_cons_zero] at ⊢
   generalize (z'.set (fO a0)).put (d7 (fx W tx) z'.n)=z3 at *
   generalize z'.set (fO a0)=z2 at *
   generalize z'.reg=z1 at *
   simp only[List.getD_cons_zero,List.getD_cons_succ,Int.reduceEq,true_or,or_true,or_false,or_self,if_true,if_false,lc,ln,Nat.reduceAdd,Nat.reduceEqDiff,Nat.zero_add,esK,lws,mc,mn,tX0,tXl,cC,tGo,fO,d7,qh,qhl,eJ,bB,ZB.x,ZB.op_mk,ZB.tx_mk,ZB.v_mk,ZB.ks_mk] at g0 gr g1 g2 ⊢
   simp -implicitDefEqProofs (disch:=first|assumption|omega) only[go_sem,simprocAttr,g0,gr,g1,g2,ZB.r_def,ZB.fzs,ZB.fzr,ZC.noR,ZD.noR,lm]
  ·have gp:=zW 11 (by simp)
   have g1:=gl (cC (rU 11) a0 0) rfl
   simp only[stE,ix,List.getD_cons_zero,List.getD_cons_succ,Int.reduceEq,true_or,or_true,or_false,or_self,if_true,if_false,lc,ln,Nat.reduceAdd,Nat.reduceEqDiff,Nat.zero_add,esK,lws,mc,mn,tX0,tXl,cC,tGo,fO,d7,qh,qhl,eJ,bB,ZB.x,ZB.op_mk,ZB.tx_mk,ZB.v_mk,ZB.ks_mk] at g0 g1 ⊢
   simp -implicitDefEqProofs (disch:=first|assumption|omega) only[go_sem,simprocAttr,g0,g1,gp,ZB.r_def,ZB.fzs,ZB.fzr,ZC.noR,ZD.noR,lm]
  ·have gp:=zW 16 (by simp)
   have g1:=gl (cC (rU 16) a0 0) rfl
   simp only[stE,ix,List.getD_cons_zero,List.getD_cons_succ,Int.reduceEq,true_or,or_true,or_false,or_self,if_true,if_false,lc,ln,Nat.reduceAdd,Nat.reduceEqDiff,Nat.zero_add,esK,lws,mc,mn,tX0,tXl,cC,tGo,fO,d7,qh,qhl,eJ,bB,ZB.x,ZB.op_mk,ZB.tx_mk,ZB.v_mk,ZB.ks_mk] at g0 g1 ⊢
   simp -implicitDefEqProofs (disch:=first|assumption|omega) only[go_sem,simprocAttr,g0,g1,gp,ZB.r_def,ZB.fzs,ZB.fzr,ZC.noR,ZD.noR,lm]
  ·have gp:=zW 17 (by simp)
   have g1:=gl (cC (rU 17) a0 0) rfl
   simp only[stE,ix,List.getD_cons_zero,List.getD_cons_succ,Int.reduceEq,true_or,or_true,or_false,or_self,if_true,if_false,lc,ln,Nat.reduceAdd,Nat.reduceEqDiff,Nat.zero_add,esK,lws,mc,mn,tX0,tXl,cC,tGo,fO,d7,qh,qhl,eJ,bB,ZB.x,ZB.op_mk,ZB.tx_mk,ZB.v_mk,ZB.ks_mk] at g0 g1 ⊢
   simp -implicitDefEqProofs (disch:=first|assumption|omega) only[go_sem,simprocAttr,g0,g1,gp,ZB.r_def,ZB.fzs,ZB.fzr,ZC.noR,ZD.noR,lm]
  ·simp only[stE,ix,List.getD_cons_zero,List.getD_cons_succ,Int.reduceEq,true_or,or_true,or_false,or_self,if_true,if_false,lc,ln,Nat.reduceAdd,Nat.reduceEqDiff,Nat.zero_add,esK,lws,mc,mn,tX0,tXl,cC,tGo,fO,d7,qh,qhl,eJ,bB,ZB.x,ZB.op_mk,ZB.tx_mk,ZB.v_mk,ZB.ks_mk] at g0 ⊢
   simp -implicitDefEqProofs (disch:=first|assumption|omega) only[go_sem,simprocAttr,g0,ZB.r_def,ZB.fzs,ZB.fzr,ZC.noR,ZD.noR,lm]
 |st2 h a b =>
  rename_i y y'
  rw[bO,bO,gC] at hle
  have hyn:=y.sz_nn
  have hyn':=y'.sz_nn
  have g0:=H y (by simp) z k hs (by omega)
  have b0:=hs.gr ((HG y (by simp)).e z)
  have g0':=H y' (by simp) _ _ b0 (by omega)
  have b1:=b0.gr ((HG y' (by simp)).e ((y.lw W).e z).2)
  rw[show esK (lws W [y,y']) z=([((y.lw W).e z).1,((y'.lw W).e ((y.lw W).e z).2).1],((y'.lw W).e ((y.lw W).e z).2).2) from rfl]
  generalize (y.lw W).e z=r at *
  obtain⟨a0,z1⟩:=r
  simp only at g0 g0' b0 b1 ⊢
  have gl:=fun t ht=>lG nm p W ((y'.lw W).e z1).2 (b1.mono (by omega)) t ht
  rw[aP jF _ _ _ rfl,gZ]
  generalize (y'.lw W).e z1=r at *
  obtain⟨a1,z'⟩:=r
  simp only at g0' gl ⊢
  rcases h with rfl|rfl|rfl|rfl
  ·have gp:=Hk 9 (by simp)
   have g1:=gl (cC (rU 9) a0 a1) rfl
   simp only[stE,ix,List.getD_cons_zero,List.getD_cons_succ,Int.reduceEq,true_or,or_true,or_false,or_self,if_true,if_false,lc,ln,Nat.reduceAdd,Nat.reduceEqDiff,Nat.zero_add,esK,lws,mc,mn,tX0,tXl,cC,tGo,fO,d7,qh,qhl,eJ,bB,ZB.x,ZB.op_mk,ZB.tx_mk,ZB.v_mk,ZB.ks_mk] at g0 g0' g1 ⊢
   simp -implicitDefEqProofs (disch:=first|assumption|omega) only[go_sem,simprocAttr,g0,g0',g1,gp,ZB.r_def,ZB.fzs,ZB.fzr,ZC.noR,ZD.noR,lm]
  ·have gp:=Hk 13 (by simp)
   have g1:=gl (cC (rU 13) a0 a1) rfl
   simp only[stE,ix,List.getD_cons_zero,List.getD_cons_succ,Int.reduceEq,true_or,or_true,or_false,or_self,if_true,if_false,lc,ln,Nat.reduceAdd,Nat.reduceEqDiff,Nat.zero_add,esK,lws,mc,mn,tX0,tXl,cC,tGo,fO,d7,qh,qhl,eJ,bB,ZB.x,ZB.op_mk,ZB.tx_mk,ZB.v_mk,ZB.ks_mk] at g0 g0' g1 ⊢
   simp -implicitDefEqProofs (disch:=first|assumption|omega) only[go_sem,simprocAttr,g0,g0',g1,gp,ZB.r_def,ZB.fzs,ZB.fzr,ZC.noR,ZD.noR,lm]
  ·have gp:=Hk 14 (by simp)
   have g1:=gl (cC (rU 14) a0 a1) rfl
   simp only[stE,ix,List.getD_cons_zero,List.getD_cons_succ,Int.reduceEq,true_or,or_true,or_false,or_self,if_true,if_false,lc,ln,Nat.reduceAdd,Nat.reduceEqDiff,Nat.zero_add,esK,lws,mc,mn,tX0,tXl,cC,tGo,fO,d7,qh,qhl,eJ,bB,ZB.x,ZB.op_mk,ZB.tx_mk,ZB.v_mk,ZB.ks_mk] at g0 g0' g1 ⊢
   simp -implicitDefEqProofs (disch:=first|assumption|omega) only[go_sem,simprocAttr,g0,g0',g1,gp,ZB.r_def,ZB.fzs,ZB.fzr,ZC.noR,ZD.noR,lm]
  ·have gp:=Hk 15 (by simp)
   have g1:=gl (cC (rU 15) a0 a1) rfl
   simp only[stE,ix,List.getD_cons_zero,List.getD_cons_succ,Int.reduceEq,true_or,or_true,or_false,or_self,if_true,if_false,lc,ln,Nat.reduceAdd,Nat.reduceEqDiff,Nat.zero_add,esK,lws,mc,mn,tX0,tXl,cC,tGo,fO,d7,qh,qhl,eJ,bB,ZB.x,ZB.op_mk,ZB.tx_mk,ZB.v_mk,ZB.ks_mk] at g0 g0' g1 ⊢
   simp -implicitDefEqProofs (disch:=first|assumption|omega) only[go_sem,simprocAttr,g0,g0',g1,gp,ZB.r_def,ZB.fzs,ZB.fzr,ZC.noR,ZD.noR,lm]
 |go_ h =>
  have g0:=Z4 nm p W ks hks H HG z k hs (by omega)
  have hbd:=hs.gr (Kk HG z)
  have gl:=fun t=>zwr nm p W (esK (lws W ks) z).2 (hbd.mono (by omega)) t
  rw[aP jF _ _ _ rfl,gZ]
  generalize esK (lws W ks) z=r at *
  obtain⟨as,z'⟩:=r
  simp only at g0 gl ⊢
  have g1:=gl (tGo tx as)
  simp only[stE,ix,Int.reduceEq,or_false,or_self,if_true,if_false,tXl,tGo,qh,qhl,eJ,ZB.x,ZB.op_mk,ZB.tx_mk,ZB.v_mk,ZB.ks_mk] at g0 g1 ⊢
  simp -implicitDefEqProofs (disch:=first|assumption|omega) only[go_sem,simprocAttr,g0,g1,ZC.noR,ZD.noR,uK]
 |if1 _ _=>exact absurd rfl h4
 |if2 _ _ _=>exact absurd rfl h4
 |whl _ _=>exact absurd rfl h5
 |sel _=>exact absurd rfl h12
theorem zq4(tx:ByteArray)(v:Int)(ks:List ZB)(z z':LS)(g:evCW tab vH [lp,(ZB.mk 4 tx v ks).x] (qh nm p W z) 1=some (.tup [],qh nm p W z')):evCW tab m8 [lp,(ZB.mk 4 tx v ks).x] (qh nm p W z) 1=some (.tup [],qh nm p W z'):=by
 rw[aP jF _ _ _ rfl,gZ]
 simp only[qh,eJ,ZB.x,ZB.op_mk,ZB.tx_mk,ZB.v_mk,ZB.ks_mk] at g ⊢
 simp -implicitDefEqProofs (disch:=first|assumption|omega) only[go_sem,simprocAttr,g,ZB.fzs,ZB.fzr,ZC.noR,ZD.noR]
theorem zvK(tx:ByteArray)(v:Int)(ks:List ZB)(z z':LS)(g:evCW tab rB [lp,(ZB.mk 5 tx v ks).x] (qh nm p W z) 1=some (.tup [],qh nm p W z')):evCW tab m8 [lp,(ZB.mk 5 tx v ks).x] (qh nm p W z) 1=some (.tup [],qh nm p W z'):=by
 rw[aP jF _ _ _ rfl,gZ]
 simp only[qh,eJ,ZB.x,ZB.op_mk,ZB.tx_mk,ZB.v_mk,ZB.ks_mk] at g ⊢
 simp -implicitDefEqProofs (disch:=first|assumption|omega) only[go_sem,simprocAttr,g,ZB.fzs,ZB.fzr,ZC.noR,ZD.noR]
theorem zjJ(tx:ByteArray)(v:Int)(ks:List ZB)(z z':LS)(g:evCW tab pN [lp,(ZB.mk 12 tx v ks).x] (qh nm p W z) 1=some (.tup [],qh nm p W z')):evCW tab m8 [lp,(ZB.mk 12 tx v ks).x] (qh nm p W z) 1=some (.tup [],qh nm p W z'):=by
 rw[aP jF _ _ _ rfl,gZ]
 simp only[qh,eJ,ZB.x,ZB.op_mk,ZB.tx_mk,ZB.v_mk,ZB.ks_mk] at g ⊢
 simp -implicitDefEqProofs (disch:=first|assumption|omega) only[go_sem,simprocAttr,g,ZB.fzs,ZB.fzr,ZC.noR,ZD.noR]
structure QwOk (y:ZB):Prop where
 e:Sh 0 y→Mo nm p W y
 s:Sh 1 y→z87 nm p W y
 b:Sh 2 y→Xc nm p W y
 c:∀z∈y.ks,(Sh 0 z→Mo nm p W z)∧(Sh 2 z→Xc nm p W z)
include hW in
theorem z1I(x:ZB)(hx:x.Sm)(hsl:x.sel=true):QwOk nm p W x:=by
 refine ZB.ind (P:=fun x=>x.Sm→x.sel=true→QwOk nm p W x) (fun op tx v ks ih hx hsl=> ?_) x hx hsl
 have hk:=hx.ks
 simp only[ZB.ks_mk] at hk
 have hsl':=hsl
 rw[sN,bE,List.all_eq_true] at hsl'
 have H:∀y∈ks,QwOk nm p W y:=fun y hy=>ih y hy (hk.2 y hy) (hsl'.2 y hy)
 have HG:∀y∈ks,GrN W y:=fun y hy=>grN y (hk.2 y hy) (hsl'.2 y hy)
 refine⟨fun h=>z8c nm p W hW _ hx hsl h,fun h=> ?_,fun h=> ?_,fun y hy=>⟨(H y hy).e,(H y hy).b⟩⟩
 ·rcases h.of1 with⟨rfl,h1⟩|⟨rfl,h1⟩|⟨rfl,h1⟩|⟨h4,h5,h12,h1⟩
  ·rcases h1 with⟨a,b,rfl,ha,hb⟩|⟨a,b,c,rfl,ha,hb,hc⟩
   ·intro z k hs hk'
    rw[Yj]
    exact zq4 nm p W tx v _ z _ (z7n nm p W tx v a b ((H a (by simp)).e ha) ((H b (by simp)).b hb) (HG a (by simp)) (HG b (by simp)) z k hs hk')
   ·intro z k hs hk'
    rw[Yj]
    exact zq4 nm p W tx v _ z _ (z6w nm p W tx v a b c ((H a (by simp)).e ha) ((H b (by simp)).b hb) ((H c (by simp)).b hc) (HG a (by simp)) (HG b (by simp)) (HG c (by simp)) z k hs hk')
  ·obtain⟨a,b,rfl,ha,hb⟩:=h1
   intro z k hs hk'
   rw[Yj]
   exact zvK nm p W tx v _ z _ (zKn nm p W tx v a b ((H a (by simp)).e ha) ((H b (by simp)).b hb) (HG a (by simp)) (HG b (by simp)) z k hs hk')
  ·intro z k hs hk'
   have hle:=tJ 12 tx v ks
   have hl:=zj6 hsl'.1
   rw[Yj]
   unfold stK
   rw[if_neg (by decide),if_neg (by decide),if_pos rfl,List.map_map]
   refine zjJ nm p W tx v _ z _ (zvY nm p W hW tx v ks hl (fun y hy=>⟨h1 y hy,hk.2 y hy,HG y hy,fun q hq=>⟨((H y hy).c q hq).1,((H y hy).c q hq).2,?_⟩⟩) z k hs ?_)
   ·have hy1:=(hk.2 y hy).ks
    have hy2:=hsl'.2 y hy
    obtain⟨op1,tx1,v1,ks1⟩:=y
    rw[sN,bE,List.all_eq_true] at hy2
    exact grN q (hy1.2 q hq) (hy2.2 q hq)
   ·omega
  ·exact zQs nm p W hW op tx v ks hk.1 h h4 h5 h12 (fun y hy=>(H y hy).e (h1 y hy)) HG
 ·exact zKi nm p W _ hk.1 (fun y hy=>(H y hy).s (h.of2 y hy)) HG
end
set_option maxRecDepth 8000
set_option maxHeartbeats 16000000
abbrev qh2(nm:ByteArray)(p:Int)(W:List ZC)(z:LS):Heap:=upd (upd emp (0,1) (some (eJ nm p W z))) (0,0) (some u0b)
theorem Zv(f:ZA)(nm:ByteArray)(p:Int)(W:List ZC)(hW:W.length≤16777216):∀(n:Nat) (j:Int) (z:LS) (k:Int),j+n=W.length→0≤j→z.bd k→k+n≤1099511627775 →
  loopW tab [1,2,3,4,5] mW {env:=upd (upd (upd (upd (upd emp 5 (some (I j))) 4 (some (.ptr (0,1) [] 0 0))) 3 (some (.d (.r (W.map ZC.r))))) 2 (some (.ptr (0,0) [] 0 0))) 1 (some (fvp f)),heap:=qh2 nm p W z,fr:=0,next:=2} =
   some (.ext 0,{env:=upd (upd (upd emp 4 (some (.ptr (0,1) [] 0 0))) 2 (some (.ptr (0,0) [] 0 0))) 1 (some (fvp f)),heap:=qh2 nm p W (Jx n j z),fr:=0,next:=2})
 |0,j,z,k,hj,h0,hs,hk=>by
  conv=>lhs;unfold loopW;arg 1;unfold mW
  rw[Jx]
  have hj':¬j<(W.length:Int):=by omega
  simp -implicitDefEqProofs (disch:=first|assumption|omega) only[go_sem,simprocAttr,hj',qh2,eJ,fvp,u0b,lm]
 |n+1,j,z,k,hj,h0,hs,hk=>by
  have g0:=lG nm p W z (hs.mono (by omega)) ⟨1,j,0,0,0,emS,[]⟩ rfl
  have ih:=Zv f nm p W hW n (j+1) (z.put ⟨1,j,0,0,0,emS,[]⟩) _ (by omega) (by omega) (dK hs _) (by omega)
  have hj':j<(W.length:Int):=by omega
  rw[Jx,←ih]
  conv=>lhs;unfold loopW;arg 1;unfold mW
  simp only[qh,eJ,tX0,qh2,fvp,u0b] at g0 ⊢
  simp -implicitDefEqProofs (disch:=first|assumption|omega) only[go_sem,simprocAttr,g0,hj',ZC.noR,ZD.noR,lm]
theorem zxx(f:ZA)(hf:f.Sm)(hz:f.sz≤1048576)(hsh:Sh 2 f.fBody)(hsl:f.fBody.sel=true):call tab tR [f.x]=some (m4 f).xo:=by
 have hW:=Lk hz
 have hge:=zjD f
 have gv:=Mh f hf hz
 rw[show f.fBody.le f.fParams=cS f from rfl] at gv
 have hb:=f.fBody.sz_nn
 have hp:=hf.ps.1
 have hfz:f.fBody.sz≤1048576:=by
  have h1:=(ZC.szs_nn f.fParams).1
  have h2:0≤(f.fName.size:Int):=by omega
  unfold ZA.sz at hz
  omega
 have b0:(LS.mk [] (cS f).length 0).bd 16777216:=⟨by simp,by show 0≤((cS f).length:Int);omega,by show((cS f).length:Int)≤_;omega,by show(0:Int)≤0;omega,by show(0:Int)≤_;omega⟩
 have h0:=Zv f f.fName f.fParams.length (cS f) hW ((cS f).length-f.fParams.length) f.fParams.length ⟨[],(cS f).length,0⟩ _ (by omega) (by omega) b0 (by omega)
 have b1:=b0.gr (Rz ((cS f).length-f.fParams.length) f.fParams.length ⟨[],(cS f).length,0⟩)
 have hG:=grN (W:=cS f) f.fBody hf.bd hsl
 have hL:=(z1I f.fName f.fParams.length (cS f) hW f.fBody hf.bd hsl).b hsh
 unfold m4 z5b
 simp only
 generalize hz1:Jx ((cS f).length-f.fParams.length) f.fParams.length ⟨[],(cS f).length,0⟩=z1 at *
 have g1:=hL z1 _ b1 (by omega)
 have b2:=b1.gr (hG.b z1)
 generalize (f.fBody.lw (cS f)).b z1=z2 at *
 have g2:=z4E f.fName f.fParams.length (cS f) z2 (b2.mono (by omega)) 0
 have b3:=Gq b2 (eQ 0)
 have g3:=lG f.fName f.fParams.length (cS f) (z2.set (eQ 0)) (b3.mono (by omega)) (zjA z2.n) rfl
 generalize (z2.set (eQ 0)).put (zjA z2.n)=z4 at *
 generalize z2.set (eQ 0)=z3 at *
 generalize cS f=W at *
 rw[aJ V8 _ rfl,Ez]
 simp only[qh,qh2,eJ,tX0,eQ,zjA,fvp,u0b,ZB.x,ZA.x,ZE.xo,mn] at h0 g1 g2 g3 gv ⊢
 simp -implicitDefEqProofs (disch:=first|assumption|omega|(simp only[aE,aQ,aD,i64,sa,aC,lm,la,lc,ln];omega)) only[go_sem,simprocAttr,h0,g1,g2,g3,gv,ZB.fzs,ZB.fzr,ZC.fzs,ZC.fzr,ZC.noR,ZD.noR,lm]
set_option maxRecDepth 8000
set_option maxHeartbeats 16000000
theorem Qp(u:ZE)(hl:u.fCode.length≤1099511627776)(hb:900<u.fCode.length):call tab rM [u.x]=some (B (oR u)):=by
 rw[aJ Iv _ rfl,xS,oR]
 have b1:=bR u.fRegs 0 250
 have b2:=Jd 4 u.fRegs
 have b3:=bR u.fParams 0 (if 4<u.fRegs then 4 else u.fRegs)
 have b4:=bR u.fCode.length 1 900
 have c3:inB u.fCode.length 1 900=false:=by simp only[inB];simp;omega
 rw[c3] at b4
 cases c1:inB u.fRegs 0 250<;>rw[c1] at b1
 ·simp -implicitDefEqProofs (disch:=first|assumption|omega|(simp only[aE,aQ,aD,i64,sa,aC,lm,la,lc,ln];omega)) only[go_sem,simprocAttr,b1]
 cases c2:inB u.fParams 0 (if 4<u.fRegs then 4 else u.fRegs)<;>rw[c2] at b3
 ·generalize (if 4<u.fRegs then(4:Int) else u.fRegs)=mn at *
  simp -implicitDefEqProofs (disch:=first|assumption|omega|(simp only[aE,aQ,aD,i64,sa,aC,lm,la,lc,ln];omega)) only[go_sem,simprocAttr,b1,b2,b3]
 ·generalize (if 4<u.fRegs then(4:Int) else u.fRegs)=mn at *
  simp -implicitDefEqProofs (disch:=first|assumption|omega|(simp only[aE,aQ,aD,i64,sa,aC,lm,la,lc,ln];omega)) only[go_sem,simprocAttr,b1,b2,b3,b4,c3]
theorem Q0(u:ZE)(hl:u.fCode.length≤1099511627776)(hb:900<u.fCode.length):call tab rQ [u.x]=some (B (oR u)):=by
 rw[aJ Io _ rfl,xU,oR]
 have b1:=bU u.fRegs 0 250
 have b3:=bU u.fParams 0 (if 4<u.fRegs then 4 else u.fRegs)
 have b5:(if u.fRegs<4 then u.fRegs else 4)=(if 4<u.fRegs then(4:Int) else u.fRegs):=by split<;>split<;>omega
 have b4:=bU u.fCode.length 1 900
 have c3:inB u.fCode.length 1 900=false:=by simp only[inB];simp;omega
 rw[c3] at b4
 cases c1:inB u.fRegs 0 250<;>rw[c1] at b1
 ·simp -implicitDefEqProofs (disch:=first|assumption|omega|(simp only[aE,aQ,aD,i64,sa,aC,lm,la,lc,ln];omega)) only[go_sem,simprocAttr,b1]
 cases c2:inB u.fParams 0 (if 4<u.fRegs then 4 else u.fRegs)<;>rw[c2] at b3
 ·generalize (if 4<u.fRegs then(4:Int) else u.fRegs)=mn at *
  simp -implicitDefEqProofs (disch:=first|assumption|omega|(simp only[aE,aQ,aD,i64,sa,aC,lm,la,lc,ln];omega)) only[go_sem,simprocAttr,b1,b5,b3]
 ·generalize (if 4<u.fRegs then(4:Int) else u.fRegs)=mn at *
  simp -implicitDefEqProofs (disch:=first|assumption|omega|(simp only[aE,aQ,aD,i64,sa,aC,lm,la,lc,ln];omega)) only[go_sem,simprocAttr,b1,b5,b3,b4,c3]
structure UOk (u:ZE):Prop where
 n:u.fName.size≤1048576
 l:u.fCode.length≤1099511627776
 s:∀t∈u.fCode,t.sm
theorem UOk.sm{u:ZE}(h:UOk u)(hb:¬900<u.fCode.length):u.sm:=⟨h.n,by omega,h.s⟩
theorem Xj{u:ZE}(h:UOk u):call tab rM [u.x]=some (B (oR u)):=by
 by_cases hb:900<u.fCode.length
 ·exact Qp u h.l hb
 ·exact Ws u (h.sm hb)
theorem W2{u:ZE}(h:UOk u):call tab rQ [u.x]=some (B (oR u)):=by
 by_cases hb:900<u.fCode.length
 ·exact Q0 u h.l hb
 ·exact V7 u (h.sm hb)
theorem zJ2{u:ZE}(h:oR u=true):u.fCode.length≤900:=by
 unfold oR at h
 cases c3:inB u.fCode.length 1 900
 ·rw[c3] at h;simp at h
 ·have g3:1≤(u.fCode.length:Int)∧(u.fCode.length:Int)≤900:=by simpa[inB] using c3
  omega
theorem z6E{f:ZA}(hf:f.Sm)(hz:f.sz≤1048576)(hsl:f.fBody.sel=true):UOk (m4 f):=by
 have hW:=Lk hz
 have hge:=zjD f
 have hb:=f.fBody.sz_nn
 have hfz:f.fBody.sz≤1048576:=by
  have h1:=(ZC.szs_nn f.fParams).1
  have h2:0≤(f.fName.size:Int):=by omega
  unfold ZA.sz at hz
  omega
 have g1:=Rz ((cS f).length-f.fParams.length) f.fParams.length ⟨[],(cS f).length,0⟩
 have g2:=(grN (W:=cS f) f.fBody hf.bd hsl).b (Jx ((cS f).length-f.fParams.length) f.fParams.length ⟨[],(cS f).length,0⟩)
 have g3:=(((g1.trans g2).set (t:=eQ 0) j3)).put (t:=zjA ((f.fBody.lw (cS f)).b (Jx ((cS f).length-f.fParams.length) f.fParams.length ⟨[],(cS f).length,0⟩)).n) j3
 have e:(m4 f).fCode=(((f.fBody.lw (cS f)).b (Jx ((cS f).length-f.fParams.length) f.fParams.length ⟨[],(cS f).length,0⟩)).set (eQ 0) |>.put (zjA ((f.fBody.lw (cS f)).b (Jx ((cS f).length-f.fParams.length) f.fParams.length ⟨[],(cS f).length,0⟩)).n)).c:=rfl
 refine⟨hf.nm,?_,fun t ht=> ?_⟩
 ·rw[e]
  have:=g3.c1
  simp only[ln] at this
  omega
 ·rw[e] at ht
  exact(g3.sm t ht).elim (fun h=>absurd h (by simp)) id
set_option maxRecDepth 8000
set_option maxHeartbeats 16000000
structure FLow (f:ZA):Prop where
 sm:f.Sm
 sz:f.sz≤1048576
 sh:Sh 2 f.fBody
 sl:f.fBody.sel=true
theorem FLow.u{f:ZA}(h:FLow f):UOk (m4 f):=z6E h.sm h.sz h.sl
theorem FLow.i{f:ZA}(h:FLow f):call tab Cp [f.x]=some (m4 f).xo:=z9W f h.sm h.sz h.sh h.sl
theorem FLow.q{f:ZA}(h:FLow f):call tab tR [f.x]=some (m4 f).xo:=zxx f h.sm h.sz h.sh h.sl
theorem Im(F:List ZA)(hF:F.length≤1048576)(H:∀f∈F,FLow f):∀(Bl:List ZA) (j:Nat) (A:List ZE),F.drop j=Bl→A.length=j →
  loopW tab [5,14,15,16] l7 {env:=upd (upd (upd (upd emp 16 (some (I (j:Int)))) 15 (some (I (F.length:Int)))) 14 (some (.d (.r (F.map ZA.r))))) 5 (some (.ref (0,0) [])),heap:=upd emp (0,0) (some (.s 4 (A.map ZE.o))),fr:=0,next:=1} =
   if Bl.all (fun f=>oR (m4 f))=true then some (.ext 0,{env:=upd emp 5 (some (.ref (0,0) [])),heap:=upd emp (0,0) (some (.s 4 ((A++Bl.map m4).map ZE.o))),fr:=0,next:=1})
   else some (.ret,{env:=upd emp 4 (some (.d (.s 4 []))),heap:=emp,fr:=0,next:=0})
 |[],j,A,hd,hA=>by
  have h1:=b9 (j:=(j:Int)) (by simpa using hd) (by omega)
  conv=>lhs;unfold loopW;arg 1;unfold l7
  rw[if_pos (by rfl),mn,List.append_nil]
  simp -implicitDefEqProofs (disch:=first|assumption|omega) only[go_sem,simprocAttr,h1]
 |f::Bl,j,A,hd,hA=>by
  have h1:=bK (j:=(j:Int)) (by simpa using hd) (by omega)
  have h5:=h1.2.1
  have h2:=eK ZA.r h1.1
  rw[Int.toNat_natCast] at h2
  have hf:=H f h1.2.2.2.1
  have g0:=hf.i
  have g1:=W2 hf.u
  have ih:=Im F hF H Bl (j+1) (A++[m4 f]) (by have:=h1.2.2.1;simpa using this) (by rw[la,hA];rfl)
  rw[show(((j+1:Nat)):Int)=(j:Int)+1 by omega] at ih
  rw[List.all_cons]
  cases c:oR (m4 f)
  ·rw[c] at g1
   rw[if_neg (by simp)]
   conv=>lhs;unfold loopW;arg 1;unfold l7
   generalize m4 f=u at *
   simp only[ZA.r,ZA.x,ZE.x,ZE.xo] at h2 g0 g1 ⊢
   simp -implicitDefEqProofs (disch:=first|assumption|omega|(simp only[aE,aQ,aD,i64,sa,aC,lm,la,lc,ln];omega)) only[go_sem,simprocAttr,h5,h2,g0,g1,ZA.fzs,ZD.fzs,ZD.fzr,ZB.fzr,ZC.fzr,ZD.noR,ZE.noR]
  ·rw[c] at g1
   rw[bta,mc,show A++m4 f::Bl.map m4=(A++[m4 f])++Bl.map m4 by simp,←ih]
   conv=>lhs;unfold loopW;arg 1;unfold l7
   generalize m4 f=u at *
   simp only[ZA.r,ZA.x,ZE.x,ZE.xo,List.map_append,mc,mn] at h2 g0 g1 ⊢
   have hu:u.o=[DS u.fName,DI u.fParams,DI u.fRegs,.s 7 (u.fCode.map ZD.o)]:=rfl
   rw[hu]
   simp -implicitDefEqProofs (disch:=first|assumption|omega|(simp only[aE,aQ,aD,i64,sa,aC,lm,la,lc,ln];omega)) only[go_sem,simprocAttr,h5,h2,g0,g1,ZA.fzs,ZD.fzs,ZD.fzr,ZB.fzr,ZC.fzr,ZD.noR,ZE.noR,hA,lm]
theorem O4(F:List ZA)(hF:F.length≤1048576)(H:∀f∈F,FLow f):∀(Bl:List ZA) (j:Nat) (A:List ZE),F.drop j=Bl→A.length=j →
  loopW tab [0,3,4] iJ {env:=upd (upd (upd emp 4 (some (I (j:Int)))) 3 (some (.ref (0,0) []))) 0 (some (.d (.r (F.map ZA.r)))),heap:=upd emp (0,0) (some (.s 4 (A.map ZE.o))),fr:=0,next:=1} =
   if Bl.all (fun f=>oR (m4 f))=true then some (.ext 0,{env:=upd emp 3 (some (.ref (0,0) [])),heap:=upd emp (0,0) (some (.s 4 ((A++Bl.map m4).map ZE.o))),fr:=0,next:=1})
   else some (.ret,{env:=upd emp 2 (some (.ref (0,0) [])),heap:=upd emp (0,0) (some (.s 4 [])),fr:=0,next:=1})
 |[],j,A,hd,hA=>by
  have h1:=b9 (j:=(j:Int)) (by simpa using hd) (by omega)
  conv=>lhs;unfold loopW;arg 1;unfold iJ
  rw[if_pos (by rfl),mn,List.append_nil]
  simp -implicitDefEqProofs (disch:=first|assumption|omega) only[go_sem,simprocAttr,h1]
 |f::Bl,j,A,hd,hA=>by
  have h1:=bK (j:=(j:Int)) (by simpa using hd) (by omega)
  have h5:=h1.2.1
  have h2:=eK ZA.r h1.1
  rw[Int.toNat_natCast] at h2
  have hf:=H f h1.2.2.2.1
  have g0:=hf.q
  have g1:=Xj hf.u
  have ih:=O4 F hF H Bl (j+1) (A++[m4 f]) (by have:=h1.2.2.1;simpa using this) (by rw[la,hA];rfl)
  rw[show(((j+1:Nat)):Int)=(j:Int)+1 by omega] at ih
  rw[List.all_cons]
  cases c:oR (m4 f)
  ·rw[c] at g1
   rw[if_neg (by simp)]
   conv=>lhs;unfold loopW;arg 1;unfold iJ
   generalize m4 f=u at *
   simp only[ZA.r,ZA.x,ZE.x,ZE.xo] at h2 g0 g1 ⊢
   simp -implicitDefEqProofs (disch:=first|assumption|omega|(simp only[aE,aQ,aD,i64,sa,aC,lm,la,lc,ln];omega)) only[go_sem,simprocAttr,h5,h2,g0,g1,ZA.fzs,ZD.fzs,ZD.fzr,ZB.fzr,ZC.fzr,ZD.noR,ZE.noR,lm]
  ·rw[c] at g1
   rw[bta,mc,show A++m4 f::Bl.map m4=(A++[m4 f])++Bl.map m4 by simp,←ih]
   conv=>lhs;unfold loopW;arg 1;unfold iJ
   generalize m4 f=u at *
   simp only[ZA.r,ZA.x,ZE.x,ZE.xo,List.map_append,mc,mn] at h2 g0 g1 ⊢
   have hu:u.o=[DS u.fName,DI u.fParams,DI u.fRegs,.s 7 (u.fCode.map ZD.o)]:=rfl
   rw[hu]
   simp -implicitDefEqProofs (disch:=first|assumption|omega|(simp only[aE,aQ,aD,i64,sa,aC,lm,la,lc,ln];omega)) only[go_sem,simprocAttr,h5,h2,g0,g1,ZA.fzs,ZD.fzs,ZD.fzr,ZB.fzr,ZC.fzr,ZD.noR,ZE.noR,hA,lm]
def M6(F:List ZA):List ZE:=if F.all (fun f=>oR (m4 f))=true then F.map m4 else []
def sH(F:List ZA)(low:Bool):List ZE:=if ckS F low=0 then M6 F else []
theorem zqP(F:List ZA)(hF:F.length≤1048576)(H:∀f∈F,FLow f):call tab xZ [.d (.r (F.map ZA.r))]=some (.d (.s 4 ((M6 F).map ZE.o))):=by
 have h0:=O4 F hF H F 0 [] rfl rfl
 rw[cK,mn,List.nil_append] at h0
 unfold M6
 rw[aJ Qv _ rfl,Dp]
 by_cases c:F.all (fun f=>oR (m4 f))=true
 ·rw[if_pos c] at h0 ⊢
  simp -implicitDefEqProofs (disch:=first|assumption|omega|(simp only[aE,aQ,aD,i64,sa,aC,lm,la,lc,ln];omega)) only[go_sem,simprocAttr,h0,ZE.noR]
 ·rw[if_neg c] at h0 ⊢
  rw[mn]
  simp -implicitDefEqProofs (disch:=first|assumption|omega|(simp only[aE,aQ,aD,i64,sa,aC,lm,la,lc,ln];omega)) only[go_sem,simprocAttr,h0]
theorem zyM{F:List ZA}{low:Bool}(h:ckS F low=0):∀f∈F,f.fBody.sel=true:=by
 unfold ckS at h
 by_cases c:(F.all tdS&&decide (F.length≤40))=true
 ·rw[if_pos c,Jm,Hb] at h
  intro f hf
  obtain⟨k,hk⟩:=List.mem_iff_getElem?.1 hf
  have:=h.1 k f hk
  simp only[fnS_zero] at this
  have:=this.2.1
  unfold Dq at this
  simp only[Bool.or_eq_false_iff,Bool.not_eq_false'] at this
  exact this.2
 ·rw[if_neg c] at h
  exact absurd h (by decide)
theorem zkk{F:List ZA}{low:Bool}(h:ckS F low=0):F.length≤40:=by
 unfold ckS at h
 by_cases c:(F.all tdS&&decide (F.length≤40))=true
 ·rw[bE,decide_eq_true_eq] at c
  exact c.2
 ·rw[if_neg c] at h
  exact absurd h (by decide)
theorem Ft{F:List ZA}(hF:FsOk F){low:Bool}(h:ckS F low=0):∀f∈F,FLow f:=fun f hf=>⟨hF.sm.2 f hf,hF.sz f hf,zy9 h f hf,zyM h f hf⟩
theorem Yi(F:List ZA)(hF:FsOk F)(low:Bool):call tab J7 [.d (.r (F.map ZA.r)),B low]=some (.d (.s 4 ((sH F low).map ZE.o))):=by
 have g0:=Y9 F hF low
 unfold sH
 rw[aJ zzz _ rfl,Kq]
 by_cases c:ckS F low=0
 ·have g1:=zqP F hF.sm.1 (Ft hF c)
  rw[c] at g0
  rw[if_pos c]
  generalize M6 F=us at *
  simp -implicitDefEqProofs (disch:=first|assumption|omega|(simp only[aE,aQ,aD,i64,sa,aC,lm,la,lc,ln];omega)) only[go_sem,simprocAttr,g0,g1,ZA.fzs,ZE.noR]
 ·rw[if_neg c,mn]
  have c':=eq_false c
  simp -implicitDefEqProofs (disch:=first|assumption|omega|(simp only[aE,aQ,aD,i64,sa,aC,lm,la,lc,ln];omega)) only[go_sem,simprocAttr,g0,c',ZA.fzs]
theorem Xh(F:List ZA)(hF:FsOk F)(low:Bool):call tab Cb [.d (.r (F.map ZA.r)),B low]=some (.d (.s 4 ((sH F low).map ZE.o))):=by
 have g0:=Y6 F hF low
 unfold sH
 rw[aJ zjw _ rfl,Lr]
 by_cases c:ckS F low=0
 ·have h0:=Im F hF.sm.1 (Ft hF c) F 0 [] rfl rfl
  rw[cK,mn,List.nil_append] at h0
  rw[(Ou F low).2 c] at g0
  rw[if_pos c]
  unfold M6
  by_cases d:F.all (fun f=>oR (m4 f))=true
  ·rw[if_pos d] at h0 ⊢
   simp -implicitDefEqProofs (disch:=first|assumption|omega|(simp only[aE,aQ,aD,i64,sa,aC,lm,la,lc,ln];omega)) only[go_sem,simprocAttr,g0,h0,ZA.fzs,ZE.noR]
  ·rw[if_neg d] at h0 ⊢
   rw[mn]
   simp -implicitDefEqProofs (disch:=first|assumption|omega|(simp only[aE,aQ,aD,i64,sa,aC,lm,la,lc,ln];omega)) only[go_sem,simprocAttr,g0,h0,ZA.fzs]
 ·rw[if_neg c,mn]
  have c':=eq_false (fun e=>c ((Ou F low).1 e))
  simp -implicitDefEqProofs (disch:=first|assumption|omega|(simp only[aE,aQ,aD,i64,sa,aC,lm,la,lc,ln];omega)) only[go_sem,simprocAttr,g0,c',ZA.fzs]
set_option maxRecDepth 8000
set_option maxHeartbeats 4000000
theorem T2(x:ZA)(hx:x.Ok)(n:Int)(hn:0≤n∧n≤1048576):call tab Fv [x.x,I n]=some (I (if n<x.sz then -1 else n-x.sz)):=by
 have z1:=(ZC.szs_nn x.fParams).1
 have z2:=x.fBody.sz_nn
 have b0:=hx.fName
 have hso:=z1z x.fBody hx.fBody
 rw[aJ Y8 _ rfl,I2,ZA.sz]
 by_cases c0:n-(x.fName.size:Int)<0
 ·rw[if_pos (show n<(x.fName.size:Int)+ZC.szs x.fParams+x.fBody.sz by omega)]
  simp -implicitDefEqProofs (disch:=first|assumption|omega) only[go_sem,simprocAttr,c0]
 ·have f1:=Mq x.fParams (n-(x.fName.size:Int)) (by omega) hx.fParams
  by_cases c1:n-(x.fName.size:Int)<ZC.szs x.fParams
  ·rw[if_pos c1] at f1
   rw[if_pos (show n<(x.fName.size:Int)+ZC.szs x.fParams+x.fBody.sz by omega)]
   simp -implicitDefEqProofs (disch:=first|assumption|omega) only[go_sem,simprocAttr,c0,f1]
  ·rw[if_neg c1] at f1
   have c2:¬n-(x.fName.size:Int)-ZC.szs x.fParams<0:=by omega
   have f2:=Fj x.fBody hx.fBody hso (n-(x.fName.size:Int)-ZC.szs x.fParams) (by omega)
   by_cases c3:n-(x.fName.size:Int)-ZC.szs x.fParams<x.fBody.sz
   ·rw[if_pos c3] at f2
    rw[if_pos (show n<(x.fName.size:Int)+ZC.szs x.fParams+x.fBody.sz by omega)]
    generalize n-(x.fName.size:Int)-ZC.szs x.fParams=n2 at *
    simp -implicitDefEqProofs (disch:=first|assumption|omega) only[go_sem,simprocAttr,c0,f1,c2,f2]
   ·rw[if_neg c3] at f2
    rw[if_neg (show ¬n<(x.fName.size:Int)+ZC.szs x.fParams+x.fBody.sz by omega)]
    have c4:¬n-(x.fName.size:Int)-ZC.szs x.fParams-x.fBody.sz<0:=by omega
    rw[show n-((x.fName.size:Int)+ZC.szs x.fParams+x.fBody.sz)=n-(x.fName.size:Int)-ZC.szs x.fParams-x.fBody.sz by omega]
    generalize n-(x.fName.size:Int)-ZC.szs x.fParams-x.fBody.sz=n3 at *
    generalize n-(x.fName.size:Int)-ZC.szs x.fParams=n2 at *
    simp -implicitDefEqProofs (disch:=first|assumption|omega) only[go_sem,simprocAttr,c0,f1,c2,f2,c4]
theorem C0(xs:List ZA)(hx:xs.length≤1048576)(hok:∀y∈xs,y.Ok):∀(B A:List ZA) (n:Int),xs=A++B→0≤n∧n≤1048576 →
  loopW tab [0,1,5] nA {env:=upd (upd (upd emp 5 (some (I (A.length:Int)))) 1 (some (I n))) 0 (some (.d (.r (xs.map ZA.r)))),heap:=emp,fr:=0,next:=0}=(if n<ZA.szl B then some (.ret,{env:=upd emp 4 (some (I (-1))),heap:=emp,fr:=0,next:=0}) else some (.ext 0,{env:=upd emp 1 (some (I (n-ZA.szl B))),heap:=emp,fr:=0,next:=0}))
 |[],A,n,h,hn=>by
  rw[List.append_nil] at h
  subst h
  unfold loopW
  conv=>lhs;arg 1;unfold nA
  rw[show ZA.szl []=0 from rfl,if_neg (show ¬n<0 by omega)]
  simp -implicitDefEqProofs (disch:=first|assumption|omega) only[go_sem,simprocAttr,Int.sub_zero]
 |x::B,A,n,h,hn=>by
  unfold loopW
  conv=>lhs;arg 1;unfold nA
  have hl:xs.length=A.length+(B.length+1):=by rw[h];simp
  have h2:(xs.map ZA.r)[A.length]? = some x.r:=by rw[h];simp
  have hto:=T2 x (hok x (by rw[h];simp)) n hn
  have hnn:=ZA.szl_nn B
  have hxn:=x.sz_nn
  rw[show ZA.szl (x::B)=x.sz+ZA.szl B from rfl]
  simp only[ZA.r,ZA.x] at h2 hto
  by_cases hc:n<x.sz
  ·rw[if_pos hc] at hto
   rw[if_pos (show n<x.sz+ZA.szl B by omega)]
   simp -implicitDefEqProofs (disch:=first|assumption|omega) only[go_sem,simprocAttr,h2,hto]
  ·rw[if_neg hc] at hto
   have ih:=C0 xs hx hok B (A++[x]) (n-x.sz) (by simp[h]) (by omega)
   rw[show(((A++[x]).length:Nat):Int)=(A.length:Int)+1 by simp] at ih
   have hnx:0≤n-x.sz:=by omega
   by_cases hd:n-x.sz<ZA.szl B
   ·rw[if_pos hd] at ih
    rw[if_pos (show n<x.sz+ZA.szl B by omega)]
    simp -implicitDefEqProofs (disch:=first|assumption|omega) only[go_sem,simprocAttr,h2,hto,ih]
   ·rw[if_neg hd,show n-x.sz-ZA.szl B=n-(x.sz+ZA.szl B) by omega] at ih
    rw[if_neg (show ¬n<x.sz+ZA.szl B by omega)]
    simp -implicitDefEqProofs (disch:=first|assumption|omega) only[go_sem,simprocAttr,h2,hto,ih]
theorem Ro(xs:List ZA)(n:Int)(hn:0≤n∧n≤1048576)(hx:xs.length≤140737488351232∧∀y∈xs,y.Ok):call tab Bu [.d (.r (xs.map ZA.r)),I n]=some (I (if n<ZA.szs xs then -1 else n-ZA.szs xs)):=by
 rw[aJ Ug _ rfl,Et,ZA.szs]
 have hnn:=ZA.szl_nn xs
 by_cases h:n-(xs.length:Int)<0
 ·rw[if_pos (show n<xs.length+ZA.szl xs by omega)]
  simp -implicitDefEqProofs (disch:=first|assumption|omega) only[go_sem,simprocAttr,h]
 ·have hl:=C0 xs (by omega) hx.2 xs [] (n-xs.length) rfl (by omega)
  simp only[ln,Int.cast_ofNat_Int] at hl
  by_cases hd:n-(xs.length:Int)<ZA.szl xs
  ·rw[if_pos hd] at hl
   rw[if_pos (show n<xs.length+ZA.szl xs by omega)]
   simp -implicitDefEqProofs (disch:=first|assumption|omega) only[go_sem,simprocAttr,h,hl]
  ·rw[if_neg hd,show n-(xs.length:Int)-ZA.szl xs=n-(xs.length+ZA.szl xs) by omega] at hl
   rw[if_neg (show ¬n<xs.length+ZA.szl xs by omega)]
   simp -implicitDefEqProofs (disch:=first|assumption|omega) only[go_sem,simprocAttr,h,hl]
theorem Sy(x:ZA)(hx:x.Sm):call tab Gy [x.x]=some x.xo:=by
 have g0:=Np x.fParams hx.ps
 have g1:=F8 x.fBody (z1o x.fBody hx.bd)
 rw[aJ Xr _ rfl,Ic]
 simp -implicitDefEqProofs (disch:=first|assumption|omega) only[go_sem,simprocAttr,g0,g1]
theorem C4(xs:List ZA)(hx:xs.length≤1048576)(H:∀y∈xs,y.Sm):∀(B A:List ZA),xs=A++B →
  loopW tab [0,3,4] nD {env:=upd (upd (upd emp 4 (some (I (A.length:Int)))) 3 (some (.ref (0,0) []))) 0 (some (.d (.r (xs.map ZA.r)))),heap:=upd emp (0,0) (some (.s 6 (A.map ZA.o++List.replicate B.length [DS ⟨#[]⟩,.s 2 [],DI 0,DS ⟨#[]⟩,DI 0,.s 4 []]))),fr:=0,next:=1}=some (.ext 0,{env:=upd emp 3 (some (.ref (0,0) [])),heap:=upd emp (0,0) (some (.s 6 (xs.map ZA.o))),fr:=0,next:=1})
 |[],A,h=>by
  rw[List.append_nil] at h
  subst h
  unfold loopW
  conv=>lhs;arg 1;unfold nD
  simp -implicitDefEqProofs (disch:=first|assumption|omega) only[go_sem,simprocAttr,List.replicate_zero,List.append_nil]
 |x::B,A,h=>by
  unfold loopW
  conv=>lhs;arg 1;unfold nD
  have hl:xs.length=A.length+(B.length+1):=by rw[h];simp
  have h2:(xs.map ZA.r)[A.length]? = some x.r:=by rw[h];simp
  have hto:=Sy x (H x (by rw[h];simp))
  have ih:=C4 xs hx H B (A++[x]) (by simp[h])
  rw[show(((A++[x]).length:Nat):Int)=(A.length:Int)+1 by simp] at ih
  simp only[List.map_append,mc,mn,List.append_assoc,List.cons_append,List.nil_append,ZA.o] at ih
  simp only[ZA.r,ZA.x,ZA.xo,ZA.o] at h2 hto ih ⊢
  simp -implicitDefEqProofs (disch:=first|assumption|omega) only[go_sem,simprocAttr,lc,List.replicate_succ,qW,qX,qY,h2,hto,ih]
theorem Ps(xs:List ZA)(hx:xs.length≤1048576∧∀y∈xs,y.Sm):call tab m6 [.d (.r (xs.map ZA.r))]=some (.d (.s 6 (xs.map ZA.o))):=by
 have hl:=C4 xs hx.1 hx.2 xs [] rfl
 rw[aJ Uu _ rfl,E1]
 simp only[mn,List.nil_append,ln,Int.cast_ofNat_Int] at hl
 have hx1:=hx.1
 simp -implicitDefEqProofs (disch:=first|assumption|omega|(simp only[aE,aQ,aD,i64,sa,aC,lm,la,lc,ln];omega)) only[go_sem,simprocAttr,hl]
theorem ZA.fit{c:List D}(h:kC [.s,.l 24 [.s,.b],.i .i64,.s,.i .i64,.nd 56] c):∃x:ZA,c=x.r∧x.Ok:=by
 simp only[kC] at h
 obtain⟨_,_,rfl,h0,_,_,rfl,h1,_,_,rfl,h2,_,_,rfl,h3,_,_,rfl,h4,_,_,rfl,h5,rfl⟩:=h
 rw[Ev.fit] at h0;obtain⟨a0,rfl,g0⟩:=h0
 rw[Ev.fit] at h1;obtain⟨e1,rfl,b1,c1⟩:=h1;obtain⟨a1,rfl,g1⟩:=Me (fun c hc=>ZC.fit hc) c1;rw[lm] at b1
 rw[Ev.fit] at h2;obtain⟨a2,rfl,g2⟩:=h2
 rw[Ev.fit] at h3;obtain⟨a3,rfl,g3⟩:=h3
 rw[Ev.fit] at h4;obtain⟨a4,rfl,g4⟩:=h4
 rw[Ev.fit] at h5
 obtain⟨e5,rfl,b5,c5⟩:=h5
 have hn:Nd 56 [.v (.int .i64 a2),.v (.string a3),.v (.int .i64 a4),.r e5]:= .mk g2 g3 g4 b5 c5
 obtain⟨x,hx,ho⟩:=ZB.fit (by omega) hn
 refine⟨⟨a0,a1,x⟩,?_,⟨g0,⟨(by omega:a1.length≤140737488351232),g1⟩,ho⟩⟩
 obtain⟨op,tx,v,ks⟩:=x
 rw[ZB.r_eq] at hx
 simp only[List.cons.injEq] at hx
 obtain⟨e1,e2,e3,e4,_⟩:=hx
 rw[e1,e2,e3,e4]
 rfl
theorem Oy{xs:List ZB}(h:∀y∈xs,y.ct≤64+64*y.sz):dZ xs≤64*(xs.length+bH xs):=by
 induction xs with
 |nil=>rw[G5,oT];simp
 |cons x xs ih =>
  have h1:=h x (by simp)
  have h2:=ih (fun y hy=>h y (by simp[hy]))
  rw[Cq,dH,lc]
  omega
theorem ZB.ct_le(x:ZB):x.ct≤64+64*x.sz:=by
 refine ZB.ind (P:=fun x=>x.ct≤64+64*x.sz) (fun op tx v ks ih=> ?_) x
 have:=Oy ih
 rw[ZB.ct_eq,ZB.sz_eq]
 omega
theorem ZA.ct_le(x:ZA):x.ct≤64+64*x.sz:=by
 have h1:=ZC.cts_le x.fParams
 have h2:=x.fBody.ct_le
 obtain⟨nm,ps,⟨op,tx,v,ks⟩⟩:=x
 rw[ZB.ct_eq] at h2
 unfold ZA.ct ZA.sz
 simp only[ZB.ks_mk]
 simp only at h1
 have h3:=Oy (xs:=ks) (fun y _=>y.ct_le)
 rw[ZB.sz_eq] at h2 ⊢
 omega
theorem ZA.cts_le:∀xs:List ZA,ZA.cts xs≤64*ZA.szs xs
 |[]=>by simp[ZA.cts,ZA.szs,ZA.szl]
 |x::xs=>by
  have h1:=x.ct_le;have h2:=ZA.cts_le xs
  simp only[ZA.cts,ZA.szs,ZA.szl,lc] at *;omega
set_option maxRecDepth 8000
set_option maxHeartbeats 16000000
theorem zZt:∀(xs:List ZD),(∀t∈xs,t.sm)→ZD.cts xs≤xs.length*1048582
 |[],_=>by simp[ZD.cts]
 |t::xs,h=>by
  have h1:=(h t (by simp)).2
  have h2:=zZt xs (fun y hy=>h y (by simp[hy]))
  simp only[ZD.cts,ZD.ct,lc]
  omega
theorem zk5:∀(xs:List ZE),(∀u∈xs,(∀t∈u.fCode,t.sm)∧u.fCode.length≤900)→ZE.cts xs≤xs.length*943723803
 |[],_=>by simp[ZE.cts]
 |u::xs,h=>by
  have h1:=h u (by simp)
  have h2:=zk5 xs (fun y hy=>h y (by simp[hy]))
  have h3:=zZt u.fCode h1.1
  simp only[ZE.cts,ZE.ct,lc]
  omega
theorem zKb(F:List ZA)(hF:FsOk F)(low:Bool):(sH F low).length≤40∧(∀u∈sH F low,u.sm)∧ZE.cts (sH F low)≤1099511627776:=by
 have key:(sH F low).length≤40∧∀u∈sH F low,u.sm∧u.fCode.length≤900:=by
  unfold sH M6
  by_cases c:ckS F low=0
  ·rw[if_pos c]
   by_cases d:F.all (fun f=>oR (m4 f))=true
   ·rw[if_pos d,lm]
    rw[List.all_eq_true] at d
    refine⟨zkk c,fun u hu=> ?_⟩
    obtain⟨f,hf,rfl⟩:=List.mem_map.1 hu
    have:=zJ2 (d f hf)
    exact⟨(Ft hF c f hf).u.sm (by omega),this⟩
   ·rw[if_neg d]
    simp
  ·rw[if_neg c]
   simp
 refine⟨key.1,fun u hu=>(key.2 u hu).1,?_⟩
 have:=zk5 (sH F low) (fun u hu=>⟨(key.2 u hu).1.2.2,(key.2 u hu).2⟩)
 have:=key.1
 omega
theorem Nj(F:List ZA)(hF:F.length≤140737488351232∧∀y∈F,y.Ok)(low:Bool):call tab pR [.d (.r (F.map ZA.r)),B low]=some (B true):=by
 have g0:=Ro F 1048576 (by omega) hF
 rw[aJ H2 _ rfl,tI]
 by_cases h0:(1048576:Int)<ZA.szs F
 ·rw[if_pos h0] at g0
  simp -implicitDefEqProofs (disch:=first|assumption|omega) only[go_sem,simprocAttr,g0]
 ·rw[if_neg h0] at g0
  have hf:FsOk F:=by unfold FsOk;omega
  have hsm:=hf.sm
  have g1:=Ps F hsm
  have g2:=Yi F hf low
  have g3:=Xh F hf low
  have g4:=Qa F hsm.1 hsm.2
  have n1:=ZA.cts_nn F
  have n2:=ZA.cts_le F
  have g5:=Mj F 1 (by omega) (by omega)
  obtain⟨r1,r2,r3⟩:=zKb F hf low
  generalize sH F low=us at *
  have n3:=ZE.cts_nn us
  have g6:=Rc us ⟨by omega,r2⟩
  have g7:=Lx us 1 r3 (by omega)
  have g8:=K1 us 1 r3 (by omega)
  have hz:¬1048576-ZA.szs F<0:=by omega
  generalize 1048576-ZA.szs F=z at *
  simp -implicitDefEqProofs (disch:=first|assumption|omega) only[go_sem,simprocAttr,g0,g1,g2,g3,g4,g5,g6,g7,g8,hz,ZA.fzs,ZA.noR,ZE.fzs,ZE.fzr,ZE.noR]
theorem pure_FnExactLower(xs:List X)(h:zx5 [(false,[.l 96 [.s,.l 24 [.s,.b],.i .i64,.s,.i .i64,.nd 56]]),(false,[.b])] xs):call tab pR xs=some (.d (.v (.bool true))):=by
 simp only[zx5,z3A] at h
 obtain⟨x,r,rfl,⟨d,rfl,hf⟩,x2,r2,rfl,⟨d2,rfl,hf2⟩,rfl⟩:=h
 rw[Ev.fit] at hf
 rw[Ev.fit] at hf2
 obtain⟨els,rfl,hb,hc⟩:=hf
 obtain⟨lo,rfl⟩:=hf2
 obtain⟨F,rfl,hok⟩:=Me (fun c hc=>ZA.fit hc) hc
 rw[lm] at hb
 exact Nj F ⟨by omega,hok⟩ lo
end Go.Ev.G
