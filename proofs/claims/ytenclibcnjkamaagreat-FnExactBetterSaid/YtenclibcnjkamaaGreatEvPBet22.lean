import Derived.Test.YtenclibcnjkamaaGreatEvPBet12
set_option linter.all false
namespace Go.Ev.G
set_option maxRecDepth 8000
set_option maxHeartbeats 16000000
theorem zyU(u:ZB)(V:List (List D))(T:D)(S:List Int)(i n:Int)(hm:u.fRegs≤250)(hS:S.length≤250):∀(Bl:List Int) (k:Int) (so:List Int),S.drop k.toNat=Bl→0≤k→(so.length:Int)=u.fRegs→(∀r∈Bl,0≤r∧r<u.fRegs) →
  loopW tab [2,3,4,6,21,22,23,37,38,39] jF {env:=upd (upd (upd (upd (upd (upd (upd (upd (upd (upd emp 39 (some (I k))) 38 (some (I (S.length:Int)))) 37 (some (.d (.r (aP S))))) 23 (some (I i))) 22 (some (I n))) 21 (some (.ref (0,1) [(0,3)]))) 6 (some (.ptr (0,3) [] 0 0))) 4 (some (.ref (0,2) []))) 3 (some (.ptr (0,1) [] 0 0))) 2 (some (.ptr (0,0) [] 0 0)),heap:=fwH u V (dD so) T,fr:=0,next:=4} =
  some (.ext 2,{env:=upd (upd (upd (upd (upd (upd (upd emp 23 (some (I i))) 22 (some (I n))) 21 (some (.ref (0,1) [(0,3)]))) 6 (some (.ptr (0,3) [] 0 0))) 4 (some (.ref (0,2) []))) 3 (some (.ptr (0,1) [] 0 0))) 2 (some (.ptr (0,0) [] 0 0)),heap:=fwH u V (dD (Bl.foldl fgt so)) T,fr:=0,next:=4})
 |[],k,so,hd,hk,hl,hr=>by
  have hh:=dR hd hk
  have l2:(aP S).length=S.length:=bH S
  simp only[List.foldl_nil]
  generalize aP S=Z at *
  generalize aP (dD so)=Y at *
  unfold loopW
  conv=>lhs;arg 1;unfold jF
  simp -implicitDefEqProofs (disch:=first|assumption|omega|(simp only[aE,aF,aD,i64,sa,aB,lm,la,lc,ln];omega)) only[go_sem,simprocAttr,hh,l2]
 |r::Bl,k,so,hd,hk,hl,hr=>by
  have hc:=cE hd hk
  have h2:=j4 (fun n=>[DI n]) hc.1
  have h4:=hc.2.1
  obtain⟨b0,b1⟩:=hr r (by simp)
  have ih:=zyU u V T S i n hm hS Bl (k+1) (fgt so r) hc.2.2.1 (by omega) (by rw[O4];exact hl) (fun z hz=>hr z (by simp[hz]))
  have g0:=Jo so (by omega) r b0 (by omega)
  have l2:(aP S).length=S.length:=bH S
  have hnr:=pJ (dD (fgt so r))
  rw[List.foldl_cons,←ih]
  clear ih
  simp only[fwH] at g0 ⊢
  generalize aP (dD (fgt so r))=Z2 at *
  generalize aP (dD so)=Z0 at *
  conv=>lhs;unfold loopW;arg 1;unfold jF
  simp -implicitDefEqProofs (disch:=first|assumption|omega|(simp only[aE,aF,aD,i64,sa,aB,lm,la,lc,ln];omega)) only[go_sem,simprocAttr,h2,h4,l2,g0,hnr]
abbrev ifS(u:ZB)(V:List (List D))(so:List Int)(n:Nat)(j:Int):St:={env:=upd (upd (upd (upd (upd (upd emp 23 (some (I j))) 22 (some (I (n:Int)))) 21 (some (.ref (0,1) [(0,3)]))) 4 (some (.ref (0,2) []))) 3 (some (.ptr (0,1) [] 0 0))) 2 (some (.ptr (0,0) [] 0 0)),heap:=upd (upd (upd emp (0,2) (some (.s 1 (aP (dD so))))) (0,1) (some (eO u (.s 7 V)))) (0,0) (some pL),fr:=0,next:=3}
theorem zQj(u:ZB)(m:Nat)(hm:m≤250)(hr:u.fRegs=m)(so:List Int)(t t2:ZA)(S:List Int)(Z0:List (List D))(j:Int)(n:Nat)(h0:0≤j)(hj:j<n)(hn:n≤900)(l1:Z0.length=n)(p0:Z0[j.toNat]? = some t.o)(hs1:so.length=m)
  (g1:evCW tab mX [xq' t (.ref (0,0) []),.d (.r (aP (dD so)))] (upd emp (0,0) (some (.s 1 (aP t.fArgs)))) 1=some (t2.xo,upd emp (0,0) none))
  (g3:call tab lF [xq t2 .u]=some (.d (.s 1 (aP S)))) (hS:S.length≤2) (hsr:∀r∈S,0≤r∧r<(m:Int)) (hcp:t2.fOp=2→(0≤t2.fD∧t2.fD<(m:Int))∧0≤t2.fA) :
  loopW tab [2,3,4,21,22,23] d7 (ifS u Z0 so n j)=loopW tab [2,3,4,21,22,23] d7 (ifS u (Z0.set j.toNat t2.o) (if t2.fOp=8 then List.replicate m (-1) else cpS t2 (S.foldl fgt so)) n (j+1)):=by
 have hjn:j.toNat<Z0.length:=by omega
 have pu:(Z0.set j.toNat [DI t.fOp,DI t.fD,DI t.fA,DI t.fB,DI t.fN,DS t.fS,D.u])[j.toNat]? = some [DI t.fOp,DI t.fD,DI t.fA,DI t.fB,DI t.fN,DS t.fS,D.u]:=by
  rw[List.getElem?_set]
  simp[hjn]
 have q1:(Z0.set j.toNat [DI t.fOp,DI t.fD,DI t.fA,DI t.fB,DI t.fN,DS t.fS,D.u]).set j.toNat t2.o=Z0.set j.toNat t2.o:=by
  rw[List.set_set]
 have lu:(Z0.set j.toNat [DI t.fOp,DI t.fD,DI t.fA,DI t.fB,DI t.fN,DS t.fS,D.u]).length=n:=by rw[List.length_set,l1]
 have l4:(Z0.set j.toNat t2.o).length=n:=by rw[List.length_set,l1]
 have g2:=fun V T=>zyU u V T S j n (by omega) (by omega) S 0 so rfl (by omega) (by omega) (by rw[hr];exact hsr)
 have hnr:Hv [I t2.fOp,I t2.fD,I t2.fA,I t2.fB,I t2.fN,Str t2.fS,.d (.s 1 (aP t2.fArgs))]=true:=by simp[Hv,X.noRC,D.noR,pJ]
 have e1:=dK (dD so)
 have e2:=dK S
 have lS:=bH S
 have l3:(aP (dD (S.foldl fgt so))).length=m:=by rw[bH,gP,cV,hs1]
 have g5:=Av (dD (S.foldl fgt so)) (by rw[gP,cV,hs1];exact hm)
 rw[gP,cV,hs1] at g5
 have n5:=pJ (dD (List.replicate m (-1)))
 have e3:t2.fOp=2→(aP (dD (S.foldl fgt so))).set t2.fD.toNat [DI t2.fA]=aP (dD ((S.foldl fgt so).set t2.fD.toNat t2.fA)):=fun h=>by
  rw[nG,zJx _ (hcp h).1.1 (by rw[cV,hs1];exact(hcp h).1.2) (hcp h).2]
 have p3:t2.fOp=2→∃v,(aP (dD (S.foldl fgt so)))[t2.fD.toNat]? = some [DI v]:=fun h=>⟨_,o9 _ (hcp h).1.1 (by rw[cV,hs1];exact(hcp h).1.2)⟩
 simp only[fwH,eO] at g2
 unfold cpS
 simp only[xq',xq,ZA.o,ZA.xo,ifS] at g1 g3 p0 q1 l4 ⊢
 generalize hZU:(Z0.set j.toNat [DI t.fOp,DI t.fD,DI t.fA,DI t.fB,DI t.fN,DS t.fS,D.u])=ZU at *
 generalize aP S=ZS at *
 generalize aP (dD so)=Z3 at *
 generalize S.foldl fgt so=sF at *
 conv=>lhs;unfold loopW;arg 1;unfold d7
 by_cases c2:t2.fOp=2
 ·obtain⟨v,hv⟩:=p3 c2
  obtain⟨⟨b0,b1⟩,b2⟩:=hcp c2
  have e3:=e3 c2
  rw[c2] at g1 g3 q1 hnr l4
  by_cases c3:t2.fD=t2.fA
  ·rw[if_neg (by omega),if_neg (fun h=>h.2 c3)]
   generalize aP (dD sF)=Z4 at *
   simp only[c3] at g1 g3 q1 hnr l4
   simp -implicitDefEqProofs (disch:=first|assumption|omega|(simp only[aE,aF,aD,i64,sa,aB,lm,la,lc,ln];omega)) only[go_sem,simprocAttr,l1,p0,g1,hj,e1,hnr,hZU,pu,q1,lu,l4,g3,e2,g2,c2,c3,lS,l3]
  ·rw[if_neg (by omega),if_pos ⟨c2,c3⟩]
   generalize aP (dD (sF.set t2.fD.toNat t2.fA))=Z5 at *
   generalize aP (dD sF)=Z4 at *
   simp -implicitDefEqProofs (disch:=first|assumption|omega|(simp only[aE,aF,aD,i64,sa,aB,lm,la,lc,ln];omega)) only[go_sem,simprocAttr,l1,p0,g1,hj,e1,hnr,hZU,pu,q1,lu,l4,g3,e2,g2,c2,c3,hv,e3,l3,lS]
 ·by_cases c8:t2.fOp=8
  ·rw[if_pos c8]
   generalize aP (dD (List.replicate m (-1)))=Z5 at *
   generalize aP (dD sF)=Z4 at *
   rw[c8] at g1 g3 q1 hnr l4
   simp -implicitDefEqProofs (disch:=first|assumption|omega|(simp only[aE,aF,aD,i64,sa,aB,lm,la,lc,ln];omega)) only[go_sem,simprocAttr,l1,p0,g1,hj,e1,hnr,hZU,pu,q1,lu,l4,g3,e2,g2,c8,l3,lS,g5,n5]
  ·rw[if_neg c8,if_neg (fun h=>c2 h.1)]
   generalize aP (dD sF)=Z4 at *
   simp -implicitDefEqProofs (disch:=first|assumption|omega|(simp only[aE,aF,aD,i64,sa,aB,lm,la,lc,ln];omega)) only[go_sem,simprocAttr,l1,p0,g1,hj,e1,hnr,hZU,pu,q1,lu,l4,g3,e2,g2,c2,c8,l3,lS]
set_option maxRecDepth 8000
set_option maxHeartbeats 16000000
theorem zXa{t:ZA}(h:t.fOp=8)(so so1:List Int):bB so t=bB so1 t:=by
 have h2:hb t 2=false:=by unfold hb;rw[h];decide
 have h4:hb t 4=false:=by unfold hb;rw[h];decide
 have h32:hb t 32=false:=by unfold hb;rw[h];decide
 simp[bB,h2,h4,h32]
theorem Ja{m:Nat}{so:List Int}(t:ZA):Fa m so t=(if (bB so t).fOp=8 then List.replicate m (-1) else cpS (bB so t) ((aY (bB so t)).foldl fgt so),bB so t):=by
 by_cases c:t.fOp=8
 ·have c2:(bB so t).fOp=8:=c
  have h1:hb t 1=false:=by unfold hb;rw[c];decide
  rw[Qj (so1:=List.replicate m (-1)) (fun _=>rfl) (fun h=>absurd c h),if_pos c2,zwQ,zXa c so (List.replicate m (-1))]
  have e:aY t=[]:=by simp[aY,h1,c]
  rw[e,List.foldl_nil,cpS,if_neg (fun h=>by have:=h.1;have:t.fOp=2:=this;omega)]
 ·have c2:¬(bB so t).fOp=8:=c
  rw[Qj (so1:=so) (fun h=>absurd h c) (fun _=>rfl),if_neg c2]
theorem zYW{so:List Int}{r:Int}(h:0≤r):0≤ofZ so r:=by unfold ofZ;split<;>assumption
theorem zVh{m:Nat}{t:ZA}(hf:ROk m t)(so:List Int)(h:(bB so t).fOp=2):(0≤(bB so t).fD∧(bB so t).fD<(m:Int))∧0≤(bB so t).fA:=by
 have h2:hb t 2=true:=wR (t:=t) h (by decide)
 refine⟨zJ5 hf so h,?_⟩
 simp only[bB,if_pos h2]
 exact zYW (hf.u _ (Nj h2)).1
theorem zQr(u:ZB)(m:Nat)(hm:m≤250)(hr:u.fRegs=m)(n:Nat)(hn:n≤900):∀(Bl:List ZA) (j:Int) (A:List ZA) (so:List Int),(A.length:Int)=j→A.length+Bl.length=n→so.length=m→(∀t∈Bl,ROk m t) →
  loopW tab [2,3,4,21,22,23] d7 (ifS u ((A++Bl).map ZA.o) so n j) =
  some (.ext 0,{env:=upd (upd emp 3 (some (.ptr (0,1) [] 0 0))) 2 (some (.ptr (0,0) [] 0 0)),heap:=upd (upd emp (0,1) (some (eO u (.s 7 ((A++yQ m so Bl).map ZA.o))))) (0,0) (some pL),fr:=0,next:=2})
 |[],j,A,so,hA,hAB,hso,hf=>by
  simp only[yQ,zqe]
  rw[ln] at hAB
  generalize A.map ZA.o=Y at *
  unfold loopW
  conv=>lhs;arg 1;unfold d7
  simp -implicitDefEqProofs (disch:=first|assumption|omega|(simp only[aE,aF,aD,i64,sa,aB,lm,la,lc,ln];omega)) only[go_sem,simprocAttr,show ¬j<(n:Int) by omega]
 |t::Bl,j,A,so,hA,hAB,hso,hf=>by
  have hft:=hf t (by simp)
  rw[lc] at hAB
  have p0:((A++t::Bl).map ZA.o)[j.toNat]? = some t.o:=by
   rw[List.getElem?_map,List.getElem?_append_right (by omega),show j.toNat-A.length=0 by omega];rfl
  have l1:((A++t::Bl).map ZA.o).length=n:=by simp;omega
  have p1:∀t2:ZA,((A++t::Bl).map ZA.o).set j.toNat t2.o=(A++t2::Bl).map ZA.o:=fun t2=>by
   rw[List.map_append,List.map_append,List.set_append_right _ _ (by rw[lm];omega),lm,show j.toNat-A.length=0 by omega]
   rfl
  have st:=zQj u m hm hr so t (bB so t) (aY (bB so t)) _ j n (by omega) (by omega) hn l1 p0 hso (E4 t so (by omega) (by rw[hso];exact hft)) (Lz _) (Dv _) (fun r hr=>hft.s r (by rwa [zwQ] at hr)) (zVh hft so)
  have ih:=zQr u m hm hr n hn Bl (j+1) (A++[(Fa m so t).2]) (Fa m so t).1 (by simp;omega) (by simp;omega) (Ri hso t) (fun t ht=>hf t (by simp[ht]))
  simp only[zqc,List.cons_append,zqf] at ih
  rw[yQ,←ih,st,p1,Ja]
theorem G5(u:ZB)(hs:u.sm):call tab oK [u.x]=some (Et u).xo:=by
 have g0:=fI u hs
 have g1:=lZ u hs
 by_cases hu:lG u=true
 ·have hr:=gB hu
  rw[hu] at g1
  obtain⟨r0,r1⟩:=hr.regs
  have g3:=Av (List.replicate u.fRegs.toNat 0) (by simp;omega)
  have n3:=pJ (dD (List.replicate u.fRegs.toNat (-1)))
  have e2:aP (List.replicate u.fRegs.toNat 0)=List.replicate u.fRegs.toNat [DI 0]:=by simp[aP]
  rw[e2,List.length_replicate] at g3
  have g2:=zQr u u.fRegs.toNat (by omega) (by omega) u.fCode.length hr.len.2 u.fCode 0 [] (List.replicate u.fRegs.toNat (-1)) rfl (by simp) (by simp) (fun t ht=>Uv hu ht)
  simp only[ifS,eO,zqf] at g2
  have l0:(u.fCode.map ZA.o).length=u.fCode.length:=List.length_map _
  rw[Et,if_pos hu]
  simp only[ZB.xo] at g0 ⊢
  generalize (yQ u.fRegs.toNat (List.replicate u.fRegs.toNat (-1)) u.fCode).map ZA.o=Z at *
  generalize aP (dD (List.replicate u.fRegs.toNat (-1)))=Z1 at *
  rw[aQ xL _ rfl,pR]
  simp -implicitDefEqProofs (disch:=first|assumption|omega|(simp only[aE,aF,aD,i64,sa,aB,lm,la,lc,ln];omega)) only[go_sem,simprocAttr,g0,g1,g2,g3,n3,l0]
 ·rw[Bool.not_eq_true] at hu
  rw[hu] at g1
  rw[Et,if_neg (by rw[hu];simp),aQ xL _ rfl,pR]
  simp -implicitDefEqProofs (disch:=first|assumption|omega|(simp only[aE,aF,aD,i64,sa,aB,lm,la,lc,ln];omega)) only[go_sem,simprocAttr,g0,g1]
set_option maxRecDepth 8000
set_option maxHeartbeats 16000000
def jK(op:Int):Bool:=inB op 1 7||decide (op=23)||decide (op=24)
def Dk(M:List BL)(k:Nat)(t:ZA):Bool:= !jK t.fOp||rO (aX M k) t.fD
def bV(M:List BL):Nat→List ZA→List ZA
 |_,[]=>[]
 |k,t::ts=>(if Dk M k t=true then [t] else [])++bV M (k+1) ts
theorem mR(M:List BL):∀(ts:List ZA) (k:Nat),(bV M k ts).length≤ts.length
 |[],k=>by simp[bV]
 |t::ts,k=>by
  have:=mR M ts (k+1)
  rw[bV,la,lc]
  split<;>simp<;>omega
theorem Nq(M:List BL):∀(ts:List ZA) (k:Nat),(bV M k ts).length=ts.length→bV M k ts=ts
 |[],k,_=>rfl
 |t::ts,k,h=>by
  have h2:=mR M ts (k+1)
  rw[bV,la,lc] at h
  rw[bV]
  split at h
  ·rename_i c
   rw[if_pos c,Nq M ts (k+1) (by simp at h;omega)];rfl
  ·simp at h;omega
theorem zY(M:List BL):∀(ts:List ZA) (k:Nat) (t:ZA),t∈bV M k ts→t∈ts
 |[],k,t,h=>by simp[bV] at h
 |x::ts,k,t,h=>by
  rw[bV,List.mem_append] at h
  rcases h with h|h
  ·split at h
   ·simp at h;simp[h]
   ·simp at h
  ·exact List.mem_cons_of_mem _ (zY M ts (k+1) t h)
theorem U7(M:List BL):∀(ts:List ZA) (k:Nat) (t:ZA),jK t.fOp=false→t∈ts→t∈bV M k ts
 |[],k,t,hp,h=>by simp at h
 |x::ts,k,t,hp,h=>by
  rw[bV,List.mem_append]
  rcases List.mem_cons.1 h with h|h
  ·left
   rw[←h,if_pos (by simp[Dk,hp])]
   simp
  ·right
   exact U7 M ts (k+1) t hp h
theorem K1(M:List BL):∀(ts:List ZA) (k:Nat) (t:ZA),ts.getLast? = some t→jK t.fOp=false→(bV M k ts).getLast? = some t
 |[],k,t,h,hp=>by simp at h
 |[x],k,t,h,hp=>by
  simp at h
  subst h
  rw[bV,if_pos (by simp[Dk,hp]),bV]
  rfl
 |x::y::ts,k,t,h,hp=>by
  rw[List.getLast?_cons_cons] at h
  have ih:=K1 M (y::ts) (k+1) t h hp
  rw[bV,List.getLast?_append,ih]
  rfl
noncomputable def deadI (u:ZB):ZB:=⟨u.fName,u.fParams,u.fRegs,bV (live u) 0 u.fCode⟩
noncomputable def deadR:Nat→ZB→ZB
 |0,u=>u
 |k+1,u=>if (bV (live u) 0 u.fCode).length=u.fCode.length then u else deadR k (deadI u)
noncomputable def deadU (u:ZB):ZB:=if lG u=true then deadR u.fCode.length u else u
theorem Pl{u:ZB}(h:u.sm):(deadI u).sm:=by
 refine⟨h.1,?_,fun t ht=>h.2.2 t (zY _ _ _ t ht)⟩
 have:=mR (live u) u.fCode 0
 exact Nat.le_trans this h.2.1
theorem Jd{u:ZB}(h:Right u):Right (deadI u):=by
 obtain⟨t0,ht0⟩:∃t,u.fCode.getLast? = some t:=by
  have:=h.len.1
  cases e:u.fCode.getLast? with
  |none=>rw[List.getLast?_eq_none_iff] at e;rw[e] at this;simp at this
  |some t=>exact⟨t,rfl⟩
 have hl0:=h.last t0 (by rw[←List.getLast?_eq_getElem?];exact ht0)
 have hk:=K1 (live u) u.fCode 0 t0 ht0 (by rcases hl0 with e|e|e<;>rw[e]<;>decide)
 have hn:1≤(bV (live u) 0 u.fCode).length:=by
  cases e:bV (live u) 0 u.fCode with
  |nil=>rw[e] at hk;simp at hk
  |cons a l=>simp
 refine⟨h.regs,h.pars,⟨hn,?_⟩,fun k t ht r hr=> ?_,fun k t ht ho=> ?_,fun t ht=> ?_⟩
 ·have:=mR (live u) u.fCode 0
  exact Nat.le_trans this h.len.2
 ·have hm:=zY _ _ _ t (List.mem_of_getElem? ht)
  exact zQ h hm r hr
 ·have hm:=zY _ _ _ t (List.mem_of_getElem? ht)
  obtain⟨k2,hk2⟩:=List.mem_iff_getElem?.1 hm
  have h8:=(h.lab k2 t hk2 ho).1
  have h9:0≤fE (bV (live u) 0 u.fCode) t.fN:=by
   by_cases c:fE (bV (live u) 0 u.fCode) t.fN= -1
   ·have:=(uZ (qH t.fN) (bV (live u) 0 u.fCode) 0 (by omega)).1 c
    have h10:fE u.fCode t.fN= -1:=(uZ (qH t.fN) u.fCode 0 (by omega)).2 (fun x hx=>by
     cases e:qH t.fN x with
     |false=>rfl
     |true =>
      have e2:x.fOp=8:=by
       simp only[qH,bE,zqd] at e
       exact e.1
      have:=this x (U7 _ _ _ x (by rw[e2];decide) hx)
      rw[this] at e
      exact absurd e (by decide))
    omega
   ·have:=Bv (qH t.fN) (bV (live u) 0 u.fCode) 0 (by omega)
    unfold fE at c ⊢
    omega
  exact⟨h9,by have:=By (qH t.fN) (bV (live u) 0 u.fCode) 0 (by omega) h9;unfold fE;simp only[deadI];omega⟩
 ·have:t=t0:=by
   rw[←List.getLast?_eq_getElem?] at ht
   simp only[deadI] at ht
   rw[hk] at ht
   exact(Option.some.inj ht).symm
  rw[this]
  exact hl0
theorem F7(op:Int):call tab uX [I op]=some (B (jK op)):=by
 have g:=cW op 1 7
 rw[aQ Kg _ rfl,yF]
 unfold jK
 generalize inB op 1 7=b at *
 cases b
 ·by_cases c:op=23
  ·subst c;simp -implicitDefEqProofs (disch:=first|assumption|omega|(simp only[aE,aF,aD,i64,sa,aB,lm,la,lc,ln];omega)) only[go_sem,simprocAttr,g]
  ·by_cases c2:op=24
   ·subst c2;simp -implicitDefEqProofs (disch:=first|assumption|omega|(simp only[aE,aF,aD,i64,sa,aB,lm,la,lc,ln];omega)) only[go_sem,simprocAttr,g]
   ·simp -implicitDefEqProofs (disch:=first|assumption|omega|(simp only[aE,aF,aD,i64,sa,aB,lm,la,lc,ln];omega)) only[go_sem,simprocAttr,g,c,c2]
 ·simp -implicitDefEqProofs (disch:=first|assumption|omega|(simp only[aE,aF,aD,i64,sa,aB,lm,la,lc,ln];omega)) only[go_sem,simprocAttr,g]
theorem I7(op:Int):call tab yU [I op]=some (B (jK op)):=by
 have g:=cO op 1 7
 rw[aQ Mb _ rfl,At]
 unfold jK
 generalize inB op 1 7=b at *
 cases b
 ·by_cases c:op=23
  ·subst c;simp -implicitDefEqProofs (disch:=first|assumption|omega|(simp only[aE,aF,aD,i64,sa,aB,lm,la,lc,ln];omega)) only[go_sem,simprocAttr,g]
  ·by_cases c2:op=24
   ·subst c2;simp -implicitDefEqProofs (disch:=first|assumption|omega|(simp only[aE,aF,aD,i64,sa,aB,lm,la,lc,ln];omega)) only[go_sem,simprocAttr,g]
   ·simp -implicitDefEqProofs (disch:=first|assumption|omega|(simp only[aE,aF,aD,i64,sa,aB,lm,la,lc,ln];omega)) only[go_sem,simprocAttr,g,c,c2]
 ·simp -implicitDefEqProofs (disch:=first|assumption|omega|(simp only[aE,aF,aD,i64,sa,aB,lm,la,lc,ln];omega)) only[go_sem,simprocAttr,g]
set_option maxRecDepth 8000
set_option maxHeartbeats 16000000
abbrev ocD(b:Bool)(R:List (List D)):D:=if b=true then .s 7 R else .r R
abbrev ocX(b:Bool)(R:List (List D)):X:=if b=true then .ref (0,1) [(0,3)] else .d (.r R)
theorem zjD{M:List BL}{k:Nat}(h:k<M.length):(bMr M)[k]? = some [D.r (bR (aX M k))]:=by
 rw[List.getElem?_map,List.getElem?_eq_getElem h]
 simp[aX,h]
theorem zZQ(u:ZB)(b:Bool)(M I1:List BL)(hM:M.length=u.fCode.length)(hl:u.fCode.length≤900)(m:Nat)(hm:m≤250)(hrow:∀k,k<M.length→(aX M k).length=m)(hp:∀t∈u.fCode,jK t.fOp=true→0≤t.fD∧t.fD<m):∀(Bl:List ZA) (j:Nat) (V:List (List D)),u.fCode.drop j=Bl→V.length≤j →
  loopW tab [2,3,4,5,18,19,20] d4 {env:=upd (upd (upd (upd (upd (upd (upd emp 20 (some (I (j:Int)))) 19 (some (I (u.fCode.length:Int)))) 18 (some (ocX b (u.fCode.map ZA.r)))) 5 (some (.ref (0,2) []))) 4 (some (.rop [.r (u.fCode.map ZA.r),.r (bMr I1),.r (bMr M)]))) 3 (some (.ptr (0,1) [] 0 0))) 2 (some (.ptr (0,0) [] 0 0)),heap:=upd (upd (upd emp (0,2) (some (.s 7 V))) (0,1) (some (eO u (ocD b (u.fCode.map ZA.r))))) (0,0) (some pL),fr:=0,next:=3} =
  some (.ext 2,{env:=upd (upd (upd emp 5 (some (.ref (0,2) []))) 3 (some (.ptr (0,1) [] 0 0))) 2 (some (.ptr (0,0) [] 0 0)),heap:=upd (upd (upd emp (0,2) (some (.s 7 (V++(bV M j Bl).map ZA.r)))) (0,1) (some (eO u (ocD b (u.fCode.map ZA.r))))) (0,0) (some pL),fr:=0,next:=3})
 |[],j,V,hd,hV=>by
  have hlj:u.fCode.length≤j:=by
   have:=congrArg List.length hd
   rw[List.length_drop,ln] at this
   omega
  simp only[bV,mn,zqe]
  generalize u.fCode.map ZA.r=R at *
  unfold loopW
  conv=>lhs;arg 1;unfold d4
  cases b<;>simp only[ocX,ocD,if_true,Bool.false_eq_true,if_false]<;>simp -implicitDefEqProofs (disch:=first|assumption|omega|(simp only[aE,aF,aD,i64,sa,aB,lm,la,lc,ln];omega)) only[go_sem,simprocAttr,show ¬((j:Int)<u.fCode.length) by omega]
 |t::Bl,j,V,hd,hV=>by
  have hlen:u.fCode.length=j+(Bl.length+1):=by
   have:=congrArg List.length hd
   rw[List.length_drop,lc] at this
   omega
  have hd2:u.fCode.drop (j+1)=Bl:=by
   have:=congrArg (List.drop 1) hd
   rw[List.drop_drop] at this
   simpa[Nat.add_comm] using this
  have ht:u.fCode[j]? = some t:=by
   have:=congrArg (fun l=>l[0]?) hd
   simpa using this
  have p0:(u.fCode.map ZA.r)[j]? = some t.r:=by rw[List.getElem?_map,ht];rfl
  have l0:(u.fCode.map ZA.r).length=u.fCode.length:=List.length_map _
  have p1:=zjD (M:=M) (k:=j) (by omega)
  have l1:(bMr M).length=u.fCode.length:=by rw[lm,hM]
  have gp:=I7 t.fOp
  have hr:=hrow j (by omega)
  have l2:(bR (aX M j)).length=m:=by rw[y8,hr]
  have p2:jK t.fOp=true→(bR (aX M j))[t.fD.toNat]? = some [DB (rO (aX M j) t.fD)]:=fun h=>eR (by rw[hr];have:=hp t (List.mem_of_getElem? ht) h;omega)
  have hpt:=hp t (List.mem_of_getElem? ht)
  have ih:=fun V2 (h2:V2.length≤j+1)=>zZQ u b M I1 hM hl m hm hrow hp Bl (j+1) V2 hd2 h2
  rw[show(((j+1:Nat)):Int)=(j:Int)+1 by omega] at ih
  rw[bV,Dk]
  simp only[ZA.r] at p0
  have key:∀kb:Bool,(jK t.fOp=true→rO (aX M j) t.fD=kb)→loopW tab [2,3,4,5,18,19,20] d4 {env:=upd (upd (upd (upd (upd (upd (upd emp 20 (some (I (j:Int)))) 19 (some (I (u.fCode.length:Int)))) 18 (some (ocX b (u.fCode.map ZA.r)))) 5 (some (.ref (0,2) []))) 4 (some (.rop [.r (u.fCode.map ZA.r),.r (bMr I1),.r (bMr M)]))) 3 (some (.ptr (0,1) [] 0 0))) 2 (some (.ptr (0,0) [] 0 0)),heap:=upd (upd (upd emp (0,2) (some (.s 7 V))) (0,1) (some (eO u (ocD b (u.fCode.map ZA.r))))) (0,0) (some pL),fr:=0,next:=3} =
    loopW tab [2,3,4,5,18,19,20] d4 {env:=upd (upd (upd (upd (upd (upd (upd emp 20 (some (I ((j:Int)+1)))) 19 (some (I (u.fCode.length:Int)))) 18 (some (ocX b (u.fCode.map ZA.r)))) 5 (some (.ref (0,2) []))) 4 (some (.rop [.r (u.fCode.map ZA.r),.r (bMr I1),.r (bMr M)]))) 3 (some (.ptr (0,1) [] 0 0))) 2 (some (.ptr (0,0) [] 0 0)),heap:=upd (upd (upd emp (0,2) (some (.s 7 (if (!jK t.fOp||kb)=true then V++[t.r] else V)))) (0,1) (some (eO u (ocD b (u.fCode.map ZA.r))))) (0,0) (some pL),fr:=0,next:=3}:=fun kb hkb=>by
   clear ih
   generalize u.fCode.map ZA.r=R at *
   generalize bMr M=ML at *
   generalize bMr I1=IL at *
   generalize bR (aX M j)=K at *
   simp only[ZA.r]
   cases hpb:jK t.fOp<;>rw[hpb] at gp
   ·simp only[Bool.not_false,Bool.true_or,if_true]
    conv=>lhs;unfold loopW;arg 1;unfold d4
    cases b<;>simp only[ocX,ocD,if_true,Bool.false_eq_true,if_false]<;>simp -implicitDefEqProofs (disch:=first|assumption|omega|(simp only[aE,aF,aD,i64,sa,aB,lm,la,lc,ln];omega)) only[go_sem,simprocAttr,p0,l0,gp,show((j:Int)<u.fCode.length) by omega]
   ·have p2:=p2 hpb
    rw[hkb hpb] at p2
    obtain⟨d0,d1⟩:=hpt hpb
    simp only[Bool.not_true,Bool.false_or]
    cases kb
    ·simp only[Bool.false_eq_true,if_false]
     conv=>lhs;unfold loopW;arg 1;unfold d4
     cases b<;>simp only[ocX,ocD,if_true,Bool.false_eq_true,if_false]<;>simp -implicitDefEqProofs (disch:=first|assumption|omega|(simp only[aE,aF,aD,i64,sa,aB,lm,la,lc,ln];omega)) only[go_sem,simprocAttr,p0,l0,gp,p1,l1,p2,l2,show((j:Int)<u.fCode.length) by omega]
    ·simp only[if_true]
     conv=>lhs;unfold loopW;arg 1;unfold d4
     cases b<;>simp only[ocX,ocD,if_true,Bool.false_eq_true,if_false]<;>simp -implicitDefEqProofs (disch:=first|assumption|omega|(simp only[aE,aF,aD,i64,sa,aB,lm,la,lc,ln];omega)) only[go_sem,simprocAttr,p0,l0,gp,p1,l1,p2,l2,show((j:Int)<u.fCode.length) by omega]
  rw[key _ (fun _=>rfl)]
  by_cases c:(!jK t.fOp||rO (aX M j) t.fD)=true
  ·rw[if_pos c,if_pos c,List.map_append,mc,mn,←List.append_assoc,←ih _ (by simp;omega)]
  ·rw[if_neg c,if_neg c,zqf,←ih _ (by omega)]
set_option maxRecDepth 8000
set_option maxHeartbeats 16000000
def goB(M:List BL):Nat→List ZA→Bool→Bool
 |_,[],tn=>tn
 |k,t::ts,tn=>goB M (k+1) ts (if Dk M k t=true then tn else true)
theorem zyB(M:List BL):∀(ts:List ZA) (k:Nat),goB M k ts true=true
 |[],k=>rfl
 |t::ts,k=>by rw[goB,show(if Dk M k t=true then true else true)=true by split<;>rfl,zyB M ts (k+1)]
theorem zwR(M:List BL):∀(ts:List ZA) (k:Nat),goB M k ts false= !decide ((bV M k ts).length=ts.length)
 |[],k=>by simp[goB,bV]
 |t::ts,k=>by
  have h2:=mR M ts (k+1)
  rw[goB,bV,la,lc]
  by_cases c:Dk M k t=true
  ·rw[if_pos c,if_pos c,zwR M ts (k+1),zqa]
   congr 1
   exact decide_eq_decide.2 ⟨fun h=>by omega,fun h=>by omega⟩
  ·rw[if_neg c,if_neg c,zyB,ln]
   simp;omega
theorem zwl(u:ZB)(b:Bool)(M:List BL)(hM:M.length=u.fCode.length)(hl:u.fCode.length≤900)(m:Nat)(hm:m≤250)(hrow:∀k,k<M.length→(aX M k).length=m)(hp:∀t∈u.fCode,jK t.fOp=true→0≤t.fD∧t.fD<m):∀(Bl:List ZA) (j:Nat) (V:List (List D)) (tn:Bool),u.fCode.drop j=Bl→V.length≤j →
  loopW tab [2,3,4,5,6,7] dZ {env:=upd (upd (upd (upd (upd (upd emp 7 (some (I (j:Int)))) 6 (some (.ref (0,2) []))) 5 (some (.d (.r (bMr M))))) 4 (some (B tn))) 3 (some (.ptr (0,1) [] 0 0))) 2 (some (.ptr (0,0) [] 0 0)),heap:=upd (upd (upd emp (0,2) (some (.s 7 V))) (0,1) (some (eO u (ocD b (u.fCode.map ZA.r))))) (0,0) (some pL),fr:=0,next:=3} =
  some (.ext 2,{env:=upd (upd (upd (upd emp 6 (some (.ref (0,2) []))) 4 (some (B (goB M j Bl tn)))) 3 (some (.ptr (0,1) [] 0 0))) 2 (some (.ptr (0,0) [] 0 0)),heap:=upd (upd (upd emp (0,2) (some (.s 7 (V++(bV M j Bl).map ZA.r)))) (0,1) (some (eO u (ocD b (u.fCode.map ZA.r))))) (0,0) (some pL),fr:=0,next:=3})
 |[],j,V,tn,hd,hV=>by
  have hlj:u.fCode.length≤j:=by
   have:=congrArg List.length hd
   rw[List.length_drop,ln] at this
   omega
  simp only[bV,goB,mn,zqe]
  have l0:(u.fCode.map ZA.r).length=u.fCode.length:=List.length_map _
  generalize u.fCode.map ZA.r=R at *
  unfold loopW
  conv=>lhs;arg 1;unfold dZ
  cases b<;>simp only[ocX,ocD,if_true,Bool.false_eq_true,if_false]<;>simp -implicitDefEqProofs (disch:=first|assumption|omega|(simp only[aE,aF,aD,i64,sa,aB,lm,la,lc,ln];omega)) only[go_sem,simprocAttr,l0,show ¬((j:Int)<u.fCode.length) by omega]
 |t::Bl,j,V,tn,hd,hV=>by
  have hlen:u.fCode.length=j+(Bl.length+1):=by
   have:=congrArg List.length hd
   rw[List.length_drop,lc] at this
   omega
  have hd2:u.fCode.drop (j+1)=Bl:=by
   have:=congrArg (List.drop 1) hd
   rw[List.drop_drop] at this
   simpa[Nat.add_comm] using this
  have ht:u.fCode[j]? = some t:=by
   have:=congrArg (fun l=>l[0]?) hd
   simpa using this
  have p0:(u.fCode.map ZA.r)[j]? = some t.r:=by rw[List.getElem?_map,ht];rfl
  have l0:(u.fCode.map ZA.r).length=u.fCode.length:=List.length_map _
  have p1:=zjD (M:=M) (k:=j) (by omega)
  have l1:(bMr M).length=u.fCode.length:=by rw[lm,hM]
  have gp:=F7 t.fOp
  have hr:=hrow j (by omega)
  have l2:(bR (aX M j)).length=m:=by rw[y8,hr]
  have p2:jK t.fOp=true→(bR (aX M j))[t.fD.toNat]? = some [DB (rO (aX M j) t.fD)]:=fun h=>eR (by rw[hr];have:=hp t (List.mem_of_getElem? ht) h;omega)
  have hpt:=hp t (List.mem_of_getElem? ht)
  have ih:=fun V2 tn2 (h2:V2.length≤j+1)=>zwl u b M hM hl m hm hrow hp Bl (j+1) V2 tn2 hd2 h2
  rw[show(((j+1:Nat)):Int)=(j:Int)+1 by omega] at ih
  rw[goB]
  rw[bV]
  unfold Dk
  simp only[ZA.r] at p0
  have key:∀kb:Bool,(jK t.fOp=true→rO (aX M j) t.fD=kb)→loopW tab [2,3,4,5,6,7] dZ {env:=upd (upd (upd (upd (upd (upd emp 7 (some (I (j:Int)))) 6 (some (.ref (0,2) []))) 5 (some (.d (.r (bMr M))))) 4 (some (B tn))) 3 (some (.ptr (0,1) [] 0 0))) 2 (some (.ptr (0,0) [] 0 0)),heap:=upd (upd (upd emp (0,2) (some (.s 7 V))) (0,1) (some (eO u (ocD b (u.fCode.map ZA.r))))) (0,0) (some pL),fr:=0,next:=3} =
    loopW tab [2,3,4,5,6,7] dZ {env:=upd (upd (upd (upd (upd (upd emp 7 (some (I ((j:Int)+1)))) 6 (some (.ref (0,2) []))) 5 (some (.d (.r (bMr M))))) 4 (some (B (if (!jK t.fOp||kb)=true then tn else true)))) 3 (some (.ptr (0,1) [] 0 0))) 2 (some (.ptr (0,0) [] 0 0)),heap:=upd (upd (upd emp (0,2) (some (.s 7 (if (!jK t.fOp||kb)=true then V++[t.r] else V)))) (0,1) (some (eO u (ocD b (u.fCode.map ZA.r))))) (0,0) (some pL),fr:=0,next:=3}:=fun kb hkb=>by
   clear ih
   generalize u.fCode.map ZA.r=R at *
   generalize bMr M=ML at *
   generalize bR (aX M j)=K at *
   simp only[ZA.r]
   cases hpb:jK t.fOp<;>rw[hpb] at gp
   ·simp only[Bool.not_false,Bool.true_or,if_true]
    conv=>lhs;unfold loopW;arg 1;unfold dZ
    cases b<;>simp only[ocX,ocD,if_true,Bool.false_eq_true,if_false]<;>simp -implicitDefEqProofs (disch:=first|assumption|omega|(simp only[aE,aF,aD,i64,sa,aB,lm,la,lc,ln];omega)) only[go_sem,simprocAttr,p0,l0,gp,show((j:Int)<u.fCode.length) by omega]
   ·have p2:=p2 hpb
    rw[hkb hpb] at p2
    obtain⟨d0,d1⟩:=hpt hpb
    simp only[Bool.not_true,Bool.false_or]
    cases kb
    ·simp only[Bool.false_eq_true,if_false]
     conv=>lhs;unfold loopW;arg 1;unfold dZ
     cases b<;>simp only[ocX,ocD,if_true,Bool.false_eq_true,if_false]<;>simp -implicitDefEqProofs (disch:=first|assumption|omega|(simp only[aE,aF,aD,i64,sa,aB,lm,la,lc,ln];omega)) only[go_sem,simprocAttr,p0,l0,gp,p1,l1,p2,l2,show((j:Int)<u.fCode.length) by omega]
    ·simp only[if_true]
     conv=>lhs;unfold loopW;arg 1;unfold dZ
     cases b<;>simp only[ocX,ocD,if_true,Bool.false_eq_true,if_false]<;>simp -implicitDefEqProofs (disch:=first|assumption|omega|(simp only[aE,aF,aD,i64,sa,aB,lm,la,lc,ln];omega)) only[go_sem,simprocAttr,p0,l0,gp,p1,l1,p2,l2,show((j:Int)<u.fCode.length) by omega]
  rw[key _ (fun _=>rfl)]
  by_cases c:(!jK t.fOp||rO (aX M j) t.fD)=true
  ·rw[if_pos c,if_pos c,if_pos c,List.map_append,mc,mn,←List.append_assoc,←ih _ _ (by simp;omega)]
  ·rw[if_neg c,if_neg c,if_neg c,zqf,←ih _ _ (by omega)]
set_option maxRecDepth 8000
set_option maxHeartbeats 16000000
theorem zJK{u:ZB}(h:Right u){t:ZA}(ht:t∈u.fCode)(hp:jK t.fOp=true):0≤t.fD∧t.fD<(u.fRegs.toNat:Int):=by
 have h1:hb t 1=true:=by
  simp only[jK,inB,Bool.or_eq_true,bE,zqd] at hp
  have:t.fOp=1∨t.fOp=2∨t.fOp=3∨t.fOp=4∨t.fOp=5∨t.fOp=6∨t.fOp=7∨t.fOp=23∨t.fOp=24:=by omega
  rcases this with e|e|e|e|e|e|e|e|e<;>exact wR e (by decide)
 have:=zQ h ht _ (zwb h1)
 have:=h.regs
 omega
theorem zZw(L:List ZA):(L.map ZA.r).map (fun el=>el.map D.toR)=L.map ZA.r:=by
 rw[List.map_map]
 exact List.map_congr_left fun t _=>rfl
theorem Ha(L:List ZA):fzs (L.map ZA.r)=L.map ZA.r:=oO _ _ (fun a=>ZA.fzlr a) L
theorem zX9(M:List BL):D.noR.noRss (bM M)=true:=kX _ (fun a=>by simp[D.noR.noRs,D.noR,kX]) M
abbrev eH(u:ZB)(c:D):St:={env:=upd (upd emp 3 (some (.ptr (0,1) [] 0 0))) 2 (some (.ptr (0,0) [] 0 0)),heap:=upd (upd emp (0,1) (some (eO u c))) (0,0) (some pL),fr:=0,next:=2}
theorem zJ3:∀(k:Nat) (u:ZB),u.fCode.length≤k→Right u→u.sm→loopW tab [2,3] m4 (eH u (.r (u.fCode.map ZA.r))) =
  some (.ret,{env:=upd emp 2 (some (.ptr (0,0) [] 0 0)),heap:=upd emp (0,0) (some (eO (deadR k u) (.r ((deadR k u).fCode.map ZA.r)))),fr:=0,next:=1})
 |0,u,hk,hr,hs=>by
  have:=hr.len.1
  omega
 |k+1,u,hk,hr,hs=>by
  have hlen:=hr.len
  have hregs:=hr.regs
  obtain⟨I1,hI,hL,g1⟩:=I2 u hr hs
  have g2:=zZQ u false (live u) I1 hL.rows.len hlen.2 u.fRegs.toNat (by omega) (fun k hk=>hL.rows.row k (by rw[hL.rows.len] at hk;exact hk)) (fun t ht hp=>zJK hr ht hp) u.fCode 0 [] rfl (by simp)
  have hkl:=mR (live u) u.fCode 0
  have l0:(u.fCode.map ZA.r).length=u.fCode.length:=List.length_map _
  have l2:((bV (live u) 0 u.fCode).map ZA.r).length=(bV (live u) 0 u.fCode).length:=List.length_map _
  have e0:=Ha u.fCode
  have e1:=Ha (bV (live u) 0 u.fCode)
  have gc:=Bo lP ((bV (live u) 0 u.fCode).map ZA.r) (by simp[aD];omega) (by simp[ZA.r])
  rw[zZw] at gc
  simp only[zqf,show((0:Nat):Int)=0 from rfl,ocX,ocD,Bool.false_eq_true,if_false] at g2
  rw[deadR]
  by_cases c:(bV (live u) 0 u.fCode).length=u.fCode.length
  ·rw[if_pos c]
   generalize (bV (live u) 0 u.fCode).map ZA.r=V at *
   unfold loopW
   conv=>lhs;arg 1;unfold m4
   simp only[eH] at g2 ⊢
   simp -implicitDefEqProofs (disch:=first|assumption|omega|(simp only[aE,aF,aD,i64,sa,aB,lm,la,lc,ln];omega)) only[go_sem,simprocAttr,g1,g2,l0,l2,c,e0]
  ·rw[if_neg c]
   have ih:=zJ3 k (deadI u) (by have:(deadI u).fCode.length=(bV (live u) 0 u.fCode).length:=rfl;omega) (Jd hr) (Pl hs)
   rw[←ih]
   clear ih
   simp only[eH,eO,show(deadI u).fCode=bV (live u) 0 u.fCode from rfl,show(deadI u).fName=u.fName from rfl,show(deadI u).fParams=u.fParams from rfl,show(deadI u).fRegs=u.fRegs from rfl] at g2 ⊢
   generalize (bV (live u) 0 u.fCode).map ZA.r=V at *
   conv=>lhs;unfold loopW;arg 1;unfold m4
   simp -implicitDefEqProofs (disch:=first|assumption|omega|(simp only[aE,aF,aD,i64,sa,aB,lm,la,lc,ln];omega)) only[go_sem,simprocAttr,g1,g2,l0,l2,c,e0,e1,gc]
theorem P4(u:ZB)(hs:u.sm):zWK (call tab zZ [u.x]) (deadU u):=by
 have g0:=fI u hs
 have g1:=lZ u hs
 have e0:=ZA.fzs u.fCode
 by_cases hu:lG u=true
 ·have hr:=gB hu
  rw[hu] at g1
  have g2:=zJ3 u.fCode.length u (Nat.le_refl _) hr hs
  simp only[eH,eO] at g2
  have ed:deadU u=deadR u.fCode.length u:=by rw[deadU,if_pos hu]
  rw[ed]
  generalize deadR u.fCode.length u=w at *
  refine⟨w.x,?_,?_⟩
  ·simp only[ZB.x]
   rw[aQ Fo _ rfl,yO]
   simp -implicitDefEqProofs (disch:=first|assumption|omega|(simp only[aE,aF,aD,i64,sa,aB,lm,la,lc,ln];omega)) only[go_sem,simprocAttr,g0,g1,g2,e0]
  ·simp only[ZB.x,X.frz,X.frzV,xT,X.frzC]
 ·rw[Bool.not_eq_true] at hu
  rw[hu] at g1
  refine⟨u.x,?_,?_⟩
  ·rw[aQ Fo _ rfl,yO]
   simp -implicitDefEqProofs (disch:=first|assumption|omega|(simp only[aE,aF,aD,i64,sa,aB,lm,la,lc,ln];omega)) only[go_sem,simprocAttr,g0,g1,e0]
  ·rw[deadU,if_neg (by rw[hu];simp)]
   simp only[ZB.x,X.frz,X.frzV,xT,X.frzC]
set_option maxRecDepth 8000
set_option maxHeartbeats 16000000
abbrev sdS(u:ZB)(c:D)(tn:Bool):St:={env:=upd (upd (upd emp 4 (some (B tn))) 3 (some (.ptr (0,1) [] 0 0))) 2 (some (.ptr (0,0) [] 0 0)),heap:=upd (upd emp (0,1) (some (eO u c))) (0,0) (some pL),fr:=0,next:=2}
theorem zVl(u:ZB)(c:D):loopW tab [2,3,4] gV (sdS u c false)=some (.ext 0,eH u c):=by
 unfold loopW
 conv=>lhs;arg 1;unfold gV
 simp -implicitDefEqProofs (disch:=first|assumption|omega|(simp only[aE,aF,aD,i64,sa,aB,lm,la,lc,ln];omega)) only[go_sem,simprocAttr]
theorem zZp:∀(k:Nat) (u:ZB) (b:Bool),u.fCode.length≤k→Right u→u.sm→loopW tab [2,3,4] gV (sdS u (ocD b (u.fCode.map ZA.r)) true) =
  some (.ext 0,eH (deadR k u) (.s 7 ((deadR k u).fCode.map ZA.r)))
 |0,u,b,hk,hr,hs=>by
  have:=hr.len.1
  omega
 |k+1,u,b,hk,hr,hs=>by
  have hlen:=hr.len
  have hregs:=hr.regs
  obtain⟨hL,g1⟩:=Ix u hr hs
  have g2:=zwl u b (live u) hL.rows.len hlen.2 u.fRegs.toNat (by omega) (fun k hk=>hL.rows.row k (by rw[hL.rows.len] at hk;exact hk)) (fun t ht hp=>zJK hr ht hp) u.fCode 0 [] false rfl (by simp)
  have hkl:=mR (live u) u.fCode 0
  have e0:=Ha u.fCode
  have e2:=zx2 (live u)
  have n2:=zX9 (live u)
  simp only[zqf,show((0:Nat):Int)=0 from rfl,zwR] at g2
  rw[deadR]
  by_cases c:(bV (live u) 0 u.fCode).length=u.fCode.length
  ·have ek:=Nq (live u) u.fCode 0 c
   rw[if_pos c,←zVl]
   rw[ek] at g2
   simp only[decide_true,Bool.not_true] at g2
   conv=>lhs;unfold loopW;arg 1;unfold gV
   cases b<;>simp only[sdS,ocX,ocD,if_true,Bool.false_eq_true,if_false] at g2 ⊢ <;> simp -implicitDefEqProofs (disch:=first|assumption|omega|(simp only[aE,aF,aD,i64,sa,aB,lm,la,lc,ln];omega)) only[go_sem,simprocAttr,g1,g2,e0,e2,n2]
  ·rw[if_neg c]
   have ih:=zZp k (deadI u) true (by have:(deadI u).fCode.length=(bV (live u) 0 u.fCode).length:=rfl;omega) (Jd hr) (Pl hs)
   rw[←ih]
   clear ih
   simp only[c,decide_false,Bool.not_false] at g2
   simp only[sdS,ocD,if_true,eO,show(deadI u).fCode=bV (live u) 0 u.fCode from rfl,show(deadI u).fName=u.fName from rfl,show(deadI u).fParams=u.fParams from rfl,show(deadI u).fRegs=u.fRegs from rfl] at g2 ⊢
   generalize (bV (live u) 0 u.fCode).map ZA.r=V at *
   conv=>lhs;unfold loopW;arg 1;unfold gV
   cases b<;>simp only[if_true,Bool.false_eq_true,if_false] at g2 ⊢ <;> simp -implicitDefEqProofs (disch:=first|assumption|omega|(simp only[aE,aF,aD,i64,sa,aB,lm,la,lc,ln];omega)) only[go_sem,simprocAttr,g1,g2,e0,e2,n2]
theorem Or(u:ZB)(hs:u.sm):zWK (call tab zW [u.x]) (deadU u):=by
 have g0:=gR u hs
 have g1:=l8 u hs
 have e0:=ZA.fzs u.fCode
 by_cases hu:lG u=true
 ·have hr:=gB hu
  rw[hu] at g1
  have g2:=zZp u.fCode.length u false (Nat.le_refl _) hr hs
  simp only[sdS,eH,eO,ocD,Bool.false_eq_true,if_false] at g2
  have ed:deadU u=deadR u.fCode.length u:=by rw[deadU,if_pos hu]
  rw[ed]
  generalize deadR u.fCode.length u=w at *
  refine⟨.agg [Str w.fName,I w.fParams,I w.fRegs,.d (.s 7 (w.fCode.map ZA.r))],?_,?_⟩
  ·rw[aQ Fk _ rfl,yN]
   simp -implicitDefEqProofs (disch:=first|assumption|omega|(simp only[aE,aF,aD,i64,sa,aB,lm,la,lc,ln];omega)) only[go_sem,simprocAttr,g0,g1,g2,e0]
  ·simp only[ZB.x,X.frz,X.frzV,xT,X.frzC,Ha]
 ·rw[Bool.not_eq_true] at hu
  rw[hu] at g1
  refine⟨u.x,?_,?_⟩
  ·rw[aQ Fk _ rfl,yN]
   simp -implicitDefEqProofs (disch:=first|assumption|omega|(simp only[aE,aF,aD,i64,sa,aB,lm,la,lc,ln];omega)) only[go_sem,simprocAttr,g0,g1,e0]
  ·rw[deadU,if_neg (by rw[hu];simp)]
   simp only[ZB.x,X.frz,X.frzV,xT,X.frzC]
set_option maxRecDepth 8000
set_option maxHeartbeats 16000000
def kT(t:ZA):Int×Int:=(t.fOp,t.fN)
def ZA.uu(x:ZA):List D:=[DI x.fOp,DI x.fD,DI x.fA,DI x.fB,DI x.fN,DS x.fS,.u]
theorem Cj(op:Int):call tab oU [I op]=some (B (iJ op)):=Ck op
theorem eK{α:Type}{L:List α}{j:Nat}{t:α}{Bl:List α}(h:L.drop j=t::Bl):L[j]? = some t∧L.length=j+(Bl.length+1)∧L.drop (j+1)=Bl:=by
 refine⟨?_,?_,?_⟩
 ·have:=congrArg (fun l=>l[0]?) h
  simpa using this
 ·have:=congrArg List.length h
  rw[List.length_drop,lc] at this
  omega
 ·have:=congrArg (List.drop 1) h
  rw[List.drop_drop] at this
  simpa[Nat.add_comm] using this
theorem drop_nil{α:Type}{L:List α}{j:Nat}(h:L.drop j=[]):L.length≤j:=by
 have:=congrArg List.length h
 rw[List.length_drop,ln] at this
 omega
def nV(o:Bool)(t:ZA):Bool:=o||decide (t.fOp=8)
theorem mI(o:Bool)(t:ZA)(ts:List ZA):dC kT o (t::ts)=(if nV o t=true then [t] else [])++dC kT (nV o t&& !iJ t.fOp) ts:=rfl
abbrev imS(L:List ZA)(V:List (List D))(o:Bool)(j:Int):St:={env:=upd (upd (upd (upd (upd emp 10 (some (I j))) 9 (some (I (L.length:Int)))) 8 (some (.d (.r (L.map ZA.uu))))) 4 (some (B o))) 3 (some (.ref (0,0) [])),heap:=upd emp (0,0) (some (.s 7 V)),fr:=0,next:=1}
theorem z9c(L:List ZA)(hl:L.length≤900)(t:ZA)(Bl:List ZA)(j:Nat)(V:List (List D))(o:Bool)(hd:L.drop j=t::Bl)(hV:V.length≤j) :
  loopW tab [3,4,8,9,10] cX (imS L V o (j:Int))=loopW tab [3,4,8,9,10] cX (imS L (if nV o t=true then V++[t.uu] else V) (nV o t&& !iJ t.fOp) ((j:Int)+1)):=by
 obtain⟨ht,hlen,_⟩:=eK hd
 have p0:(L.map ZA.uu)[j]? = some t.uu:=by rw[List.getElem?_map,ht];rfl
 have l0:(L.map ZA.uu).length=L.length:=List.length_map _
 have ge:=Cj t.fOp
 simp only[imS]
 generalize L.map ZA.uu=R at *
 simp only[ZA.uu] at p0 ⊢
 unfold nV
 conv=>lhs;unfold loopW;arg 1;unfold cX
 by_cases c8:t.fOp=8
 ·have e8:iJ t.fOp=false:=by rw[c8];decide
  rw[e8] at ge ⊢
  simp only[c8,decide_true,Bool.or_true,Bool.not_false,bat,if_true] at ge p0 ⊢
  simp -implicitDefEqProofs (disch:=first|assumption|omega|(simp only[aE,aF,aD,i64,sa,aB,lm,la,lc,ln];omega)) only[go_sem,simprocAttr,p0,l0,c8,ge,show((j:Int)<L.length) by omega]
 ·simp only[c8,decide_false,Bool.or_false]
  generalize iJ t.fOp=e at *
  cases o<;>cases e<;>simp only[Bool.not_false,bat,Bool.not_true,Cc,Bool.false_eq_true,if_true,if_false]<;>simp -implicitDefEqProofs (disch:=first|assumption|omega|(simp only[aE,aF,aD,i64,sa,aB,lm,la,lc,ln];omega)) only[go_sem,simprocAttr,p0,l0,c8,ge,show((j:Int)<L.length) by omega]
theorem zYk(L:List ZA)(hl:L.length≤900):∀(Bl:List ZA) (j:Nat) (V:List (List D)) (o:Bool),L.drop j=Bl→V.length≤j →
  loopW tab [3,4,8,9,10] cX (imS L V o (j:Int))=some (.ext 0,{env:=upd emp 3 (some (.ref (0,0) [])),heap:=upd emp (0,0) (some (.s 7 (V++(dC kT o Bl).map ZA.uu))),fr:=0,next:=1})
 |[],j,V,o,hd,hV=>by
  have:=drop_nil hd
  simp only[dC,mn,zqe,imS]
  generalize L.map ZA.uu=R at *
  unfold loopW
  conv=>lhs;arg 1;unfold cX
  simp -implicitDefEqProofs (disch:=first|assumption|omega|(simp only[aE,aF,aD,i64,sa,aB,lm,la,lc,ln];omega)) only[go_sem,simprocAttr,show ¬((j:Int)<L.length) by omega]
 |t::Bl,j,V,o,hd,hV=>by
  rw[z9c L hl t Bl j V o hd hV,mI]
  have ih:=fun V2 (h2:V2.length≤j+1)=>zYk L hl Bl (j+1) V2 (nV o t&& !iJ t.fOp) (eK hd).2.2 h2
  rw[show(((j+1:Nat)):Int)=(j:Int)+1 by omega] at ih
  by_cases c:nV o t=true
  ·rw[if_pos c,if_pos c,List.map_append,mc,mn,←List.append_assoc,←ih _ (by simp;omega)]
  ·rw[if_neg c,if_neg c,zqf,←ih _ (by omega)]
theorem Yg(L:List ZA)(hl:L.length≤900):call tab yT [.d (.r (L.map ZA.uu))]=some (.d (.s 7 ((dC kT true L).map ZA.uu))):=by
 have g:=zYk L hl L 0 [] true rfl (by simp)
 have l0:(L.map ZA.uu).length=L.length:=List.length_map _
 simp only[imS,zqf,show((0:Nat):Int)=0 from rfl] at g
 generalize (dC kT true L).map ZA.uu=V at *
 generalize L.map ZA.uu=R at *
 rw[aQ Jt _ rfl,Bm]
 simp -implicitDefEqProofs (disch:=first|assumption|omega|(simp only[aE,aF,aD,i64,sa,aB,lm,la,lc,ln];omega)) only[go_sem,simprocAttr,g,l0]
abbrev zka(Z V:List (List D))(n:Nat)(o:Bool)(j:Int):St:={env:=upd (upd (upd (upd (upd emp 10 (some (I j))) 9 (some (I (n:Int)))) 8 (some (.ref (0,0) []))) 4 (some (B o))) 3 (some (.ref (1,0) [])),heap:=upd (upd emp (0,0) (some (.s 7 Z))) (1,0) (some (.s 7 V)),fr:=1,next:=1}
theorem K0(A:List ZA)(t:ZA)(Bl:List ZA):(A.map ZA.uu++(t::Bl).map ZA.o)[A.length]? = some t.o∧(A.map ZA.uu++(t::Bl).map ZA.o).set A.length t.uu=(A++[t]).map ZA.uu++Bl.map ZA.o∧(A.map ZA.uu++(t::Bl).map ZA.o).length=A.length+(Bl.length+1):=by
 refine⟨?_,?_,by simp⟩
 ·rw[List.getElem?_append_right (by simp)];simp
 ·rw[List.set_append_right _ _ (by simp)];simp
theorem zXm(A:List ZA)(t:ZA)(Bl:List ZA)(hl:A.length+Bl.length+1≤900)(V:List (List D))(o:Bool)(hV:V.length≤A.length)(n:Nat)(hn:n=A.length+(Bl.length+1)) :
  loopW tab [3,4,8,9,10] cX (zka (A.map ZA.uu++(t::Bl).map ZA.o) V n o (A.length:Int))=loopW tab [3,4,8,9,10] cX (zka ((A++[t]).map ZA.uu++Bl.map ZA.o) (if nV o t=true then V++[t.o] else V) n (nV o t&& !iJ t.fOp) ((A.length:Int)+1)):=by
 obtain⟨p0,q0,l0⟩:=K0 A t Bl
 have ge:=Cj t.fOp
 have hdr:=bI
 simp only[zka]
 generalize A.map ZA.uu++(t::Bl).map ZA.o=R at *
 generalize (A++[t]).map ZA.uu++Bl.map ZA.o=R2 at *
 simp only[ZA.uu,ZA.o] at p0 q0 ⊢
 unfold nV
 conv=>lhs;unfold loopW;arg 1;unfold cX
 by_cases c8:t.fOp=8
 ·have e8:iJ t.fOp=false:=by rw[c8];decide
  rw[e8] at ge ⊢
  simp only[c8,decide_true,Bool.or_true,Bool.not_false,bat,if_true] at ge p0 q0 ⊢
  simp -implicitDefEqProofs (disch:=first|assumption|omega|(simp only[aE,aF,aD,i64,sa,aB,lm,la,lc,ln];omega)) only[go_sem,simprocAttr,p0,q0,l0,c8,ge,hdr,show((A.length:Int)<n) by omega]
 ·simp only[c8,decide_false,Bool.or_false]
  generalize iJ t.fOp=e at *
  cases o<;>cases e<;>simp only[Bool.not_false,bat,Bool.not_true,Cc,Bool.false_eq_true,if_true,if_false]<;>simp -implicitDefEqProofs (disch:=first|assumption|omega|(simp only[aE,aF,aD,i64,sa,aB,lm,la,lc,ln];omega)) only[go_sem,simprocAttr,p0,q0,l0,c8,ge,hdr,show((A.length:Int)<n) by omega]
theorem zW7(n:Nat)(hn:n≤900):∀(Bl A:List ZA) (V:List (List D)) (o:Bool),n=A.length+Bl.length→V.length≤A.length →
  loopW tab [3,4,8,9,10] cX (zka (A.map ZA.uu++Bl.map ZA.o) V n o (A.length:Int))=some (.ext 0,{env:=upd emp 3 (some (.ref (1,0) [])),heap:=upd (upd emp (0,0) (some (.s 7 ((A++Bl).map ZA.uu)))) (1,0) (some (.s 7 (V++(dC kT o Bl).map ZA.o))),fr:=1,next:=1})
 |[],A,V,o,hA,hV=>by
  have hdr:=bI
  rw[ln] at hA
  simp only[dC,mn,zqe,zka]
  generalize A.map ZA.uu=R at *
  unfold loopW
  conv=>lhs;arg 1;unfold cX
  simp -implicitDefEqProofs (disch:=first|assumption|omega|(simp only[aE,aF,aD,i64,sa,aB,lm,la,lc,ln];omega)) only[go_sem,simprocAttr,hdr,show ¬((A.length:Int)<n) by omega]
 |t::Bl,A,V,o,hA,hV=>by
  rw[lc] at hA
  rw[zXm A t Bl (by omega) V o hV n hA,mI]
  have ih:=fun V2 (h2:V2.length≤A.length+1)=>zW7 n hn Bl (A++[t]) V2 (nV o t&& !iJ t.fOp) (by simp;omega) (by simpa using h2)
  rw[la,zqa,show(((A.length+1:Nat)):Int)=(A.length:Int)+1 by omega,zqc,List.singleton_append] at ih
  by_cases c:nV o t=true
  ·rw[if_pos c,if_pos c,List.map_append (l₁:=[t]),show([t]:List ZA).map ZA.o=[t.o] from rfl,←List.append_assoc V,←ih _ (by simp;omega)]
  ·rw[if_neg c,if_neg c,zqf,←ih _ (by omega)]
theorem Wx(L:List ZA)(hl:L.length≤900):evCW tab yT [.ref (0,0) []] (upd emp (0,0) (some (.s 7 (L.map ZA.o)))) 1=some (.d (.s 7 ((dC kT true L).map ZA.o)),upd emp (0,0) (some (.s 7 (L.map ZA.uu)))):=by
 have g:=zW7 L.length hl L [] [] true (by simp) (by simp)
 have l0:(L.map ZA.o).length=L.length:=List.length_map _
 have hdr:=bI
 simp only[zka,zqf,mn,ln,show((0:Nat):Int)=0 from rfl] at g
 generalize (dC kT true L).map ZA.o=V at *
 generalize L.map ZA.uu=R2 at *
 generalize L.map ZA.o=R at *
 rw[bW Jt _ _ _ rfl,Bm]
 simp -implicitDefEqProofs (disch:=first|assumption|omega|(simp only[aE,aF,aD,i64,sa,aB,lm,la,lc,ln];omega)) only[go_sem,simprocAttr,g,l0,hdr]
set_option maxRecDepth 8000
set_option maxHeartbeats 16000000
abbrev idS(L:List ZA)(V:List (List D))(j:Int):St:={env:=upd (upd (upd (upd (upd emp 9 (some (I j))) 8 (some (I (L.length:Int)))) 7 (some (.d (.r (L.map ZA.uu))))) 3 (some (.ref (0,0) []))) 0 (some (.d (.r (L.map ZA.uu)))),heap:=upd emp (0,0) (some (.s 7 V)),fr:=0,next:=1}
theorem zYQ(L:List ZA)(hl:L.length≤900)(t:ZA)(Bl:List ZA)(j:Nat)(V:List (List D))(hd:L.drop j=t::Bl)(hV:V.length≤j) :
  loopW tab [0,3,7,8,9] bU (idS L V (j:Int))=loopW tab [0,3,7,8,9] bU (idS L (if lK kT t Bl=true then V else V++[t.uu]) ((j:Int)+1)):=by
 obtain⟨ht,hlen,hd2⟩:=eK hd
 have p0:(L.map ZA.uu)[j]? = some t.uu:=by rw[List.getElem?_map,ht];rfl
 have l0:(L.map ZA.uu).length=L.length:=List.length_map _
 have p1:∀(b:ZA) (Cl:List ZA),Bl=b::Cl→(L.map ZA.uu)[((j:Int)+1).toNat]? = some b.uu:=fun b Cl e=>by
  rw[show((j:Int)+1).toNat=j+1 by omega,List.getElem?_map,(eK (e ▸ hd2:L.drop (j+1)=b::Cl)).1];rfl
 simp only[idS]
 generalize L.map ZA.uu=R at *
 simp only[ZA.uu] at p0 p1 ⊢
 conv=>lhs;unfold loopW;arg 1;unfold bU
 by_cases c9:t.fOp=9
 ·cases Bl with
  |nil =>
   simp only[lK,Bool.false_eq_true,if_false]
   rw[ln] at hlen
   simp -implicitDefEqProofs (disch:=first|assumption|omega|(simp only[aE,aF,aD,i64,sa,aB,lm,la,lc,ln];omega)) only[go_sem,simprocAttr,p0,l0,c9,show((j:Int)<L.length) by omega,show ¬((j:Int)+1<L.length) by omega]
  |cons b Cl =>
   rw[lc] at hlen
   have p1:=p1 b Cl rfl
   simp only[lK,kT,c9,decide_true,bta]
   by_cases b8:b.fOp=8
   ·simp only[b8,decide_true,bta]
    by_cases bn:b.fN=t.fN
    ·simp only[bn,decide_true,if_true]
     simp -implicitDefEqProofs (disch:=first|assumption|omega|(simp only[aE,aF,aD,i64,sa,aB,lm,la,lc,ln];omega)) only[go_sem,simprocAttr,p0,l0,c9,p1,b8,bn,show((j:Int)<L.length) by omega,show((j:Int)+1<L.length) by omega]
    ·simp only[bn,decide_false,Bool.false_eq_true,if_false]
     simp -implicitDefEqProofs (disch:=first|assumption|omega|(simp only[aE,aF,aD,i64,sa,aB,lm,la,lc,ln];omega)) only[go_sem,simprocAttr,p0,l0,c9,p1,b8,bn,show((j:Int)<L.length) by omega,show((j:Int)+1<L.length) by omega]
   ·simp only[b8,decide_false,bfa,Bool.false_eq_true,if_false]
    simp -implicitDefEqProofs (disch:=first|assumption|omega|(simp only[aE,aF,aD,i64,sa,aB,lm,la,lc,ln];omega)) only[go_sem,simprocAttr,p0,l0,c9,p1,b8,show((j:Int)<L.length) by omega,show((j:Int)+1<L.length) by omega]
 ·have e:lK kT t Bl=false:=by cases Bl<;>simp[lK,kT,c9]
  rw[e]
  simp only[Bool.false_eq_true,if_false]
  simp -implicitDefEqProofs (disch:=first|assumption|omega|(simp only[aE,aF,aD,i64,sa,aB,lm,la,lc,ln];omega)) only[go_sem,simprocAttr,p0,l0,c9,show((j:Int)<L.length) by omega]
theorem mQ(t:ZA)(ts:List ZA):fL kT (t::ts)=(if lK kT t ts=true then [] else [t])++fL kT ts:=rfl
theorem zYb(L:List ZA)(hl:L.length≤900):∀(Bl:List ZA) (j:Nat) (V:List (List D)),L.drop j=Bl→V.length≤j →
  loopW tab [0,3,7,8,9] bU (idS L V (j:Int))=some (.ext 0,{env:=upd emp 3 (some (.ref (0,0) [])),heap:=upd emp (0,0) (some (.s 7 (V++(fL kT Bl).map ZA.uu))),fr:=0,next:=1})
 |[],j,V,hd,hV=>by
  have:=drop_nil hd
  simp only[fL,mn,zqe,idS]
  generalize L.map ZA.uu=R at *
  unfold loopW
  conv=>lhs;arg 1;unfold bU
  simp -implicitDefEqProofs (disch:=first|assumption|omega|(simp only[aE,aF,aD,i64,sa,aB,lm,la,lc,ln];omega)) only[go_sem,simprocAttr,show ¬((j:Int)<L.length) by omega]
 |t::Bl,j,V,hd,hV=>by
  rw[zYQ L hl t Bl j V hd hV,mQ]
  have ih:=fun V2 (h2:V2.length≤j+1)=>zYb L hl Bl (j+1) V2 (eK hd).2.2 h2
  rw[show(((j+1:Nat)):Int)=(j:Int)+1 by omega] at ih
  by_cases c:lK kT t Bl=true
  ·rw[if_pos c,if_pos c,zqf,←ih _ (by omega)]
  ·rw[if_neg c,if_neg c,List.map_append,mc,mn,←List.append_assoc,←ih _ (by simp;omega)]
theorem L4(L:List ZA)(hl:L.length≤900):call tab nF [.d (.r (L.map ZA.uu))]=some (.d (.s 7 ((fL kT L).map ZA.uu))):=by
 have g:=zYb L hl L 0 [] rfl (by simp)
 have l0:(L.map ZA.uu).length=L.length:=List.length_map _
 simp only[idS,zqf,show((0:Nat):Int)=0 from rfl] at g
 generalize (fL kT L).map ZA.uu=V at *
 generalize L.map ZA.uu=R at *
 rw[aQ An _ rfl,rW]
 simp -implicitDefEqProofs (disch:=first|assumption|omega|(simp only[aE,aF,aD,i64,sa,aB,lm,la,lc,ln];omega)) only[go_sem,simprocAttr,g,l0]
abbrev zky(Z V:List (List D))(n:Nat)(j:Int):St:={env:=upd (upd (upd (upd (upd emp 9 (some (I j))) 8 (some (I (n:Int)))) 7 (some (.ref (0,0) []))) 3 (some (.ref (1,0) []))) 0 (some (.ref (0,0) [])),heap:=upd (upd emp (0,0) (some (.s 7 Z))) (1,0) (some (.s 7 V)),fr:=1,next:=1}
theorem zY2(A:List ZA)(t:ZA)(Bl:List ZA)(hl:A.length+Bl.length+1≤900)(V:List (List D))(hV:V.length≤A.length)(n:Nat)(hn:n=A.length+(Bl.length+1)) :
  loopW tab [0,3,7,8,9] bU (zky (A.map ZA.uu++(t::Bl).map ZA.o) V n (A.length:Int))=loopW tab [0,3,7,8,9] bU (zky ((A++[t]).map ZA.uu++Bl.map ZA.o) (if lK kT t Bl=true then V else V++[t.o]) n ((A.length:Int)+1)):=by
 obtain⟨p0,q0,l0⟩:=K0 A t Bl
 have l1:((A++[t]).map ZA.uu++Bl.map ZA.o).length=A.length+(Bl.length+1):=by
  rw[la,lm,lm,la,zqa]
  omega
 have p1:∀(b:ZA) (Cl:List ZA),Bl=b::Cl→((A++[t]).map ZA.uu++Bl.map ZA.o)[((A.length:Int)+1).toNat]? = some b.o:=fun b Cl e=>by
  rw[e,show((A.length:Int)+1).toNat=(A++[t]).length by simp]
  exact(K0 (A++[t]) b Cl).1
 have hdr:=bI
 simp only[zky]
 generalize A.map ZA.uu++(t::Bl).map ZA.o=R at *
 generalize (A++[t]).map ZA.uu++Bl.map ZA.o=R2 at *
 simp only[ZA.uu,ZA.o] at p0 q0 p1 ⊢
 conv=>lhs;unfold loopW;arg 1;unfold bU
 by_cases c9:t.fOp=9
 ·simp only[c9] at q0
  cases Bl with
  |nil =>
   simp only[lK,Bool.false_eq_true,if_false]
   rw[ln] at hn l1
   simp -implicitDefEqProofs (disch:=first|assumption|omega|(simp only[aE,aF,aD,i64,sa,aB,lm,la,lc,ln];omega)) only[go_sem,simprocAttr,p0,q0,l0,l1,c9,hdr,show((A.length:Int)<n) by omega]
  |cons b Cl =>
   rw[lc] at hn l1
   have p1:=p1 b Cl rfl
   simp only[lK,kT,c9,decide_true,bta]
   by_cases b8:b.fOp=8
   ·simp only[b8,decide_true,bta]
    by_cases bn:b.fN=t.fN
    ·simp only[bn,decide_true,if_true]
     simp -implicitDefEqProofs (disch:=first|assumption|omega|(simp only[aE,aF,aD,i64,sa,aB,lm,la,lc,ln];omega)) only[go_sem,simprocAttr,p0,q0,l0,l1,c9,p1,b8,bn,hdr,show((A.length:Int)<n) by omega]
    ·simp only[bn,decide_false,Bool.false_eq_true,if_false]
     simp -implicitDefEqProofs (disch:=first|assumption|omega|(simp only[aE,aF,aD,i64,sa,aB,lm,la,lc,ln];omega)) only[go_sem,simprocAttr,p0,q0,l0,l1,c9,p1,b8,bn,hdr,show((A.length:Int)<n) by omega]
   ·simp only[b8,decide_false,bfa,Bool.false_eq_true,if_false]
    simp -implicitDefEqProofs (disch:=first|assumption|omega|(simp only[aE,aF,aD,i64,sa,aB,lm,la,lc,ln];omega)) only[go_sem,simprocAttr,p0,q0,l0,l1,c9,p1,b8,hdr,show((A.length:Int)<n) by omega]
 ·have e:lK kT t Bl=false:=by cases Bl<;>simp[lK,kT,c9]
  rw[e]
  simp only[Bool.false_eq_true,if_false]
  simp -implicitDefEqProofs (disch:=first|assumption|omega|(simp only[aE,aF,aD,i64,sa,aB,lm,la,lc,ln];omega)) only[go_sem,simprocAttr,p0,q0,l0,l1,c9,hdr,show((A.length:Int)<n) by omega]
theorem zWW(n:Nat)(hn:n≤900):∀(Bl A:List ZA) (V:List (List D)),n=A.length+Bl.length→V.length≤A.length →
  loopW tab [0,3,7,8,9] bU (zky (A.map ZA.uu++Bl.map ZA.o) V n (A.length:Int))=some (.ext 0,{env:=upd emp 3 (some (.ref (1,0) [])),heap:=upd (upd emp (0,0) (some (.s 7 ((A++Bl).map ZA.uu)))) (1,0) (some (.s 7 (V++(fL kT Bl).map ZA.o))),fr:=1,next:=1})
 |[],A,V,hA,hV=>by
  have hdr:=bI
  rw[ln] at hA
  simp only[fL,mn,zqe,zky]
  generalize A.map ZA.uu=R at *
  unfold loopW
  conv=>lhs;arg 1;unfold bU
  simp -implicitDefEqProofs (disch:=first|assumption|omega|(simp only[aE,aF,aD,i64,sa,aB,lm,la,lc,ln];omega)) only[go_sem,simprocAttr,hdr,show ¬((A.length:Int)<n) by omega]
 |t::Bl,A,V,hA,hV=>by
  rw[lc] at hA
  rw[zY2 A t Bl (by omega) V hV n hA,mQ]
  have ih:=fun V2 (h2:V2.length≤A.length+1)=>zWW n hn Bl (A++[t]) V2 (by simp;omega) (by simpa using h2)
  rw[la,zqa,show(((A.length+1:Nat)):Int)=(A.length:Int)+1 by omega,zqc,List.singleton_append] at ih
  by_cases c:lK kT t Bl=true
  ·rw[if_pos c,if_pos c,zqf,←ih _ (by omega)]
  ·rw[if_neg c,if_neg c,List.map_append (l₁:=[t]),show([t]:List ZA).map ZA.o=[t.o] from rfl,←List.append_assoc V,←ih _ (by simp;omega)]
theorem Md(L:List ZA)(hl:L.length≤900):evCW tab nF [.ref (0,0) []] (upd emp (0,0) (some (.s 7 (L.map ZA.o)))) 1=some (.d (.s 7 ((fL kT L).map ZA.o)),upd emp (0,0) (some (.s 7 (L.map ZA.uu)))):=by
 have g:=zWW L.length hl L [] [] (by simp) (by simp)
 have l0:(L.map ZA.o).length=L.length:=List.length_map _
 have hdr:=bI
 simp only[zky,zqf,mn,ln,show((0:Nat):Int)=0 from rfl] at g
 generalize (fL kT L).map ZA.o=V at *
 generalize L.map ZA.uu=R2 at *
 generalize L.map ZA.o=R at *
 rw[bW An _ _ _ rfl,rW]
 simp -implicitDefEqProofs (disch:=first|assumption|omega|(simp only[aE,aF,aD,i64,sa,aB,lm,la,lc,ln];omega)) only[go_sem,simprocAttr,g,l0,hdr]
set_option maxRecDepth 8000
set_option maxHeartbeats 16000000
def zM(n:Int)(x:ZA):Bool:=(decide (x.fOp=9)||decide (x.fOp=10))&&decide (x.fN=n)
theorem Qr(L:List ZA)(n:Int):goG kT L n=L.any (zM n):=rfl
theorem wK(t x:ZA)(c:X)(a kc:Nat)(e:D)(h:Heap)(fr:Nat)(hh:bA fr h=h)(ha:a<fr)(hk:h (a,kc)=some (.s 7 [[DI t.fOp,DI t.fD,DI t.fA,DI t.fB,DI t.fN,DS t.fS,e]])):evCW tab l6 [xq' x c,.ptr (a,kc) [] 0 0] h fr=some (B (zM t.fN x),h):=by
 rw[bW Jb _ _ _ rfl,yW]
 unfold zM
 by_cases c9:x.fOp=9
 ·by_cases cn:x.fN=t.fN
  ·simp only[c9,cn,decide_true,Bool.true_or,bat]
   simp -implicitDefEqProofs (disch:=first|assumption|omega|(simp only[aE,aF,aD,i64,sa,aB,lm,la,lc,ln];omega)) only[go_sem,simprocAttr,hh,hk,c9,cn,show ¬a=fr by omega,show ¬0=fr by omega]
  ·simp only[c9,cn,decide_true,decide_false,Bool.true_or,Cc]
   simp -implicitDefEqProofs (disch:=first|assumption|omega|(simp only[aE,aF,aD,i64,sa,aB,lm,la,lc,ln];omega)) only[go_sem,simprocAttr,hh,hk,c9,cn,show ¬a=fr by omega,show ¬0=fr by omega]
 ·by_cases c10:x.fOp=10
  ·by_cases cn:x.fN=t.fN
   ·simp only[c10,cn,decide_true,Bool.or_true,bat]
    simp -implicitDefEqProofs (disch:=first|assumption|omega|(simp only[aE,aF,aD,i64,sa,aB,lm,la,lc,ln];omega)) only[go_sem,simprocAttr,hh,hk,c10,cn,show ¬a=fr by omega,show ¬0=fr by omega]
   ·simp only[c10,cn,decide_true,decide_false,Bool.or_true,Cc]
    simp -implicitDefEqProofs (disch:=first|assumption|omega|(simp only[aE,aF,aD,i64,sa,aB,lm,la,lc,ln];omega)) only[go_sem,simprocAttr,hh,hk,c10,cn,show ¬a=fr by omega,show ¬0=fr by omega]
  ·simp only[c9,c10,decide_false,Bool.or_false,bfa]
   simp -implicitDefEqProofs (disch:=first|assumption|omega|(simp only[aE,aF,aD,i64,sa,aB,lm,la,lc,ln];omega)) only[go_sem,simprocAttr,hh,hk,c9,c10,show ¬a=fr by omega,show ¬0=fr by omega]
theorem zQC(f a kc:Nat)(p:ZA→Bool)(h:Heap)(fr:Nat)(hh:bA fr h=h)(ha:a<fr)(xs:List ZA)(hx:xs.length≤900)(hf:∀x∈xs,evCW tab f [xq' x (.d .u),.ptr (a,kc) [] 0 0] h (fr+1)=some (B (p x),h)):∀(Bl:List ZA) (j:Int),xs.drop j.toNat=Bl→0≤j →
  loopW tab [0,1,7,8] aS {env:=upd (upd (upd (upd emp 8 (some (I j))) 7 (some (I (xs.length:Int)))) 1 (some (.clo f [.ptr (a,kc) [] 0 0]))) 0 (some (.d (.r (xs.map (ZA.uu))))),heap:=h,fr:=fr,next:=0}=if aU p j Bl= -1 then some (.ext 0,{env:=emp,heap:=h,fr:=fr,next:=0}) else some (.ret,{env:=upd emp 4 (some (I (aU p j Bl))),heap:=h,fr:=fr,next:=0})
 |[],j,hd,hj=>by
  unfold loopW
  conv=>lhs;arg 1;unfold aS
  have:=dR hd hj
  simp only[aU,if_true]
  (repeat'(first|simp -implicitDefEqProofs (disch:=first|assumption|omega|(simp only[aE,aF,aD,i64,sa,aB,lm,la,lc,ln];omega)) only[go_sem,simprocAttr,hh,show ¬a=fr by omega]|((first|rw[aO]|rw[aH]|rw[aI]|rw[aM]|rw[aN]|rw[aJ]|rw[aG]|rw[aL]|skip);split)))
 |x::Bl,j,hd,hj=>by
  unfold loopW
  conv=>lhs;arg 1;unfold aS
  have h4:=(cE hd hj).2.1
  have ih:=zQC f a kc p h fr hh ha xs hx hf Bl (j+1) (cE hd hj).2.2.1 (by omega)
  have h2:=j4 (ZA.uu) (cE hd hj).1
  simp only[ZA.uu] at h2
  have h3:=hf x (cE hd hj).2.2.2.1
  simp only[xq'] at h3
  rw[aU]
  by_cases hp:p x=true
  ·rw[if_pos hp,if_neg (by omega)]
   (repeat'(first|simp -implicitDefEqProofs (disch:=first|assumption|omega|(simp only[aE,aF,aD,i64,sa,aB,lm,la,lc,ln];omega)) only[go_sem,simprocAttr,h2,show ¬a=fr by omega,h3,hh]|((first|rw[aO]|rw[aH]|rw[aI]|rw[aM]|rw[aN]|rw[aJ]|rw[aG]|rw[aL]|skip);split)))
  ·rw[if_neg hp,←ih]
   (repeat'(first|simp -implicitDefEqProofs (disch:=first|assumption|omega|(simp only[aE,aF,aD,i64,sa,aB,lm,la,lc,ln];omega)) only[go_sem,simprocAttr,h2,show ¬a=fr by omega,h3,hh]|((first|rw[aO]|rw[aH]|rw[aI]|rw[aM]|rw[aN]|rw[aJ]|rw[aG]|rw[aL]|skip);split)))
theorem zXI(f a kc:Nat)(p:ZA→Bool)(h:Heap)(fr:Nat)(hh:bA fr h=h)(hh':bA (fr+1) h=h)(ha:a<fr)(xs:List ZA)(hx:xs.length≤900)(hf:∀x∈xs,evCW tab f [xq' x (.d .u),.ptr (a,kc) [] 0 0] h (fr+2)=some (B (p x),h)):evCW tab bF [.d (.r (xs.map ZA.uu)),.clo f [.ptr (a,kc) [] 0 0]] h fr=some (B (xs.any p),h):=by
 have h0:=zQC f a kc p h (fr+1) hh' (by omega) xs hx hf xs 0 rfl (by omega)
 have h1:evCW tab aZ [.d (.r (xs.map ZA.uu)),.clo f [.ptr (a,kc) [] 0 0]] h (fr+1)=some (I (aU p 0 xs),h):=by
  rw[bW cL _ _ _ rfl,bG]
  by_cases hp:aU p 0 xs= -1
  ·rw[if_pos hp] at h0
   (repeat'(first|simp -implicitDefEqProofs (disch:=first|assumption|omega|(simp only[aE,aF,aD,i64,sa,aB,lm,la,lc,ln];omega)) only[go_sem,simprocAttr,hh',h0,hp,show ¬a=fr+1 by omega]|((first|rw[aO]|rw[aH]|rw[aI]|rw[aM]|rw[aN]|rw[aJ]|rw[aG]|rw[aL]|skip);split)))
  ·rw[if_neg hp] at h0
   (repeat'(first|simp -implicitDefEqProofs (disch:=first|assumption|omega|(simp only[aE,aF,aD,i64,sa,aB,lm,la,lc,ln];omega)) only[go_sem,simprocAttr,hh',h0,hp,show ¬a=fr+1 by omega]|((first|rw[aO]|rw[aH]|rw[aI]|rw[aM]|rw[aN]|rw[aJ]|rw[aG]|rw[aL]|skip);split)))
 rw[bW dF _ _ _ rfl,bZ,qM p 0 (by omega)]
 (repeat'(first|simp -implicitDefEqProofs (disch:=first|assumption|omega|(simp only[aE,aF,aD,i64,sa,aB,lm,la,lc,ln];omega)) only[go_sem,simprocAttr,hh,h1,show ¬a=fr by omega]|((first|rw[aO]|rw[aH]|rw[aI]|rw[aM]|rw[aN]|rw[aJ]|rw[aG]|rw[aL]|skip);split)))
theorem zQI(f a kc:Nat)(p:ZA→Bool)(h:Heap)(fr:Nat)(hh:bA fr h=h)(ha:a<fr)(xs:List ZA)(hx:xs.length≤900)(Z:List (List D))(hz:Z.length=xs.length)(hZ:∀(i:Nat) (x:ZA),xs[i]? = some x→Z[i]? = some x.uu∨Z[i]? = some x.o)(hk:h (0,0)=some (.s 7 Z))(hf:∀x∈xs,∀c,evCW tab f [xq' x c,.ptr (a,kc) [] 0 0] h (fr+1)=some (B (p x),h)):∀(Bl:List ZA) (j:Int),xs.drop j.toNat=Bl→0≤j →
  loopW tab [0,1,7,8] aS {env:=upd (upd (upd (upd emp 8 (some (I j))) 7 (some (I (xs.length:Int)))) 1 (some (.clo f [.ptr (a,kc) [] 0 0]))) 0 (some (.ref (0,0) [])),heap:=h,fr:=fr,next:=0}=if aU p j Bl= -1 then some (.ext 0,{env:=emp,heap:=h,fr:=fr,next:=0}) else some (.ret,{env:=upd emp 4 (some (I (aU p j Bl))),heap:=h,fr:=fr,next:=0})
 |[],j,hd,hj=>by
  unfold loopW
  conv=>lhs;arg 1;unfold aS
  have:=dR hd hj
  simp only[aU,if_true]
  (repeat'(first|simp -implicitDefEqProofs (disch:=first|assumption|omega|(simp only[aE,aF,aD,i64,sa,aB,lm,la,lc,ln];omega)) only[go_sem,simprocAttr,hh,show ¬a=fr by omega,show ¬0=fr by omega]|((first|rw[aO]|rw[aH]|rw[aI]|rw[aM]|rw[aN]|rw[aJ]|rw[aG]|rw[aL]|skip);split)))
 |x::Bl,j,hd,hj=>by
  unfold loopW
  conv=>lhs;arg 1;unfold aS
  have h4:=(cE hd hj).2.1
  have ih:=zQI f a kc p h fr hh ha xs hx Z hz hZ hk hf Bl (j+1) (cE hd hj).2.2.1 (by omega)
  have h2:=hZ j.toNat x (cE hd hj).1
  simp only[ZA.uu,ZA.o] at h2
  have h3:=hf x (cE hd hj).2.2.2.1
  simp only[xq'] at h3
  rw[aU]
  by_cases hp:p x=true
  ·rw[if_pos hp,if_neg (by omega)]
   rcases h2 with h2|h2<;>(repeat'(first|simp -implicitDefEqProofs (disch:=first|assumption|omega|(simp only[aE,aF,aD,i64,sa,aB,lm,la,lc,ln];omega)) only[go_sem,simprocAttr,h2,hk,hz,show ¬a=fr by omega,show ¬0=fr by omega,h3,hh]|((first|rw[aO]|rw[aH]|rw[aI]|rw[aM]|rw[aN]|rw[aJ]|rw[aG]|rw[aL]|skip);split)))
  ·rw[if_neg hp,←ih]
   rcases h2 with h2|h2<;>(repeat'(first|simp -implicitDefEqProofs (disch:=first|assumption|omega|(simp only[aE,aF,aD,i64,sa,aB,lm,la,lc,ln];omega)) only[go_sem,simprocAttr,h2,hk,hz,show ¬a=fr by omega,show ¬0=fr by omega,h3,hh]|((first|rw[aO]|rw[aH]|rw[aI]|rw[aM]|rw[aN]|rw[aJ]|rw[aG]|rw[aL]|skip);split)))
theorem zY6(f a kc:Nat)(p:ZA→Bool)(h:Heap)(fr:Nat)(hh:bA fr h=h)(hh':bA (fr+1) h=h)(ha:a<fr)(xs:List ZA)(hx:xs.length≤900)(Z:List (List D))(hz:Z.length=xs.length)(hZ:∀(i:Nat) (x:ZA),xs[i]? = some x→Z[i]? = some x.uu∨Z[i]? = some x.o)(hk:h (0,0)=some (.s 7 Z))(hf:∀x∈xs,∀c,evCW tab f [xq' x c,.ptr (a,kc) [] 0 0] h (fr+2)=some (B (p x),h)):evCW tab bF [.ref (0,0) [],.clo f [.ptr (a,kc) [] 0 0]] h fr=some (B (xs.any p),h):=by
 have h0:=zQI f a kc p h (fr+1) hh' (by omega) xs hx Z hz hZ hk hf xs 0 rfl (by omega)
 have h1:evCW tab aZ [.ref (0,0) [],.clo f [.ptr (a,kc) [] 0 0]] h (fr+1)=some (I (aU p 0 xs),h):=by
  rw[bW cL _ _ _ rfl,bG]
  by_cases hp:aU p 0 xs= -1
  ·rw[if_pos hp] at h0
   (repeat'(first|simp -implicitDefEqProofs (disch:=first|assumption|omega|(simp only[aE,aF,aD,i64,sa,aB,lm,la,lc,ln];omega)) only[go_sem,simprocAttr,hh',hk,hz,h0,hp,show ¬a=fr+1 by omega,show ¬0=fr+1 by omega]|((first|rw[aO]|rw[aH]|rw[aI]|rw[aM]|rw[aN]|rw[aJ]|rw[aG]|rw[aL]|skip);split)))
  ·rw[if_neg hp] at h0
   (repeat'(first|simp -implicitDefEqProofs (disch:=first|assumption|omega|(simp only[aE,aF,aD,i64,sa,aB,lm,la,lc,ln];omega)) only[go_sem,simprocAttr,hh',hk,hz,h0,hp,show ¬a=fr+1 by omega,show ¬0=fr+1 by omega]|((first|rw[aO]|rw[aH]|rw[aI]|rw[aM]|rw[aN]|rw[aJ]|rw[aG]|rw[aL]|skip);split)))
 rw[bW dF _ _ _ rfl,bZ,qM p 0 (by omega)]
 (repeat'(first|simp -implicitDefEqProofs (disch:=first|assumption|omega|(simp only[aE,aF,aD,i64,sa,aB,lm,la,lc,ln];omega)) only[go_sem,simprocAttr,hh,h1,show ¬a=fr by omega,show ¬0=fr by omega]|((first|rw[aO]|rw[aH]|rw[aI]|rw[aM]|rw[aN]|rw[aJ]|rw[aG]|rw[aL]|skip);split)))
end Go.Ev.G
