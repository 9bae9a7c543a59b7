import Derived.Test.YtenclibcnjkamaaGreatEvPBet12
set_option linter.all false
namespace Go.Ev.G
set_option maxRecDepth 8000
set_option maxHeartbeats 16000000
theorem zJa(u:ZB)(V:List (List D))(T:D)(S:List Int)(i n:Int)(hm:u.fRegs≤250)(hS:S.length≤250):∀(Bl:List Int) (k:Int) (so:List Int),S.drop k.toNat=Bl→0≤k→(so.length:Int)=u.fRegs→(∀r∈Bl,0≤r∧r<u.fRegs) →
  loopW tab [2,3,4,6,21,22,23,37,38,39] jV {env:=upd (upd (upd (upd (upd (upd (upd (upd (upd (upd emp 39 (some (I k))) 38 (some (I (S.length:Int)))) 37 (some (.d (.r (aP S))))) 23 (some (I i))) 22 (some (I n))) 21 (some (.ref (0,1) [(0,3)]))) 6 (some (.ptr (0,3) [] 0 0))) 4 (some (.ref (0,2) []))) 3 (some (.ptr (0,1) [] 0 0))) 2 (some (.ptr (0,0) [] 0 0)),heap:=fwH u V (dJ so) T,fr:=0,next:=4} =
  some (.ext 2,{env:=upd (upd (upd (upd (upd (upd (upd emp 23 (some (I i))) 22 (some (I n))) 21 (some (.ref (0,1) [(0,3)]))) 6 (some (.ptr (0,3) [] 0 0))) 4 (some (.ref (0,2) []))) 3 (some (.ptr (0,1) [] 0 0))) 2 (some (.ptr (0,0) [] 0 0)),heap:=fwH u V (dJ (Bl.foldl fgt so)) T,fr:=0,next:=4})
 |[],k,so,hd,hk,hl,hr=>by
  have hh:=dW hd hk
  have l2:(aP S).length=S.length:=bC S
  simp only[List.foldl_nil]
  generalize aP S=Z at *
  generalize aP (dJ so)=Y at *
  unfold loopW
  conv=>lhs;arg 1;unfold jV
  simp -implicitDefEqProofs (disch:=first|assumption|omega|(simp only[aE,aF,aD,i64,sa,aB,lm,la,lc,ln];omega)) only[go_sem,simprocAttr,hh,l2]
 |r::Bl,k,so,hd,hk,hl,hr=>by
  have hc:=b7 hd hk
  have h2:=kH (fun n=>[DI n]) hc.1
  have h4:=hc.2.1
  obtain⟨b0,b1⟩:=hr r (by simp)
  have ih:=zJa u V T S i n hm hS Bl (k+1) (fgt so r) hc.2.2.1 (by omega) (by rw[Uh];exact hl) (fun z hz=>hr z (by simp[hz]))
  have g0:=M1 so (by omega) r b0 (by omega)
  have l2:(aP S).length=S.length:=bC S
  have hnr:=qT (dJ (fgt so r))
  rw[List.foldl_cons,←ih]
  clear ih
  simp only[fwH] at g0 ⊢
  generalize aP (dJ (fgt so r))=Z2 at *
  generalize aP (dJ so)=Z0 at *
  conv=>lhs;unfold loopW;arg 1;unfold jV
  simp -implicitDefEqProofs (disch:=first|assumption|omega|(simp only[aE,aF,aD,i64,sa,aB,lm,la,lc,ln];omega)) only[go_sem,simprocAttr,h2,h4,l2,g0,hnr]
abbrev ifS(u:ZB)(V:List (List D))(so:List Int)(n:Nat)(j:Int):St:={env:=upd (upd (upd (upd (upd (upd emp 23 (some (I j))) 22 (some (I (n:Int)))) 21 (some (.ref (0,1) [(0,3)]))) 4 (some (.ref (0,2) []))) 3 (some (.ptr (0,1) [] 0 0))) 2 (some (.ptr (0,0) [] 0 0)),heap:=upd (upd (upd emp (0,2) (some (.s 1 (aP (dJ so))))) (0,1) (some (fE u (.s 7 V)))) (0,0) (some qQ),fr:=0,next:=3}
theorem zVH(u:ZB)(m:Nat)(hm:m≤250)(hr:u.fRegs=m)(so:List Int)(t t2:ZA)(S:List Int)(Z0:List (List D))(j:Int)(n:Nat)(h0:0≤j)(hj:j<n)(hn:n≤900)(l1:Z0.length=n)(p0:Z0[j.toNat]? = some t.o)(hs1:so.length=m)
  (g1:evCW tab nW [xq' t (.ref (0,0) []),.d (.r (aP (dJ so)))] (upd emp (0,0) (some (.s 1 (aP t.fArgs)))) 1=some (t2.xo,upd emp (0,0) none))
  (g3:call tab l5 [xq t2 .u]=some (.d (.s 1 (aP S)))) (hS:S.length≤2) (hsr:∀r∈S,0≤r∧r<(m:Int)) (hcp:t2.fOp=2→(0≤t2.fD∧t2.fD<(m:Int))∧0≤t2.fA) :
  loopW tab [2,3,4,21,22,23] eI (ifS u Z0 so n j)=loopW tab [2,3,4,21,22,23] eI (ifS u (Z0.set j.toNat t2.o) (if t2.fOp=8 then List.replicate m (-1) else cpS t2 (S.foldl fgt so)) n (j+1)):=by
 have hjn:j.toNat<Z0.length:=by omega
 have pu:(Z0.set j.toNat [DI t.fOp,DI t.fD,DI t.fA,DI t.fB,DI t.fN,DS t.fS,D.u])[j.toNat]? = some [DI t.fOp,DI t.fD,DI t.fA,DI t.fB,DI t.fN,DS t.fS,D.u]:=by
  rw[List.getElem?_set]
  simp[hjn]
 have q1:(Z0.set j.toNat [DI t.fOp,DI t.fD,DI t.fA,DI t.fB,DI t.fN,DS t.fS,D.u]).set j.toNat t2.o=Z0.set j.toNat t2.o:=by
  rw[List.set_set]
 have lu:(Z0.set j.toNat [DI t.fOp,DI t.fD,DI t.fA,DI t.fB,DI t.fN,DS t.fS,D.u]).length=n:=by rw[List.length_set,l1]
 have l4:(Z0.set j.toNat t2.o).length=n:=by rw[List.length_set,l1]
 have g2:=fun V T=>zJa u V T S j n (by omega) (by omega) S 0 so rfl (by omega) (by omega) (by rw[hr];exact hsr)
 have hnr:Sg [I t2.fOp,I t2.fD,I t2.fA,I t2.fB,I t2.fN,Str t2.fS,.d (.s 1 (aP t2.fArgs))]=true:=by simp[Sg,X.noRC,D.noR,qT]
 have e1:=dQ (dJ so)
 have e2:=dQ S
 have lS:=bC S
 have l3:(aP (dJ (S.foldl fgt so))).length=m:=by rw[bC,iH,dB,hs1]
 have g5:=Cy (dJ (S.foldl fgt so)) (by rw[iH,dB,hs1];exact hm)
 rw[iH,dB,hs1] at g5
 have n5:=qT (dJ (List.replicate m (-1)))
 have e3:t2.fOp=2→(aP (dJ (S.foldl fgt so))).set t2.fD.toNat [DI t2.fA]=aP (dJ ((S.foldl fgt so).set t2.fD.toNat t2.fA)):=fun h=>by
  rw[oJ,zZh _ (hcp h).1.1 (by rw[dB,hs1];exact(hcp h).1.2) (hcp h).2]
 have p3:t2.fOp=2→∃v,(aP (dJ (S.foldl fgt so)))[t2.fD.toNat]? = some [DI v]:=fun h=>⟨_,qK _ (hcp h).1.1 (by rw[dB,hs1];exact(hcp h).1.2)⟩
 simp only[fwH,fE] at g2
 unfold cpS
 simp only[xq',xq,ZA.o,ZA.xo,ifS] at g1 g3 p0 q1 l4 ⊢
 generalize hZU:(Z0.set j.toNat [DI t.fOp,DI t.fD,DI t.fA,DI t.fB,DI t.fN,DS t.fS,D.u])=ZU at *
 generalize aP S=ZS at *
 generalize aP (dJ so)=Z3 at *
 generalize S.foldl fgt so=sF at *
 conv=>lhs;unfold loopW;arg 1;unfold eI
 by_cases c2:t2.fOp=2
 ·obtain⟨v,hv⟩:=p3 c2
  obtain⟨⟨b0,b1⟩,b2⟩:=hcp c2
  have e3:=e3 c2
  rw[c2] at g1 g3 q1 hnr l4
  by_cases c3:t2.fD=t2.fA
  ·rw[if_neg (by omega),if_neg (fun h=>h.2 c3)]
   generalize aP (dJ sF)=Z4 at *
   simp only[c3] at g1 g3 q1 hnr l4
   simp -implicitDefEqProofs (disch:=first|assumption|omega|(simp only[aE,aF,aD,i64,sa,aB,lm,la,lc,ln];omega)) only[go_sem,simprocAttr,l1,p0,g1,hj,e1,hnr,hZU,pu,q1,lu,l4,g3,e2,g2,c2,c3,lS,l3]
  ·rw[if_neg (by omega),if_pos ⟨c2,c3⟩]
   generalize aP (dJ (sF.set t2.fD.toNat t2.fA))=Z5 at *
   generalize aP (dJ sF)=Z4 at *
   simp -implicitDefEqProofs (disch:=first|assumption|omega|(simp only[aE,aF,aD,i64,sa,aB,lm,la,lc,ln];omega)) only[go_sem,simprocAttr,l1,p0,g1,hj,e1,hnr,hZU,pu,q1,lu,l4,g3,e2,g2,c2,c3,hv,e3,l3,lS]
 ·by_cases c8:t2.fOp=8
  ·rw[if_pos c8]
   generalize aP (dJ (List.replicate m (-1)))=Z5 at *
   generalize aP (dJ sF)=Z4 at *
   rw[c8] at g1 g3 q1 hnr l4
   simp -implicitDefEqProofs (disch:=first|assumption|omega|(simp only[aE,aF,aD,i64,sa,aB,lm,la,lc,ln];omega)) only[go_sem,simprocAttr,l1,p0,g1,hj,e1,hnr,hZU,pu,q1,lu,l4,g3,e2,g2,c8,l3,lS,g5,n5]
  ·rw[if_neg c8,if_neg (fun h=>c2 h.1)]
   generalize aP (dJ sF)=Z4 at *
   simp -implicitDefEqProofs (disch:=first|assumption|omega|(simp only[aE,aF,aD,i64,sa,aB,lm,la,lc,ln];omega)) only[go_sem,simprocAttr,l1,p0,g1,hj,e1,hnr,hZU,pu,q1,lu,l4,g3,e2,g2,c2,c8,l3,lS]
set_option maxRecDepth 8000
set_option maxHeartbeats 16000000
theorem z8y{t:ZA}(h:t.fOp=8)(so so1:List Int):bD so t=bD so1 t:=by
 have h2:hb t 2=false:=by unfold hb;rw[h];decide
 have h4:hb t 4=false:=by unfold hb;rw[h];decide
 have h32:hb t 32=false:=by unfold hb;rw[h];decide
 simp[bD,h2,h4,h32]
theorem Ng{m:Nat}{so:List Int}(t:ZA):G8 m so t=(if (bD so t).fOp=8 then List.replicate m (-1) else cpS (bD so t) ((aY (bD so t)).foldl fgt so),bD so t):=by
 by_cases c:t.fOp=8
 ·have c2:(bD so t).fOp=8:=c
  have h1:hb t 1=false:=by unfold hb;rw[c];decide
  rw[Ss (so1:=List.replicate m (-1)) (fun _=>rfl) (fun h=>absurd c h),if_pos c2,zxt,z8y c so (List.replicate m (-1))]
  have e:aY t=[]:=by simp[aY,h1,c]
  rw[e,List.foldl_nil,cpS,if_neg (fun h=>by have:=h.1;have:t.fOp=2:=this;omega)]
 ·have c2:¬(bD so t).fOp=8:=c
  rw[Ss (so1:=so) (fun h=>absurd h c) (fun _=>rfl),if_neg c2]
theorem z8l{so:List Int}{r:Int}(h:0≤r):0≤ofZ so r:=by unfold ofZ;split<;>assumption
theorem zWT{m:Nat}{t:ZA}(hf:ROk m t)(so:List Int)(h:(bD so t).fOp=2):(0≤(bD so t).fD∧(bD so t).fD<(m:Int))∧0≤(bD so t).fA:=by
 have h2:hb t 2=true:=x5 (t:=t) h (by decide)
 refine⟨zKo hf so h,?_⟩
 simp only[bD,if_pos h2]
 exact z8l (hf.u _ (Qv h2)).1
theorem zK3(u:ZB)(m:Nat)(hm:m≤250)(hr:u.fRegs=m)(n:Nat)(hn:n≤900):∀(Bl:List ZA) (j:Int) (A:List ZA) (so:List Int),(A.length:Int)=j→A.length+Bl.length=n→so.length=m→(∀t∈Bl,ROk m t) →
  loopW tab [2,3,4,21,22,23] eI (ifS u ((A++Bl).map ZA.o) so n j) =
  some (.ext 0,{env:=upd (upd emp 3 (some (.ptr (0,1) [] 0 0))) 2 (some (.ptr (0,0) [] 0 0)),heap:=upd (upd emp (0,1) (some (fE u (.s 7 ((A++B5 m so Bl).map ZA.o))))) (0,0) (some qQ),fr:=0,next:=2})
 |[],j,A,so,hA,hAB,hso,hf=>by
  simp only[B5,zqe]
  rw[ln] at hAB
  generalize A.map ZA.o=Y at *
  unfold loopW
  conv=>lhs;arg 1;unfold eI
  simp -implicitDefEqProofs (disch:=first|assumption|omega|(simp only[aE,aF,aD,i64,sa,aB,lm,la,lc,ln];omega)) only[go_sem,simprocAttr,show ¬j<(n:Int) by omega]
 |t::Bl,j,A,so,hA,hAB,hso,hf=>by
  have hft:=hf t (by simp)
  rw[lc] at hAB
  have p0:((A++t::Bl).map ZA.o)[j.toNat]? = some t.o:=by
   rw[List.getElem?_map,List.getElem?_append_right (by omega),show j.toNat-A.length=0 by omega];rfl
  have l1:((A++t::Bl).map ZA.o).length=n:=by simp;omega
  have p1:∀t2:ZA,((A++t::Bl).map ZA.o).set j.toNat t2.o=(A++t2::Bl).map ZA.o:=fun t2=>by
   rw[List.map_append,List.map_append,List.set_append_right _ _ (by rw[lm];omega),lm,show j.toNat-A.length=0 by omega]
   rfl
  have st:=zVH u m hm hr so t (bD so t) (aY (bD so t)) _ j n (by omega) (by omega) hn l1 p0 hso (G1 t so (by omega) (by rw[hso];exact hft)) (Ps _) (F3 _) (fun r hr=>hft.s r (by rwa [zxt] at hr)) (zWT hft so)
  have ih:=zK3 u m hm hr n hn Bl (j+1) (A++[(G8 m so t).2]) (G8 m so t).1 (by simp;omega) (by simp;omega) (Xu hso t) (fun t ht=>hf t (by simp[ht]))
  simp only[zqc,List.cons_append,zqf] at ih
  rw[B5,←ih,st,p1,Ng]
theorem Ix(u:ZB)(hs:u.sm):call tab pL [u.x]=some (Gs u).xo:=by
 have g0:=eK u hs
 have g1:=jN u hs
 by_cases hu:jR u=true
 ·have hr:=hP hu
  rw[hu] at g1
  obtain⟨r0,r1⟩:=hr.regs
  have g3:=Cy (List.replicate u.fRegs.toNat 0) (by simp;omega)
  have n3:=qT (dJ (List.replicate u.fRegs.toNat (-1)))
  have e2:aP (List.replicate u.fRegs.toNat 0)=List.replicate u.fRegs.toNat [DI 0]:=by simp[aP]
  rw[e2,List.length_replicate] at g3
  have g2:=zK3 u u.fRegs.toNat (by omega) (by omega) u.fCode.length hr.len.2 u.fCode 0 [] (List.replicate u.fRegs.toNat (-1)) rfl (by simp) (by simp) (fun t ht=>U3 hu ht)
  simp only[ifS,fE,zqf] at g2
  have l0:(u.fCode.map ZA.o).length=u.fCode.length:=List.length_map _
  rw[Gs,if_pos hu]
  simp only[ZB.xo] at g0 ⊢
  generalize (B5 u.fRegs.toNat (List.replicate u.fRegs.toNat (-1)) u.fCode).map ZA.o=Z at *
  generalize aP (dJ (List.replicate u.fRegs.toNat (-1)))=Z1 at *
  rw[aQ B3 _ rfl,qS]
  simp -implicitDefEqProofs (disch:=first|assumption|omega|(simp only[aE,aF,aD,i64,sa,aB,lm,la,lc,ln];omega)) only[go_sem,simprocAttr,g0,g1,g2,g3,n3,l0]
 ·rw[Bool.not_eq_true] at hu
  rw[hu] at g1
  rw[Gs,if_neg (by rw[hu];simp),aQ B3 _ rfl,qS]
  simp -implicitDefEqProofs (disch:=first|assumption|omega|(simp only[aE,aF,aD,i64,sa,aB,lm,la,lc,ln];omega)) only[go_sem,simprocAttr,g0,g1]
set_option maxRecDepth 8000
set_option maxHeartbeats 16000000
def kM(op:Int):Bool:=inB op 1 7||decide (op=23)||decide (op=24)
def Ez(M:List BL)(k:Nat)(t:ZA):Bool:= !kM t.fOp||tV (aX M k) t.fD
def bZ(M:List BL):Nat→List ZA→List ZA
 |_,[]=>[]
 |k,t::ts=>(if Ez M k t=true then [t] else [])++bZ M (k+1) ts
theorem m9(M:List BL):∀(ts:List ZA) (k:Nat),(bZ M k ts).length≤ts.length
 |[],k=>by simp[bZ]
 |t::ts,k=>by
  have:=m9 M ts (k+1)
  rw[bZ,la,lc]
  split<;>simp<;>omega
theorem Q9(M:List BL):∀(ts:List ZA) (k:Nat),(bZ M k ts).length=ts.length→bZ M k ts=ts
 |[],k,_=>rfl
 |t::ts,k,h=>by
  have h2:=m9 M ts (k+1)
  rw[bZ,la,lc] at h
  rw[bZ]
  split at h
  ·rename_i c
   rw[if_pos c,Q9 M ts (k+1) (by simp at h;omega)];rfl
  ·simp at h;omega
theorem Co(M:List BL):∀(ts:List ZA) (k:Nat) (t:ZA),t∈bZ M k ts→t∈ts
 |[],k,t,h=>by simp[bZ] at h
 |x::ts,k,t,h=>by
  rw[bZ,List.mem_append] at h
  rcases h with h|h
  ·split at h
   ·simp at h;simp[h]
   ·simp at h
  ·exact List.mem_cons_of_mem _ (Co M ts (k+1) t h)
theorem Yc(M:List BL):∀(ts:List ZA) (k:Nat) (t:ZA),kM t.fOp=false→t∈ts→t∈bZ M k ts
 |[],k,t,hp,h=>by simp at h
 |x::ts,k,t,hp,h=>by
  rw[bZ,List.mem_append]
  rcases List.mem_cons.1 h with h|h
  ·left
   rw[←h,if_pos (by simp[Ez,hp])]
   simp
  ·right
   exact Yc M ts (k+1) t hp h
theorem My(M:List BL):∀(ts:List ZA) (k:Nat) (t:ZA),ts.getLast? = some t→kM t.fOp=false→(bZ M k ts).getLast? = some t
 |[],k,t,h,hp=>by simp at h
 |[x],k,t,h,hp=>by
  simp at h
  subst h
  rw[bZ,if_pos (by simp[Ez,hp]),bZ]
  rfl
 |x::y::ts,k,t,h,hp=>by
  rw[List.getLast?_cons_cons] at h
  have ih:=My M (y::ts) (k+1) t h hp
  rw[bZ,List.getLast?_append,ih]
  rfl
noncomputable def deadI (u:ZB):ZB:=⟨u.fName,u.fParams,u.fRegs,bZ (live u) 0 u.fCode⟩
noncomputable def deadR:Nat→ZB→ZB
 |0,u=>u
 |k+1,u=>if (bZ (live u) 0 u.fCode).length=u.fCode.length then u else deadR k (deadI u)
noncomputable def deadU (u:ZB):ZB:=if jR u=true then deadR u.fCode.length u else u
theorem Tx{u:ZB}(h:u.sm):(deadI u).sm:=by
 refine⟨h.1,?_,fun t ht=>h.2.2 t (Co _ _ _ t ht)⟩
 have:=m9 (live u) u.fCode 0
 exact Nat.le_trans this h.2.1
theorem Mu{u:ZB}(h:Right u):Right (deadI u):=by
 obtain⟨t0,ht0⟩:∃t,u.fCode.getLast? = some t:=by
  have:=h.len.1
  cases e:u.fCode.getLast? with
  |none=>rw[List.getLast?_eq_none_iff] at e;rw[e] at this;simp at this
  |some t=>exact⟨t,rfl⟩
 have hl0:=h.last t0 (by rw[←List.getLast?_eq_getElem?];exact ht0)
 have hk:=My (live u) u.fCode 0 t0 ht0 (by rcases hl0 with e|e|e<;>rw[e]<;>decide)
 have hn:1≤(bZ (live u) 0 u.fCode).length:=by
  cases e:bZ (live u) 0 u.fCode with
  |nil=>rw[e] at hk;simp at hk
  |cons a l=>simp
 refine⟨h.regs,h.pars,⟨hn,?_⟩,fun k t ht r hr=> ?_,fun k t ht ho=> ?_,fun t ht=> ?_⟩
 ·have:=m9 (live u) u.fCode 0
  exact Nat.le_trans this h.len.2
 ·have hm:=Co _ _ _ t (List.mem_of_getElem? ht)
  exact Cj h hm r hr
 ·have hm:=Co _ _ _ t (List.mem_of_getElem? ht)
  obtain⟨k2,hk2⟩:=List.mem_iff_getElem?.1 hm
  have h8:=(h.lab k2 t hk2 ho).1
  have h9:0≤fU (bZ (live u) 0 u.fCode) t.fN:=by
   by_cases c:fU (bZ (live u) 0 u.fCode) t.fN= -1
   ·have:=(wL (rT t.fN) (bZ (live u) 0 u.fCode) 0 (by omega)).1 c
    have h10:fU u.fCode t.fN= -1:=(wL (rT t.fN) u.fCode 0 (by omega)).2 (fun x hx=>by
     cases e:rT t.fN x with
     |false=>rfl
     |true =>
      have e2:x.fOp=8:=by
       simp only[rT,bE,zqd] at e
       exact e.1
      have:=this x (Yc _ _ _ x (by rw[e2];decide) hx)
      rw[this] at e
      exact absurd e (by decide))
    omega
   ·have:=wJ (rT t.fN) (bZ (live u) 0 u.fCode) 0 (by omega)
    unfold fU at c ⊢
    omega
  exact⟨h9,by have:=Eh (rT t.fN) (bZ (live u) 0 u.fCode) 0 (by omega) h9;unfold fU;simp only[deadI];omega⟩
 ·have:t=t0:=by
   rw[←List.getLast?_eq_getElem?] at ht
   simp only[deadI] at ht
   rw[hk] at ht
   exact(Option.some.inj ht).symm
  rw[this]
  exact hl0
theorem Jc(op:Int):call tab v7 [I op]=some (B (kM op)):=by
 have g:=dC op 1 7
 rw[aQ Kn _ rfl,Am]
 unfold kM
 generalize inB op 1 7=b at *
 cases b
 ·by_cases c:op=23
  ·subst c;simp -implicitDefEqProofs (disch:=first|assumption|omega|(simp only[aE,aF,aD,i64,sa,aB,lm,la,lc,ln];omega)) only[go_sem,simprocAttr,g]
  ·by_cases c2:op=24
   ·subst c2;simp -implicitDefEqProofs (disch:=first|assumption|omega|(simp only[aE,aF,aD,i64,sa,aB,lm,la,lc,ln];omega)) only[go_sem,simprocAttr,g]
   ·simp -implicitDefEqProofs (disch:=first|assumption|omega|(simp only[aE,aF,aD,i64,sa,aB,lm,la,lc,ln];omega)) only[go_sem,simprocAttr,g,c,c2]
 ·simp -implicitDefEqProofs (disch:=first|assumption|omega|(simp only[aE,aF,aD,i64,sa,aB,lm,la,lc,ln];omega)) only[go_sem,simprocAttr,g]
theorem Mf(op:Int):call tab Bi [I op]=some (B (kM op)):=by
 have g:=cT op 1 7
 rw[aQ Pq _ rfl,Du]
 unfold kM
 generalize inB op 1 7=b at *
 cases b
 ·by_cases c:op=23
  ·subst c;simp -implicitDefEqProofs (disch:=first|assumption|omega|(simp only[aE,aF,aD,i64,sa,aB,lm,la,lc,ln];omega)) only[go_sem,simprocAttr,g]
  ·by_cases c2:op=24
   ·subst c2;simp -implicitDefEqProofs (disch:=first|assumption|omega|(simp only[aE,aF,aD,i64,sa,aB,lm,la,lc,ln];omega)) only[go_sem,simprocAttr,g]
   ·simp -implicitDefEqProofs (disch:=first|assumption|omega|(simp only[aE,aF,aD,i64,sa,aB,lm,la,lc,ln];omega)) only[go_sem,simprocAttr,g,c,c2]
 ·simp -implicitDefEqProofs (disch:=first|assumption|omega|(simp only[aE,aF,aD,i64,sa,aB,lm,la,lc,ln];omega)) only[go_sem,simprocAttr,g]
set_option maxRecDepth 8000
set_option maxHeartbeats 16000000
abbrev ocD(b:Bool)(R:List (List D)):D:=if b=true then .s 7 R else .r R
abbrev ocX(b:Bool)(R:List (List D)):X:=if b=true then .ref (0,1) [(0,3)] else .d (.r R)
theorem zqS{M:List BL}{k:Nat}(h:k<M.length):(bMr M)[k]? = some [D.r (bR (aX M k))]:=by
 rw[List.getElem?_map,List.getElem?_eq_getElem h]
 simp[aX,h]
theorem zQR(u:ZB)(b:Bool)(M I1:List BL)(hM:M.length=u.fCode.length)(hl:u.fCode.length≤900)(m:Nat)(hm:m≤250)(hrow:∀k,k<M.length→(aX M k).length=m)(hp:∀t∈u.fCode,kM t.fOp=true→0≤t.fD∧t.fD<m):∀(Bl:List ZA) (j:Nat) (V:List (List D)),u.fCode.drop j=Bl→V.length≤j →
  loopW tab [2,3,4,5,18,19,20] eG {env:=upd (upd (upd (upd (upd (upd (upd emp 20 (some (I (j:Int)))) 19 (some (I (u.fCode.length:Int)))) 18 (some (ocX b (u.fCode.map ZA.r)))) 5 (some (.ref (0,2) []))) 4 (some (.rop [.r (u.fCode.map ZA.r),.r (bMr I1),.r (bMr M)]))) 3 (some (.ptr (0,1) [] 0 0))) 2 (some (.ptr (0,0) [] 0 0)),heap:=upd (upd (upd emp (0,2) (some (.s 7 V))) (0,1) (some (fE u (ocD b (u.fCode.map ZA.r))))) (0,0) (some qQ),fr:=0,next:=3} =
  some (.ext 2,{env:=upd (upd (upd emp 5 (some (.ref (0,2) []))) 3 (some (.ptr (0,1) [] 0 0))) 2 (some (.ptr (0,0) [] 0 0)),heap:=upd (upd (upd emp (0,2) (some (.s 7 (V++(bZ M j Bl).map ZA.r)))) (0,1) (some (fE u (ocD b (u.fCode.map ZA.r))))) (0,0) (some qQ),fr:=0,next:=3})
 |[],j,V,hd,hV=>by
  have hlj:u.fCode.length≤j:=by
   have:=congrArg List.length hd
   rw[List.length_drop,ln] at this
   omega
  simp only[bZ,mn,zqe]
  generalize u.fCode.map ZA.r=R at *
  unfold loopW
  conv=>lhs;arg 1;unfold eG
  cases b<;>simp only[ocX,ocD,if_true,Bool.false_eq_true,if_false]<;>simp -implicitDefEqProofs (disch:=first|assumption|omega|(simp only[aE,aF,aD,i64,sa,aB,lm,la,lc,ln];omega)) only[go_sem,simprocAttr,show ¬((j:Int)<u.fCode.length) by omega]
 |t::Bl,j,V,hd,hV=>by
  have hlen:u.fCode.length=j+(Bl.length+1):=by
   have:=congrArg List.length hd
   rw[List.length_drop,lc] at this
   omega
  have hd2:u.fCode.drop (j+1)=Bl:=by
   have:=congrArg (List.drop 1) hd
   rw[List.drop_drop] at this
   simpa[Nat.add_comm] using this
  have ht:u.fCode[j]? = some t:=by
   have:=congrArg (fun l=>l[0]?) hd
   simpa using this
  have p0:(u.fCode.map ZA.r)[j]? = some t.r:=by rw[List.getElem?_map,ht];rfl
  have l0:(u.fCode.map ZA.r).length=u.fCode.length:=List.length_map _
  have p1:=zqS (M:=M) (k:=j) (by omega)
  have l1:(bMr M).length=u.fCode.length:=by rw[lm,hM]
  have gp:=Mf t.fOp
  have hr:=hrow j (by omega)
  have l2:(bR (aX M j)).length=m:=by rw[y8,hr]
  have p2:kM t.fOp=true→(bR (aX M j))[t.fD.toNat]? = some [DB (tV (aX M j) t.fD)]:=fun h=>eY (by rw[hr];have:=hp t (List.mem_of_getElem? ht) h;omega)
  have hpt:=hp t (List.mem_of_getElem? ht)
  have ih:=fun V2 (h2:V2.length≤j+1)=>zQR u b M I1 hM hl m hm hrow hp Bl (j+1) V2 hd2 h2
  rw[show(((j+1:Nat)):Int)=(j:Int)+1 by omega] at ih
  rw[bZ,Ez]
  simp only[ZA.r] at p0
  have key:∀kb:Bool,(kM t.fOp=true→tV (aX M j) t.fD=kb)→loopW tab [2,3,4,5,18,19,20] eG {env:=upd (upd (upd (upd (upd (upd (upd emp 20 (some (I (j:Int)))) 19 (some (I (u.fCode.length:Int)))) 18 (some (ocX b (u.fCode.map ZA.r)))) 5 (some (.ref (0,2) []))) 4 (some (.rop [.r (u.fCode.map ZA.r),.r (bMr I1),.r (bMr M)]))) 3 (some (.ptr (0,1) [] 0 0))) 2 (some (.ptr (0,0) [] 0 0)),heap:=upd (upd (upd emp (0,2) (some (.s 7 V))) (0,1) (some (fE u (ocD b (u.fCode.map ZA.r))))) (0,0) (some qQ),fr:=0,next:=3} =
    loopW tab [2,3,4,5,18,19,20] eG {env:=upd (upd (upd (upd (upd (upd (upd emp 20 (some (I ((j:Int)+1)))) 19 (some (I (u.fCode.length:Int)))) 18 (some (ocX b (u.fCode.map ZA.r)))) 5 (some (.ref (0,2) []))) 4 (some (.rop [.r (u.fCode.map ZA.r),.r (bMr I1),.r (bMr M)]))) 3 (some (.ptr (0,1) [] 0 0))) 2 (some (.ptr (0,0) [] 0 0)),heap:=upd (upd (upd emp (0,2) (some (.s 7 (if (!kM t.fOp||kb)=true then V++[t.r] else V)))) (0,1) (some (fE u (ocD b (u.fCode.map ZA.r))))) (0,0) (some qQ),fr:=0,next:=3}:=fun kb hkb=>by
   clear ih
   generalize u.fCode.map ZA.r=R at *
   generalize bMr M=ML at *
   generalize bMr I1=IL at *
   generalize bR (aX M j)=K at *
   simp only[ZA.r]
   cases hpb:kM t.fOp<;>rw[hpb] at gp
   ·simp only[Bool.not_false,Bool.true_or,if_true]
    conv=>lhs;unfold loopW;arg 1;unfold eG
    cases b<;>simp only[ocX,ocD,if_true,Bool.false_eq_true,if_false]<;>simp -implicitDefEqProofs (disch:=first|assumption|omega|(simp only[aE,aF,aD,i64,sa,aB,lm,la,lc,ln];omega)) only[go_sem,simprocAttr,p0,l0,gp,show((j:Int)<u.fCode.length) by omega]
   ·have p2:=p2 hpb
    rw[hkb hpb] at p2
    obtain⟨d0,d1⟩:=hpt hpb
    simp only[Bool.not_true,Bool.false_or]
    cases kb
    ·simp only[Bool.false_eq_true,if_false]
     conv=>lhs;unfold loopW;arg 1;unfold eG
     cases b<;>simp only[ocX,ocD,if_true,Bool.false_eq_true,if_false]<;>simp -implicitDefEqProofs (disch:=first|assumption|omega|(simp only[aE,aF,aD,i64,sa,aB,lm,la,lc,ln];omega)) only[go_sem,simprocAttr,p0,l0,gp,p1,l1,p2,l2,show((j:Int)<u.fCode.length) by omega]
    ·simp only[if_true]
     conv=>lhs;unfold loopW;arg 1;unfold eG
     cases b<;>simp only[ocX,ocD,if_true,Bool.false_eq_true,if_false]<;>simp -implicitDefEqProofs (disch:=first|assumption|omega|(simp only[aE,aF,aD,i64,sa,aB,lm,la,lc,ln];omega)) only[go_sem,simprocAttr,p0,l0,gp,p1,l1,p2,l2,show((j:Int)<u.fCode.length) by omega]
  rw[key _ (fun _=>rfl)]
  by_cases c:(!kM t.fOp||tV (aX M j) t.fD)=true
  ·rw[if_pos c,if_pos c,List.map_append,mc,mn,←List.append_assoc,←ih _ (by simp;omega)]
  ·rw[if_neg c,if_neg c,zqf,←ih _ (by omega)]
set_option maxRecDepth 8000
set_option maxHeartbeats 16000000
def goB(M:List BL):Nat→List ZA→Bool→Bool
 |_,[],tn=>tn
 |k,t::ts,tn=>goB M (k+1) ts (if Ez M k t=true then tn else true)
theorem zJG(M:List BL):∀(ts:List ZA) (k:Nat),goB M k ts true=true
 |[],k=>rfl
 |t::ts,k=>by rw[goB,show(if Ez M k t=true then true else true)=true by split<;>rfl,zJG M ts (k+1)]
theorem zKp(M:List BL):∀(ts:List ZA) (k:Nat),goB M k ts false= !decide ((bZ M k ts).length=ts.length)
 |[],k=>by simp[goB,bZ]
 |t::ts,k=>by
  have h2:=m9 M ts (k+1)
  rw[goB,bZ,la,lc]
  by_cases c:Ez M k t=true
  ·rw[if_pos c,if_pos c,zKp M ts (k+1),zqa]
   congr 1
   exact decide_eq_decide.2 ⟨fun h=>by omega,fun h=>by omega⟩
  ·rw[if_neg c,if_neg c,zJG,ln]
   simp;omega
theorem zKz(u:ZB)(b:Bool)(M:List BL)(hM:M.length=u.fCode.length)(hl:u.fCode.length≤900)(m:Nat)(hm:m≤250)(hrow:∀k,k<M.length→(aX M k).length=m)(hp:∀t∈u.fCode,kM t.fOp=true→0≤t.fD∧t.fD<m):∀(Bl:List ZA) (j:Nat) (V:List (List D)) (tn:Bool),u.fCode.drop j=Bl→V.length≤j →
  loopW tab [2,3,4,5,6,7] eE {env:=upd (upd (upd (upd (upd (upd emp 7 (some (I (j:Int)))) 6 (some (.ref (0,2) []))) 5 (some (.d (.r (bMr M))))) 4 (some (B tn))) 3 (some (.ptr (0,1) [] 0 0))) 2 (some (.ptr (0,0) [] 0 0)),heap:=upd (upd (upd emp (0,2) (some (.s 7 V))) (0,1) (some (fE u (ocD b (u.fCode.map ZA.r))))) (0,0) (some qQ),fr:=0,next:=3} =
  some (.ext 2,{env:=upd (upd (upd (upd emp 6 (some (.ref (0,2) []))) 4 (some (B (goB M j Bl tn)))) 3 (some (.ptr (0,1) [] 0 0))) 2 (some (.ptr (0,0) [] 0 0)),heap:=upd (upd (upd emp (0,2) (some (.s 7 (V++(bZ M j Bl).map ZA.r)))) (0,1) (some (fE u (ocD b (u.fCode.map ZA.r))))) (0,0) (some qQ),fr:=0,next:=3})
 |[],j,V,tn,hd,hV=>by
  have hlj:u.fCode.length≤j:=by
   have:=congrArg List.length hd
   rw[List.length_drop,ln] at this
   omega
  simp only[bZ,goB,mn,zqe]
  have l0:(u.fCode.map ZA.r).length=u.fCode.length:=List.length_map _
  generalize u.fCode.map ZA.r=R at *
  unfold loopW
  conv=>lhs;arg 1;unfold eE
  cases b<;>simp only[ocX,ocD,if_true,Bool.false_eq_true,if_false]<;>simp -implicitDefEqProofs (disch:=first|assumption|omega|(simp only[aE,aF,aD,i64,sa,aB,lm,la,lc,ln];omega)) only[go_sem,simprocAttr,l0,show ¬((j:Int)<u.fCode.length) by omega]
 |t::Bl,j,V,tn,hd,hV=>by
  have hlen:u.fCode.length=j+(Bl.length+1):=by
   have:=congrArg List.length hd
   rw[List.length_drop,lc] at this
   omega
  have hd2:u.fCode.drop (j+1)=Bl:=by
   have:=congrArg (List.drop 1) hd
   rw[List.drop_drop] at this
   simpa[Nat.add_comm] using this
  have ht:u.fCode[j]? = some t:=by
   have:=congrArg (fun l=>l[0]?) hd
   simpa using this
  have p0:(u.fCode.map ZA.r)[j]? = some t.r:=by rw[List.getElem?_map,ht];rfl
  have l0:(u.fCode.map ZA.r).length=u.fCode.length:=List.length_map _
  have p1:=zqS (M:=M) (k:=j) (by omega)
  have l1:(bMr M).length=u.fCode.length:=by rw[lm,hM]
  have gp:=Jc t.fOp
  have hr:=hrow j (by omega)
  have l2:(bR (aX M j)).length=m:=by rw[y8,hr]
  have p2:kM t.fOp=true→(bR (aX M j))[t.fD.toNat]? = some [DB (tV (aX M j) t.fD)]:=fun h=>eY (by rw[hr];have:=hp t (List.mem_of_getElem? ht) h;omega)
  have hpt:=hp t (List.mem_of_getElem? ht)
  have ih:=fun V2 tn2 (h2:V2.length≤j+1)=>zKz u b M hM hl m hm hrow hp Bl (j+1) V2 tn2 hd2 h2
  rw[show(((j+1:Nat)):Int)=(j:Int)+1 by omega] at ih
  rw[goB]
  rw[bZ]
  unfold Ez
  simp only[ZA.r] at p0
  have key:∀kb:Bool,(kM t.fOp=true→tV (aX M j) t.fD=kb)→loopW tab [2,3,4,5,6,7] eE {env:=upd (upd (upd (upd (upd (upd emp 7 (some (I (j:Int)))) 6 (some (.ref (0,2) []))) 5 (some (.d (.r (bMr M))))) 4 (some (B tn))) 3 (some (.ptr (0,1) [] 0 0))) 2 (some (.ptr (0,0) [] 0 0)),heap:=upd (upd (upd emp (0,2) (some (.s 7 V))) (0,1) (some (fE u (ocD b (u.fCode.map ZA.r))))) (0,0) (some qQ),fr:=0,next:=3} =
    loopW tab [2,3,4,5,6,7] eE {env:=upd (upd (upd (upd (upd (upd emp 7 (some (I ((j:Int)+1)))) 6 (some (.ref (0,2) []))) 5 (some (.d (.r (bMr M))))) 4 (some (B (if (!kM t.fOp||kb)=true then tn else true)))) 3 (some (.ptr (0,1) [] 0 0))) 2 (some (.ptr (0,0) [] 0 0)),heap:=upd (upd (upd emp (0,2) (some (.s 7 (if (!kM t.fOp||kb)=true then V++[t.r] else V)))) (0,1) (some (fE u (ocD b (u.fCode.map ZA.r))))) (0,0) (some qQ),fr:=0,next:=3}:=fun kb hkb=>by
   clear ih
   generalize u.fCode.map ZA.r=R at *
   generalize bMr M=ML at *
   generalize bR (aX M j)=K at *
   simp only[ZA.r]
   cases hpb:kM t.fOp<;>rw[hpb] at gp
   ·simp only[Bool.not_false,Bool.true_or,if_true]
    conv=>lhs;unfold loopW;arg 1;unfold eE
    cases b<;>simp only[ocX,ocD,if_true,Bool.false_eq_true,if_false]<;>simp -implicitDefEqProofs (disch:=first|assumption|omega|(simp only[aE,aF,aD,i64,sa,aB,lm,la,lc,ln];omega)) only[go_sem,simprocAttr,p0,l0,gp,show((j:Int)<u.fCode.length) by omega]
   ·have p2:=p2 hpb
    rw[hkb hpb] at p2
    obtain⟨d0,d1⟩:=hpt hpb
    simp only[Bool.not_true,Bool.false_or]
    cases kb
    ·simp only[Bool.false_eq_true,if_false]
     conv=>lhs;unfold loopW;arg 1;unfold eE
     cases b<;>simp only[ocX,ocD,if_true,Bool.false_eq_true,if_false]<;>simp -implicitDefEqProofs (disch:=first|assumption|omega|(simp only[aE,aF,aD,i64,sa,aB,lm,la,lc,ln];omega)) only[go_sem,simprocAttr,p0,l0,gp,p1,l1,p2,l2,show((j:Int)<u.fCode.length) by omega]
    ·simp only[if_true]
     conv=>lhs;unfold loopW;arg 1;unfold eE
     cases b<;>simp only[ocX,ocD,if_true,Bool.false_eq_true,if_false]<;>simp -implicitDefEqProofs (disch:=first|assumption|omega|(simp only[aE,aF,aD,i64,sa,aB,lm,la,lc,ln];omega)) only[go_sem,simprocAttr,p0,l0,gp,p1,l1,p2,l2,show((j:Int)<u.fCode.length) by omega]
  rw[key _ (fun _=>rfl)]
  by_cases c:(!kM t.fOp||tV (aX M j) t.fD)=true
  ·rw[if_pos c,if_pos c,if_pos c,List.map_append,mc,mn,←List.append_assoc,←ih _ _ (by simp;omega)]
  ·rw[if_neg c,if_neg c,if_neg c,zqf,←ih _ _ (by omega)]
set_option maxRecDepth 8000
set_option maxHeartbeats 16000000
theorem zKn{u:ZB}(h:Right u){t:ZA}(ht:t∈u.fCode)(hp:kM t.fOp=true):0≤t.fD∧t.fD<(u.fRegs.toNat:Int):=by
 have h1:hb t 1=true:=by
  simp only[kM,inB,Bool.or_eq_true,bE,zqd] at hp
  have:t.fOp=1∨t.fOp=2∨t.fOp=3∨t.fOp=4∨t.fOp=5∨t.fOp=6∨t.fOp=7∨t.fOp=23∨t.fOp=24:=by omega
  rcases this with e|e|e|e|e|e|e|e|e<;>exact x5 e (by decide)
 have:=Cj h ht _ (zZq h1)
 have:=h.regs
 omega
theorem zJN(L:List ZA):(L.map ZA.r).map (fun el=>el.map D.toR)=L.map ZA.r:=by
 rw[List.map_map]
 exact List.map_congr_left fun t _=>rfl
theorem J5(L:List ZA):fzs (L.map ZA.r)=L.map ZA.r:=pS _ _ (fun a=>ZA.fzlr a) L
theorem z8Q(M:List BL):D.noR.noRss (bM M)=true:=lZ _ (fun a=>by simp[D.noR.noRs,D.noR,lZ]) M
abbrev eU(u:ZB)(c:D):St:={env:=upd (upd emp 3 (some (.ptr (0,1) [] 0 0))) 2 (some (.ptr (0,0) [] 0 0)),heap:=upd (upd emp (0,1) (some (fE u c))) (0,0) (some qQ),fr:=0,next:=2}
theorem zVx:∀(k:Nat) (u:ZB),u.fCode.length≤k→Right u→u.sm→loopW tab [2,3] nV (eU u (.r (u.fCode.map ZA.r))) =
  some (.ret,{env:=upd emp 2 (some (.ptr (0,0) [] 0 0)),heap:=upd emp (0,0) (some (fE (deadR k u) (.r ((deadR k u).fCode.map ZA.r)))),fr:=0,next:=1})
 |0,u,hk,hr,hs=>by
  have:=hr.len.1
  omega
 |k+1,u,hk,hr,hs=>by
  have hlen:=hr.len
  have hregs:=hr.regs
  obtain⟨I1,hI,hL,g1⟩:=Mw u hr hs
  have g2:=zQR u false (live u) I1 hL.rows.len hlen.2 u.fRegs.toNat (by omega) (fun k hk=>hL.rows.row k (by rw[hL.rows.len] at hk;exact hk)) (fun t ht hp=>zKn hr ht hp) u.fCode 0 [] rfl (by simp)
  have hkl:=m9 (live u) u.fCode 0
  have l0:(u.fCode.map ZA.r).length=u.fCode.length:=List.length_map _
  have l2:((bZ (live u) 0 u.fCode).map ZA.r).length=(bZ (live u) 0 u.fCode).length:=List.length_map _
  have e0:=J5 u.fCode
  have e1:=J5 (bZ (live u) 0 u.fCode)
  have gc:=Ej mW ((bZ (live u) 0 u.fCode).map ZA.r) (by simp[aD];omega) (by simp[ZA.r])
  rw[zJN] at gc
  simp only[zqf,show((0:Nat):Int)=0 from rfl,ocX,ocD,Bool.false_eq_true,if_false] at g2
  rw[deadR]
  by_cases c:(bZ (live u) 0 u.fCode).length=u.fCode.length
  ·rw[if_pos c]
   generalize (bZ (live u) 0 u.fCode).map ZA.r=V at *
   unfold loopW
   conv=>lhs;arg 1;unfold nV
   simp only[eU] at g2 ⊢
   simp -implicitDefEqProofs (disch:=first|assumption|omega|(simp only[aE,aF,aD,i64,sa,aB,lm,la,lc,ln];omega)) only[go_sem,simprocAttr,g1,g2,l0,l2,c,e0]
  ·rw[if_neg c]
   have ih:=zVx k (deadI u) (by have:(deadI u).fCode.length=(bZ (live u) 0 u.fCode).length:=rfl;omega) (Mu hr) (Tx hs)
   rw[←ih]
   clear ih
   simp only[eU,fE,show(deadI u).fCode=bZ (live u) 0 u.fCode from rfl,show(deadI u).fName=u.fName from rfl,show(deadI u).fParams=u.fParams from rfl,show(deadI u).fRegs=u.fRegs from rfl] at g2 ⊢
   generalize (bZ (live u) 0 u.fCode).map ZA.r=V at *
   conv=>lhs;unfold loopW;arg 1;unfold nV
   simp -implicitDefEqProofs (disch:=first|assumption|omega|(simp only[aE,aF,aD,i64,sa,aB,lm,la,lc,ln];omega)) only[go_sem,simprocAttr,g1,g2,l0,l2,c,e0,e1,gc]
theorem Sd(u:ZB)(hs:u.sm):zWX (call tab Cm [u.x]) (deadU u):=by
 have g0:=eK u hs
 have g1:=jN u hs
 have e0:=ZA.fzs u.fCode
 by_cases hu:jR u=true
 ·have hr:=hP hu
  rw[hu] at g1
  have g2:=zVx u.fCode.length u (Nat.le_refl _) hr hs
  simp only[eU,fE] at g2
  have ed:deadU u=deadR u.fCode.length u:=by rw[deadU,if_pos hu]
  rw[ed]
  generalize deadR u.fCode.length u=w at *
  refine⟨w.x,?_,?_⟩
  ·simp only[ZB.x]
   rw[aQ H7 _ rfl,Bz]
   simp -implicitDefEqProofs (disch:=first|assumption|omega|(simp only[aE,aF,aD,i64,sa,aB,lm,la,lc,ln];omega)) only[go_sem,simprocAttr,g0,g1,g2,e0]
  ·simp only[ZB.x,X.frz,X.frzV,y6,X.frzC]
 ·rw[Bool.not_eq_true] at hu
  rw[hu] at g1
  refine⟨u.x,?_,?_⟩
  ·rw[aQ H7 _ rfl,Bz]
   simp -implicitDefEqProofs (disch:=first|assumption|omega|(simp only[aE,aF,aD,i64,sa,aB,lm,la,lc,ln];omega)) only[go_sem,simprocAttr,g0,g1,e0]
  ·rw[deadU,if_neg (by rw[hu];simp)]
   simp only[ZB.x,X.frz,X.frzV,y6,X.frzC]
set_option maxRecDepth 8000
set_option maxHeartbeats 16000000
abbrev sdS(u:ZB)(c:D)(tn:Bool):St:={env:=upd (upd (upd emp 4 (some (B tn))) 3 (some (.ptr (0,1) [] 0 0))) 2 (some (.ptr (0,0) [] 0 0)),heap:=upd (upd emp (0,1) (some (fE u c))) (0,0) (some qQ),fr:=0,next:=2}
theorem zVO(u:ZB)(c:D):loopW tab [2,3,4] iR (sdS u c false)=some (.ext 0,eU u c):=by
 unfold loopW
 conv=>lhs;arg 1;unfold iR
 simp -implicitDefEqProofs (disch:=first|assumption|omega|(simp only[aE,aF,aD,i64,sa,aB,lm,la,lc,ln];omega)) only[go_sem,simprocAttr]
theorem zKQ:∀(k:Nat) (u:ZB) (b:Bool),u.fCode.length≤k→Right u→u.sm→loopW tab [2,3,4] iR (sdS u (ocD b (u.fCode.map ZA.r)) true) =
  some (.ext 0,eU (deadR k u) (.s 7 ((deadR k u).fCode.map ZA.r)))
 |0,u,b,hk,hr,hs=>by
  have:=hr.len.1
  omega
 |k+1,u,b,hk,hr,hs=>by
  have hlen:=hr.len
  have hregs:=hr.regs
  obtain⟨hL,g1⟩:=N7 u hr hs
  have g2:=zKz u b (live u) hL.rows.len hlen.2 u.fRegs.toNat (by omega) (fun k hk=>hL.rows.row k (by rw[hL.rows.len] at hk;exact hk)) (fun t ht hp=>zKn hr ht hp) u.fCode 0 [] false rfl (by simp)
  have hkl:=m9 (live u) u.fCode 0
  have e0:=J5 u.fCode
  have e2:=zK5 (live u)
  have n2:=z8Q (live u)
  simp only[zqf,show((0:Nat):Int)=0 from rfl,zKp] at g2
  rw[deadR]
  by_cases c:(bZ (live u) 0 u.fCode).length=u.fCode.length
  ·have ek:=Q9 (live u) u.fCode 0 c
   rw[if_pos c,←zVO]
   rw[ek] at g2
   simp only[decide_true,Bool.not_true] at g2
   conv=>lhs;unfold loopW;arg 1;unfold iR
   cases b<;>simp only[sdS,ocX,ocD,if_true,Bool.false_eq_true,if_false] at g2 ⊢ <;> simp -implicitDefEqProofs (disch:=first|assumption|omega|(simp only[aE,aF,aD,i64,sa,aB,lm,la,lc,ln];omega)) only[go_sem,simprocAttr,g1,g2,e0,e2,n2]
  ·rw[if_neg c]
   have ih:=zKQ k (deadI u) true (by have:(deadI u).fCode.length=(bZ (live u) 0 u.fCode).length:=rfl;omega) (Mu hr) (Tx hs)
   rw[←ih]
   clear ih
   simp only[c,decide_false,Bool.not_false] at g2
   simp only[sdS,ocD,if_true,fE,show(deadI u).fCode=bZ (live u) 0 u.fCode from rfl,show(deadI u).fName=u.fName from rfl,show(deadI u).fParams=u.fParams from rfl,show(deadI u).fRegs=u.fRegs from rfl] at g2 ⊢
   generalize (bZ (live u) 0 u.fCode).map ZA.r=V at *
   conv=>lhs;unfold loopW;arg 1;unfold iR
   cases b<;>simp only[if_true,Bool.false_eq_true,if_false] at g2 ⊢ <;> simp -implicitDefEqProofs (disch:=first|assumption|omega|(simp only[aE,aF,aD,i64,sa,aB,lm,la,lc,ln];omega)) only[go_sem,simprocAttr,g1,g2,e0,e2,n2]
theorem R7(u:ZB)(hs:u.sm):zWX (call tab Cn [u.x]) (deadU u):=by
 have g0:=eX u hs
 have g1:=jS u hs
 have e0:=ZA.fzs u.fCode
 by_cases hu:jR u=true
 ·have hr:=hP hu
  rw[hu] at g1
  have g2:=zKQ u.fCode.length u false (Nat.le_refl _) hr hs
  simp only[sdS,eU,fE,ocD,Bool.false_eq_true,if_false] at g2
  have ed:deadU u=deadR u.fCode.length u:=by rw[deadU,if_pos hu]
  rw[ed]
  generalize deadR u.fCode.length u=w at *
  refine⟨.agg [Str w.fName,I w.fParams,I w.fRegs,.d (.s 7 (w.fCode.map ZA.r))],?_,?_⟩
  ·rw[aQ H2 _ rfl,Bm]
   simp -implicitDefEqProofs (disch:=first|assumption|omega|(simp only[aE,aF,aD,i64,sa,aB,lm,la,lc,ln];omega)) only[go_sem,simprocAttr,g0,g1,g2,e0]
  ·simp only[ZB.x,X.frz,X.frzV,y6,X.frzC,J5]
 ·rw[Bool.not_eq_true] at hu
  rw[hu] at g1
  refine⟨u.x,?_,?_⟩
  ·rw[aQ H2 _ rfl,Bm]
   simp -implicitDefEqProofs (disch:=first|assumption|omega|(simp only[aE,aF,aD,i64,sa,aB,lm,la,lc,ln];omega)) only[go_sem,simprocAttr,g0,g1,e0]
  ·rw[deadU,if_neg (by rw[hu];simp)]
   simp only[ZB.x,X.frz,X.frzV,y6,X.frzC]
set_option maxRecDepth 8000
set_option maxHeartbeats 16000000
def kT(t:ZA):Int×Int:=(t.fOp,t.fN)
def ZA.uu(x:ZA):List D:=[DI x.fOp,DI x.fD,DI x.fA,DI x.fB,DI x.fN,DS x.fS,.u]
theorem E2(op:Int):call tab pX [I op]=some (B (jJ op)):=Eo op
theorem c7{α:Type}{L:List α}{j:Nat}{t:α}{Bl:List α}(h:L.drop j=t::Bl):L[j]? = some t∧L.length=j+(Bl.length+1)∧L.drop (j+1)=Bl:=by
 refine⟨?_,?_,?_⟩
 ·have:=congrArg (fun l=>l[0]?) h
  simpa using this
 ·have:=congrArg List.length h
  rw[List.length_drop,lc] at this
  omega
 ·have:=congrArg (List.drop 1) h
  rw[List.drop_drop] at this
  simpa[Nat.add_comm] using this
theorem drop_nil{α:Type}{L:List α}{j:Nat}(h:L.drop j=[]):L.length≤j:=by
 have:=congrArg List.length h
 rw[List.length_drop,ln] at this
 omega
def pC(o:Bool)(t:ZA):Bool:=o||decide (t.fOp=8)
theorem nC(o:Bool)(t:ZA)(ts:List ZA):dI kT o (t::ts)=(if pC o t=true then [t] else [])++dI kT (pC o t&& !jJ t.fOp) ts:=rfl
abbrev imS(L:List ZA)(V:List (List D))(o:Bool)(j:Int):St:={env:=upd (upd (upd (upd (upd emp 10 (some (I j))) 9 (some (I (L.length:Int)))) 8 (some (.d (.r (L.map ZA.uu))))) 4 (some (B o))) 3 (some (.ref (0,0) [])),heap:=upd emp (0,0) (some (.s 7 V)),fr:=0,next:=1}
theorem z82(L:List ZA)(hl:L.length≤900)(t:ZA)(Bl:List ZA)(j:Nat)(V:List (List D))(o:Bool)(hd:L.drop j=t::Bl)(hV:V.length≤j) :
  loopW tab [3,4,8,9,10] dF (imS L V o (j:Int))=loopW tab [3,4,8,9,10] dF (imS L (if pC o t=true then V++[t.uu] else V) (pC o t&& !jJ t.fOp) ((j:Int)+1)):=by
 obtain⟨ht,hlen,_⟩:=c7 hd
 have p0:(L.map ZA.uu)[j]? = some t.uu:=by rw[List.getElem?_map,ht];rfl
 have l0:(L.map ZA.uu).length=L.length:=List.length_map _
 have ge:=E2 t.fOp
 simp only[imS]
 generalize L.map ZA.uu=R at *
 simp only[ZA.uu] at p0 ⊢
 unfold pC
 conv=>lhs;unfold loopW;arg 1;unfold dF
 by_cases c8:t.fOp=8
 ·have e8:jJ t.fOp=false:=by rw[c8];decide
  rw[e8] at ge ⊢
  simp only[c8,decide_true,Bool.or_true,Bool.not_false,bat,if_true] at ge p0 ⊢
  simp -implicitDefEqProofs (disch:=first|assumption|omega|(simp only[aE,aF,aD,i64,sa,aB,lm,la,lc,ln];omega)) only[go_sem,simprocAttr,p0,l0,c8,ge,show((j:Int)<L.length) by omega]
 ·simp only[c8,decide_false,Bool.or_false]
  generalize jJ t.fOp=e at *
  cases o<;>cases e<;>simp only[Bool.not_false,bat,Bool.not_true,uH,Bool.false_eq_true,if_true,if_false]<;>simp -implicitDefEqProofs (disch:=first|assumption|omega|(simp only[aE,aF,aD,i64,sa,aB,lm,la,lc,ln];omega)) only[go_sem,simprocAttr,p0,l0,c8,ge,show((j:Int)<L.length) by omega]
theorem zXN(L:List ZA)(hl:L.length≤900):∀(Bl:List ZA) (j:Nat) (V:List (List D)) (o:Bool),L.drop j=Bl→V.length≤j →
  loopW tab [3,4,8,9,10] dF (imS L V o (j:Int))=some (.ext 0,{env:=upd emp 3 (some (.ref (0,0) [])),heap:=upd emp (0,0) (some (.s 7 (V++(dI kT o Bl).map ZA.uu))),fr:=0,next:=1})
 |[],j,V,o,hd,hV=>by
  have:=drop_nil hd
  simp only[dI,mn,zqe,imS]
  generalize L.map ZA.uu=R at *
  unfold loopW
  conv=>lhs;arg 1;unfold dF
  simp -implicitDefEqProofs (disch:=first|assumption|omega|(simp only[aE,aF,aD,i64,sa,aB,lm,la,lc,ln];omega)) only[go_sem,simprocAttr,show ¬((j:Int)<L.length) by omega]
 |t::Bl,j,V,o,hd,hV=>by
  rw[z82 L hl t Bl j V o hd hV,nC]
  have ih:=fun V2 (h2:V2.length≤j+1)=>zXN L hl Bl (j+1) V2 (pC o t&& !jJ t.fOp) (c7 hd).2.2 h2
  rw[show(((j+1:Nat)):Int)=(j:Int)+1 by omega] at ih
  by_cases c:pC o t=true
  ·rw[if_pos c,if_pos c,List.map_append,mc,mn,←List.append_assoc,←ih _ (by simp;omega)]
  ·rw[if_neg c,if_neg c,zqf,←ih _ (by omega)]
theorem zjA(L:List ZA)(hl:L.length≤900):call tab Bs [.d (.r (L.map ZA.uu))]=some (.d (.s 7 ((dI kT true L).map ZA.uu))):=by
 have g:=zXN L hl L 0 [] true rfl (by simp)
 have l0:(L.map ZA.uu).length=L.length:=List.length_map _
 simp only[imS,zqf,show((0:Nat):Int)=0 from rfl] at g
 generalize (dI kT true L).map ZA.uu=V at *
 generalize L.map ZA.uu=R at *
 rw[aQ K4 _ rfl,D8]
 simp -implicitDefEqProofs (disch:=first|assumption|omega|(simp only[aE,aF,aD,i64,sa,aB,lm,la,lc,ln];omega)) only[go_sem,simprocAttr,g,l0]
abbrev zwK(Z V:List (List D))(n:Nat)(o:Bool)(j:Int):St:={env:=upd (upd (upd (upd (upd emp 10 (some (I j))) 9 (some (I (n:Int)))) 8 (some (.ref (0,0) []))) 4 (some (B o))) 3 (some (.ref (1,0) [])),heap:=upd (upd emp (0,0) (some (.s 7 Z))) (1,0) (some (.s 7 V)),fr:=1,next:=1}
theorem Nw(A:List ZA)(t:ZA)(Bl:List ZA):(A.map ZA.uu++(t::Bl).map ZA.o)[A.length]? = some t.o∧(A.map ZA.uu++(t::Bl).map ZA.o).set A.length t.uu=(A++[t]).map ZA.uu++Bl.map ZA.o∧(A.map ZA.uu++(t::Bl).map ZA.o).length=A.length+(Bl.length+1):=by
 refine⟨?_,?_,by simp⟩
 ·rw[List.getElem?_append_right (by simp)];simp
 ·rw[List.set_append_right _ _ (by simp)];simp
theorem z91(A:List ZA)(t:ZA)(Bl:List ZA)(hl:A.length+Bl.length+1≤900)(V:List (List D))(o:Bool)(hV:V.length≤A.length)(n:Nat)(hn:n=A.length+(Bl.length+1)) :
  loopW tab [3,4,8,9,10] dF (zwK (A.map ZA.uu++(t::Bl).map ZA.o) V n o (A.length:Int))=loopW tab [3,4,8,9,10] dF (zwK ((A++[t]).map ZA.uu++Bl.map ZA.o) (if pC o t=true then V++[t.o] else V) n (pC o t&& !jJ t.fOp) ((A.length:Int)+1)):=by
 obtain⟨p0,q0,l0⟩:=Nw A t Bl
 have ge:=E2 t.fOp
 have hdr:=bQ
 simp only[zwK]
 generalize A.map ZA.uu++(t::Bl).map ZA.o=R at *
 generalize (A++[t]).map ZA.uu++Bl.map ZA.o=R2 at *
 simp only[ZA.uu,ZA.o] at p0 q0 ⊢
 unfold pC
 conv=>lhs;unfold loopW;arg 1;unfold dF
 by_cases c8:t.fOp=8
 ·have e8:jJ t.fOp=false:=by rw[c8];decide
  rw[e8] at ge ⊢
  simp only[c8,decide_true,Bool.or_true,Bool.not_false,bat,if_true] at ge p0 q0 ⊢
  simp -implicitDefEqProofs (disch:=first|assumption|omega|(simp only[aE,aF,aD,i64,sa,aB,lm,la,lc,ln];omega)) only[go_sem,simprocAttr,p0,q0,l0,c8,ge,hdr,show((A.length:Int)<n) by omega]
 ·simp only[c8,decide_false,Bool.or_false]
  generalize jJ t.fOp=e at *
  cases o<;>cases e<;>simp only[Bool.not_false,bat,Bool.not_true,uH,Bool.false_eq_true,if_true,if_false]<;>simp -implicitDefEqProofs (disch:=first|assumption|omega|(simp only[aE,aF,aD,i64,sa,aB,lm,la,lc,ln];omega)) only[go_sem,simprocAttr,p0,q0,l0,c8,ge,hdr,show((A.length:Int)<n) by omega]
theorem z9r(n:Nat)(hn:n≤900):∀(Bl A:List ZA) (V:List (List D)) (o:Bool),n=A.length+Bl.length→V.length≤A.length →
  loopW tab [3,4,8,9,10] dF (zwK (A.map ZA.uu++Bl.map ZA.o) V n o (A.length:Int))=some (.ext 0,{env:=upd emp 3 (some (.ref (1,0) [])),heap:=upd (upd emp (0,0) (some (.s 7 ((A++Bl).map ZA.uu)))) (1,0) (some (.s 7 (V++(dI kT o Bl).map ZA.o))),fr:=1,next:=1})
 |[],A,V,o,hA,hV=>by
  have hdr:=bQ
  rw[ln] at hA
  simp only[dI,mn,zqe,zwK]
  generalize A.map ZA.uu=R at *
  unfold loopW
  conv=>lhs;arg 1;unfold dF
  simp -implicitDefEqProofs (disch:=first|assumption|omega|(simp only[aE,aF,aD,i64,sa,aB,lm,la,lc,ln];omega)) only[go_sem,simprocAttr,hdr,show ¬((A.length:Int)<n) by omega]
 |t::Bl,A,V,o,hA,hV=>by
  rw[lc] at hA
  rw[z91 A t Bl (by omega) V o hV n hA,nC]
  have ih:=fun V2 (h2:V2.length≤A.length+1)=>z9r n hn Bl (A++[t]) V2 (pC o t&& !jJ t.fOp) (by simp;omega) (by simpa using h2)
  rw[la,zqa,show(((A.length+1:Nat)):Int)=(A.length:Int)+1 by omega,zqc,List.singleton_append] at ih
  by_cases c:pC o t=true
  ·rw[if_pos c,if_pos c,List.map_append (l₁:=[t]),show([t]:List ZA).map ZA.o=[t.o] from rfl,←List.append_assoc V,←ih _ (by simp;omega)]
  ·rw[if_neg c,if_neg c,zqf,←ih _ (by omega)]
theorem zzY(L:List ZA)(hl:L.length≤900):evCW tab Bs [.ref (0,0) []] (upd emp (0,0) (some (.s 7 (L.map ZA.o)))) 1=some (.d (.s 7 ((dI kT true L).map ZA.o)),upd emp (0,0) (some (.s 7 (L.map ZA.uu)))):=by
 have g:=z9r L.length hl L [] [] true (by simp) (by simp)
 have l0:(L.map ZA.o).length=L.length:=List.length_map _
 have hdr:=bQ
 simp only[zwK,zqf,mn,ln,show((0:Nat):Int)=0 from rfl] at g
 generalize (dI kT true L).map ZA.o=V at *
 generalize L.map ZA.uu=R2 at *
 generalize L.map ZA.o=R at *
 rw[bU K4 _ _ _ rfl,D8]
 simp -implicitDefEqProofs (disch:=first|assumption|omega|(simp only[aE,aF,aD,i64,sa,aB,lm,la,lc,ln];omega)) only[go_sem,simprocAttr,g,l0,hdr]
set_option maxRecDepth 8000
set_option maxHeartbeats 16000000
abbrev idS(L:List ZA)(V:List (List D))(j:Int):St:={env:=upd (upd (upd (upd (upd emp 9 (some (I j))) 8 (some (I (L.length:Int)))) 7 (some (.d (.r (L.map ZA.uu))))) 3 (some (.ref (0,0) []))) 0 (some (.d (.r (L.map ZA.uu)))),heap:=upd emp (0,0) (some (.s 7 V)),fr:=0,next:=1}
theorem z8e(L:List ZA)(hl:L.length≤900)(t:ZA)(Bl:List ZA)(j:Nat)(V:List (List D))(hd:L.drop j=t::Bl)(hV:V.length≤j) :
  loopW tab [0,3,7,8,9] bY (idS L V (j:Int))=loopW tab [0,3,7,8,9] bY (idS L (if mH kT t Bl=true then V else V++[t.uu]) ((j:Int)+1)):=by
 obtain⟨ht,hlen,hd2⟩:=c7 hd
 have p0:(L.map ZA.uu)[j]? = some t.uu:=by rw[List.getElem?_map,ht];rfl
 have l0:(L.map ZA.uu).length=L.length:=List.length_map _
 have p1:∀(b:ZA) (Cl:List ZA),Bl=b::Cl→(L.map ZA.uu)[((j:Int)+1).toNat]? = some b.uu:=fun b Cl e=>by
  rw[show((j:Int)+1).toNat=j+1 by omega,List.getElem?_map,(c7 (e ▸ hd2:L.drop (j+1)=b::Cl)).1];rfl
 simp only[idS]
 generalize L.map ZA.uu=R at *
 simp only[ZA.uu] at p0 p1 ⊢
 conv=>lhs;unfold loopW;arg 1;unfold bY
 by_cases c9:t.fOp=9
 ·cases Bl with
  |nil =>
   simp only[mH,Bool.false_eq_true,if_false]
   rw[ln] at hlen
   simp -implicitDefEqProofs (disch:=first|assumption|omega|(simp only[aE,aF,aD,i64,sa,aB,lm,la,lc,ln];omega)) only[go_sem,simprocAttr,p0,l0,c9,show((j:Int)<L.length) by omega,show ¬((j:Int)+1<L.length) by omega]
  |cons b Cl =>
   rw[lc] at hlen
   have p1:=p1 b Cl rfl
   simp only[mH,kT,c9,decide_true,bta]
   by_cases b8:b.fOp=8
   ·simp only[b8,decide_true,bta]
    by_cases bn:b.fN=t.fN
    ·simp only[bn,decide_true,if_true]
     simp -implicitDefEqProofs (disch:=first|assumption|omega|(simp only[aE,aF,aD,i64,sa,aB,lm,la,lc,ln];omega)) only[go_sem,simprocAttr,p0,l0,c9,p1,b8,bn,show((j:Int)<L.length) by omega,show((j:Int)+1<L.length) by omega]
    ·simp only[bn,decide_false,Bool.false_eq_true,if_false]
     simp -implicitDefEqProofs (disch:=first|assumption|omega|(simp only[aE,aF,aD,i64,sa,aB,lm,la,lc,ln];omega)) only[go_sem,simprocAttr,p0,l0,c9,p1,b8,bn,show((j:Int)<L.length) by omega,show((j:Int)+1<L.length) by omega]
   ·simp only[b8,decide_false,bfa,Bool.false_eq_true,if_false]
    simp -implicitDefEqProofs (disch:=first|assumption|omega|(simp only[aE,aF,aD,i64,sa,aB,lm,la,lc,ln];omega)) only[go_sem,simprocAttr,p0,l0,c9,p1,b8,show((j:Int)<L.length) by omega,show((j:Int)+1<L.length) by omega]
 ·have e:mH kT t Bl=false:=by cases Bl<;>simp[mH,kT,c9]
  rw[e]
  simp only[Bool.false_eq_true,if_false]
  simp -implicitDefEqProofs (disch:=first|assumption|omega|(simp only[aE,aF,aD,i64,sa,aB,lm,la,lc,ln];omega)) only[go_sem,simprocAttr,p0,l0,c9,show((j:Int)<L.length) by omega]
theorem nQ(t:ZA)(ts:List ZA):gH kT (t::ts)=(if mH kT t ts=true then [] else [t])++gH kT ts:=rfl
theorem zXX(L:List ZA)(hl:L.length≤900):∀(Bl:List ZA) (j:Nat) (V:List (List D)),L.drop j=Bl→V.length≤j →
  loopW tab [0,3,7,8,9] bY (idS L V (j:Int))=some (.ext 0,{env:=upd emp 3 (some (.ref (0,0) [])),heap:=upd emp (0,0) (some (.s 7 (V++(gH kT Bl).map ZA.uu))),fr:=0,next:=1})
 |[],j,V,hd,hV=>by
  have:=drop_nil hd
  simp only[gH,mn,zqe,idS]
  generalize L.map ZA.uu=R at *
  unfold loopW
  conv=>lhs;arg 1;unfold bY
  simp -implicitDefEqProofs (disch:=first|assumption|omega|(simp only[aE,aF,aD,i64,sa,aB,lm,la,lc,ln];omega)) only[go_sem,simprocAttr,show ¬((j:Int)<L.length) by omega]
 |t::Bl,j,V,hd,hV=>by
  rw[z8e L hl t Bl j V hd hV,nQ]
  have ih:=fun V2 (h2:V2.length≤j+1)=>zXX L hl Bl (j+1) V2 (c7 hd).2.2 h2
  rw[show(((j+1:Nat)):Int)=(j:Int)+1 by omega] at ih
  by_cases c:mH kT t Bl=true
  ·rw[if_pos c,if_pos c,zqf,←ih _ (by omega)]
  ·rw[if_neg c,if_neg c,List.map_append,mc,mn,←List.append_assoc,←ih _ (by simp;omega)]
theorem Oa(L:List ZA)(hl:L.length≤900):call tab oK [.d (.r (L.map ZA.uu))]=some (.d (.s 7 ((gH kT L).map ZA.uu))):=by
 have g:=zXX L hl L 0 [] rfl (by simp)
 have l0:(L.map ZA.uu).length=L.length:=List.length_map _
 simp only[idS,zqf,show((0:Nat):Int)=0 from rfl] at g
 generalize (gH kT L).map ZA.uu=V at *
 generalize L.map ZA.uu=R at *
 rw[aQ Dl _ rfl,tS]
 simp -implicitDefEqProofs (disch:=first|assumption|omega|(simp only[aE,aF,aD,i64,sa,aB,lm,la,lc,ln];omega)) only[go_sem,simprocAttr,g,l0]
abbrev zvj(Z V:List (List D))(n:Nat)(j:Int):St:={env:=upd (upd (upd (upd (upd emp 9 (some (I j))) 8 (some (I (n:Int)))) 7 (some (.ref (0,0) []))) 3 (some (.ref (1,0) []))) 0 (some (.ref (0,0) [])),heap:=upd (upd emp (0,0) (some (.s 7 Z))) (1,0) (some (.s 7 V)),fr:=1,next:=1}
theorem z9M(A:List ZA)(t:ZA)(Bl:List ZA)(hl:A.length+Bl.length+1≤900)(V:List (List D))(hV:V.length≤A.length)(n:Nat)(hn:n=A.length+(Bl.length+1)) :
  loopW tab [0,3,7,8,9] bY (zvj (A.map ZA.uu++(t::Bl).map ZA.o) V n (A.length:Int))=loopW tab [0,3,7,8,9] bY (zvj ((A++[t]).map ZA.uu++Bl.map ZA.o) (if mH kT t Bl=true then V else V++[t.o]) n ((A.length:Int)+1)):=by
 obtain⟨p0,q0,l0⟩:=Nw A t Bl
 have l1:((A++[t]).map ZA.uu++Bl.map ZA.o).length=A.length+(Bl.length+1):=by
  rw[la,lm,lm,la,zqa]
  omega
 have p1:∀(b:ZA) (Cl:List ZA),Bl=b::Cl→((A++[t]).map ZA.uu++Bl.map ZA.o)[((A.length:Int)+1).toNat]? = some b.o:=fun b Cl e=>by
  rw[e,show((A.length:Int)+1).toNat=(A++[t]).length by simp]
  exact(Nw (A++[t]) b Cl).1
 have hdr:=bQ
 simp only[zvj]
 generalize A.map ZA.uu++(t::Bl).map ZA.o=R at *
 generalize (A++[t]).map ZA.uu++Bl.map ZA.o=R2 at *
 simp only[ZA.uu,ZA.o] at p0 q0 p1 ⊢
 conv=>lhs;unfold loopW;arg 1;unfold bY
 by_cases c9:t.fOp=9
 ·simp only[c9] at q0
  cases Bl with
  |nil =>
   simp only[mH,Bool.false_eq_true,if_false]
   rw[ln] at hn l1
   simp -implicitDefEqProofs (disch:=first|assumption|omega|(simp only[aE,aF,aD,i64,sa,aB,lm,la,lc,ln];omega)) only[go_sem,simprocAttr,p0,q0,l0,l1,c9,hdr,show((A.length:Int)<n) by omega]
  |cons b Cl =>
   rw[lc] at hn l1
   have p1:=p1 b Cl rfl
   simp only[mH,kT,c9,decide_true,bta]
   by_cases b8:b.fOp=8
   ·simp only[b8,decide_true,bta]
    by_cases bn:b.fN=t.fN
    ·simp only[bn,decide_true,if_true]
     simp -implicitDefEqProofs (disch:=first|assumption|omega|(simp only[aE,aF,aD,i64,sa,aB,lm,la,lc,ln];omega)) only[go_sem,simprocAttr,p0,q0,l0,l1,c9,p1,b8,bn,hdr,show((A.length:Int)<n) by omega]
    ·simp only[bn,decide_false,Bool.false_eq_true,if_false]
     simp -implicitDefEqProofs (disch:=first|assumption|omega|(simp only[aE,aF,aD,i64,sa,aB,lm,la,lc,ln];omega)) only[go_sem,simprocAttr,p0,q0,l0,l1,c9,p1,b8,bn,hdr,show((A.length:Int)<n) by omega]
   ·simp only[b8,decide_false,bfa,Bool.false_eq_true,if_false]
    simp -implicitDefEqProofs (disch:=first|assumption|omega|(simp only[aE,aF,aD,i64,sa,aB,lm,la,lc,ln];omega)) only[go_sem,simprocAttr,p0,q0,l0,l1,c9,p1,b8,hdr,show((A.length:Int)<n) by omega]
 ·have e:mH kT t Bl=false:=by cases Bl<;>simp[mH,kT,c9]
  rw[e]
  simp only[Bool.false_eq_true,if_false]
  simp -implicitDefEqProofs (disch:=first|assumption|omega|(simp only[aE,aF,aD,i64,sa,aB,lm,la,lc,ln];omega)) only[go_sem,simprocAttr,p0,q0,l0,l1,c9,hdr,show((A.length:Int)<n) by omega]
theorem zXY(n:Nat)(hn:n≤900):∀(Bl A:List ZA) (V:List (List D)),n=A.length+Bl.length→V.length≤A.length →
  loopW tab [0,3,7,8,9] bY (zvj (A.map ZA.uu++Bl.map ZA.o) V n (A.length:Int))=some (.ext 0,{env:=upd emp 3 (some (.ref (1,0) [])),heap:=upd (upd emp (0,0) (some (.s 7 ((A++Bl).map ZA.uu)))) (1,0) (some (.s 7 (V++(gH kT Bl).map ZA.o))),fr:=1,next:=1})
 |[],A,V,hA,hV=>by
  have hdr:=bQ
  rw[ln] at hA
  simp only[gH,mn,zqe,zvj]
  generalize A.map ZA.uu=R at *
  unfold loopW
  conv=>lhs;arg 1;unfold bY
  simp -implicitDefEqProofs (disch:=first|assumption|omega|(simp only[aE,aF,aD,i64,sa,aB,lm,la,lc,ln];omega)) only[go_sem,simprocAttr,hdr,show ¬((A.length:Int)<n) by omega]
 |t::Bl,A,V,hA,hV=>by
  rw[lc] at hA
  rw[z9M A t Bl (by omega) V hV n hA,nQ]
  have ih:=fun V2 (h2:V2.length≤A.length+1)=>zXY n hn Bl (A++[t]) V2 (by simp;omega) (by simpa using h2)
  rw[la,zqa,show(((A.length+1:Nat)):Int)=(A.length:Int)+1 by omega,zqc,List.singleton_append] at ih
  by_cases c:mH kT t Bl=true
  ·rw[if_pos c,if_pos c,zqf,←ih _ (by omega)]
  ·rw[if_neg c,if_neg c,List.map_append (l₁:=[t]),show([t]:List ZA).map ZA.o=[t.o] from rfl,←List.append_assoc V,←ih _ (by simp;omega)]
theorem Pj(L:List ZA)(hl:L.length≤900):evCW tab oK [.ref (0,0) []] (upd emp (0,0) (some (.s 7 (L.map ZA.o)))) 1=some (.d (.s 7 ((gH kT L).map ZA.o)),upd emp (0,0) (some (.s 7 (L.map ZA.uu)))):=by
 have g:=zXY L.length hl L [] [] (by simp) (by simp)
 have l0:(L.map ZA.o).length=L.length:=List.length_map _
 have hdr:=bQ
 simp only[zvj,zqf,mn,ln,show((0:Nat):Int)=0 from rfl] at g
 generalize (gH kT L).map ZA.o=V at *
 generalize L.map ZA.uu=R2 at *
 generalize L.map ZA.o=R at *
 rw[bU Dl _ _ _ rfl,tS]
 simp -implicitDefEqProofs (disch:=first|assumption|omega|(simp only[aE,aF,aD,i64,sa,aB,lm,la,lc,ln];omega)) only[go_sem,simprocAttr,g,l0,hdr]
set_option maxRecDepth 8000
set_option maxHeartbeats 16000000
def zW(n:Int)(x:ZA):Bool:=(decide (x.fOp=9)||decide (x.fOp=10))&&decide (x.fN=n)
theorem Tr(L:List ZA)(n:Int):goG kT L n=L.any (zW n):=rfl
theorem yH(t x:ZA)(c:X)(a kc:Nat)(e:D)(h:Heap)(fr:Nat)(hh:a8 fr h=h)(ha:a<fr)(hk:h (a,kc)=some (.s 7 [[DI t.fOp,DI t.fD,DI t.fA,DI t.fB,DI t.fN,DS t.fS,e]])):evCW tab mP [xq' x c,.ptr (a,kc) [] 0 0] h fr=some (B (zW t.fN x),h):=by
 rw[bU Mo _ _ _ rfl,y9]
 unfold zW
 by_cases c9:x.fOp=9
 ·by_cases cn:x.fN=t.fN
  ·simp only[c9,cn,decide_true,Bool.true_or,bat]
   simp -implicitDefEqProofs (disch:=first|assumption|omega|(simp only[aE,aF,aD,i64,sa,aB,lm,la,lc,ln];omega)) only[go_sem,simprocAttr,hh,hk,c9,cn,show ¬a=fr by omega,show ¬0=fr by omega]
  ·simp only[c9,cn,decide_true,decide_false,Bool.true_or,uH]
   simp -implicitDefEqProofs (disch:=first|assumption|omega|(simp only[aE,aF,aD,i64,sa,aB,lm,la,lc,ln];omega)) only[go_sem,simprocAttr,hh,hk,c9,cn,show ¬a=fr by omega,show ¬0=fr by omega]
 ·by_cases c10:x.fOp=10
  ·by_cases cn:x.fN=t.fN
   ·simp only[c10,cn,decide_true,Bool.or_true,bat]
    simp -implicitDefEqProofs (disch:=first|assumption|omega|(simp only[aE,aF,aD,i64,sa,aB,lm,la,lc,ln];omega)) only[go_sem,simprocAttr,hh,hk,c10,cn,show ¬a=fr by omega,show ¬0=fr by omega]
   ·simp only[c10,cn,decide_true,decide_false,Bool.or_true,uH]
    simp -implicitDefEqProofs (disch:=first|assumption|omega|(simp only[aE,aF,aD,i64,sa,aB,lm,la,lc,ln];omega)) only[go_sem,simprocAttr,hh,hk,c10,cn,show ¬a=fr by omega,show ¬0=fr by omega]
  ·simp only[c9,c10,decide_false,Bool.or_false,bfa]
   simp -implicitDefEqProofs (disch:=first|assumption|omega|(simp only[aE,aF,aD,i64,sa,aB,lm,la,lc,ln];omega)) only[go_sem,simprocAttr,hh,hk,c9,c10,show ¬a=fr by omega,show ¬0=fr by omega]
theorem zQP(f a kc:Nat)(p:ZA→Bool)(h:Heap)(fr:Nat)(hh:a8 fr h=h)(ha:a<fr)(xs:List ZA)(hx:xs.length≤900)(hf:∀x∈xs,evCW tab f [xq' x (.d .u),.ptr (a,kc) [] 0 0] h (fr+1)=some (B (p x),h)):∀(Bl:List ZA) (j:Int),xs.drop j.toNat=Bl→0≤j →
  loopW tab [0,1,7,8] aS {env:=upd (upd (upd (upd emp 8 (some (I j))) 7 (some (I (xs.length:Int)))) 1 (some (.clo f [.ptr (a,kc) [] 0 0]))) 0 (some (.d (.r (xs.map (ZA.uu))))),heap:=h,fr:=fr,next:=0}=if aT p j Bl= -1 then some (.ext 0,{env:=emp,heap:=h,fr:=fr,next:=0}) else some (.ret,{env:=upd emp 4 (some (I (aT p j Bl))),heap:=h,fr:=fr,next:=0})
 |[],j,hd,hj=>by
  unfold loopW
  conv=>lhs;arg 1;unfold aS
  have:=dW hd hj
  simp only[aT,if_true]
  (repeat'(first|simp -implicitDefEqProofs (disch:=first|assumption|omega|(simp only[aE,aF,aD,i64,sa,aB,lm,la,lc,ln];omega)) only[go_sem,simprocAttr,hh,show ¬a=fr by omega]|((first|rw[aM]|rw[aI]|rw[aH]|rw[aO]|rw[aL]|rw[aJ]|rw[aG]|rw[aN]|skip);split)))
 |x::Bl,j,hd,hj=>by
  unfold loopW
  conv=>lhs;arg 1;unfold aS
  have h4:=(b7 hd hj).2.1
  have ih:=zQP f a kc p h fr hh ha xs hx hf Bl (j+1) (b7 hd hj).2.2.1 (by omega)
  have h2:=kH (ZA.uu) (b7 hd hj).1
  simp only[ZA.uu] at h2
  have h3:=hf x (b7 hd hj).2.2.2.1
  simp only[xq'] at h3
  rw[aT]
  by_cases hp:p x=true
  ·rw[if_pos hp,if_neg (by omega)]
   (repeat'(first|simp -implicitDefEqProofs (disch:=first|assumption|omega|(simp only[aE,aF,aD,i64,sa,aB,lm,la,lc,ln];omega)) only[go_sem,simprocAttr,h2,show ¬a=fr by omega,h3,hh]|((first|rw[aM]|rw[aI]|rw[aH]|rw[aO]|rw[aL]|rw[aJ]|rw[aG]|rw[aN]|skip);split)))
  ·rw[if_neg hp,←ih]
   (repeat'(first|simp -implicitDefEqProofs (disch:=first|assumption|omega|(simp only[aE,aF,aD,i64,sa,aB,lm,la,lc,ln];omega)) only[go_sem,simprocAttr,h2,show ¬a=fr by omega,h3,hh]|((first|rw[aM]|rw[aI]|rw[aH]|rw[aO]|rw[aL]|rw[aJ]|rw[aG]|rw[aN]|skip);split)))
theorem z8E(f a kc:Nat)(p:ZA→Bool)(h:Heap)(fr:Nat)(hh:a8 fr h=h)(hh':a8 (fr+1) h=h)(ha:a<fr)(xs:List ZA)(hx:xs.length≤900)(hf:∀x∈xs,evCW tab f [xq' x (.d .u),.ptr (a,kc) [] 0 0] h (fr+2)=some (B (p x),h)):evCW tab bI [.d (.r (xs.map ZA.uu)),.clo f [.ptr (a,kc) [] 0 0]] h fr=some (B (xs.any p),h):=by
 have h0:=zQP f a kc p h (fr+1) hh' (by omega) xs hx hf xs 0 rfl (by omega)
 have h1:evCW tab aZ [.d (.r (xs.map ZA.uu)),.clo f [.ptr (a,kc) [] 0 0]] h (fr+1)=some (I (aT p 0 xs),h):=by
  rw[bU cN _ _ _ rfl,bJ]
  by_cases hp:aT p 0 xs= -1
  ·rw[if_pos hp] at h0
   (repeat'(first|simp -implicitDefEqProofs (disch:=first|assumption|omega|(simp only[aE,aF,aD,i64,sa,aB,lm,la,lc,ln];omega)) only[go_sem,simprocAttr,hh',h0,hp,show ¬a=fr+1 by omega]|((first|rw[aM]|rw[aI]|rw[aH]|rw[aO]|rw[aL]|rw[aJ]|rw[aG]|rw[aN]|skip);split)))
  ·rw[if_neg hp] at h0
   (repeat'(first|simp -implicitDefEqProofs (disch:=first|assumption|omega|(simp only[aE,aF,aD,i64,sa,aB,lm,la,lc,ln];omega)) only[go_sem,simprocAttr,hh',h0,hp,show ¬a=fr+1 by omega]|((first|rw[aM]|rw[aI]|rw[aH]|rw[aO]|rw[aL]|rw[aJ]|rw[aG]|rw[aN]|skip);split)))
 rw[bU dP _ _ _ rfl,cB,sP p 0 (by omega)]
 (repeat'(first|simp -implicitDefEqProofs (disch:=first|assumption|omega|(simp only[aE,aF,aD,i64,sa,aB,lm,la,lc,ln];omega)) only[go_sem,simprocAttr,hh,h1,show ¬a=fr by omega]|((first|rw[aM]|rw[aI]|rw[aH]|rw[aO]|rw[aL]|rw[aJ]|rw[aG]|rw[aN]|skip);split)))
theorem zKA(f a kc:Nat)(p:ZA→Bool)(h:Heap)(fr:Nat)(hh:a8 fr h=h)(ha:a<fr)(xs:List ZA)(hx:xs.length≤900)(Z:List (List D))(hz:Z.length=xs.length)(hZ:∀(i:Nat) (x:ZA),xs[i]? = some x→Z[i]? = some x.uu∨Z[i]? = some x.o)(hk:h (0,0)=some (.s 7 Z))(hf:∀x∈xs,∀c,evCW tab f [xq' x c,.ptr (a,kc) [] 0 0] h (fr+1)=some (B (p x),h)):∀(Bl:List ZA) (j:Int),xs.drop j.toNat=Bl→0≤j →
  loopW tab [0,1,7,8] aS {env:=upd (upd (upd (upd emp 8 (some (I j))) 7 (some (I (xs.length:Int)))) 1 (some (.clo f [.ptr (a,kc) [] 0 0]))) 0 (some (.ref (0,0) [])),heap:=h,fr:=fr,next:=0}=if aT p j Bl= -1 then some (.ext 0,{env:=emp,heap:=h,fr:=fr,next:=0}) else some (.ret,{env:=upd emp 4 (some (I (aT p j Bl))),heap:=h,fr:=fr,next:=0})
 |[],j,hd,hj=>by
  unfold loopW
  conv=>lhs;arg 1;unfold aS
  have:=dW hd hj
  simp only[aT,if_true]
  (repeat'(first|simp -implicitDefEqProofs (disch:=first|assumption|omega|(simp only[aE,aF,aD,i64,sa,aB,lm,la,lc,ln];omega)) only[go_sem,simprocAttr,hh,show ¬a=fr by omega,show ¬0=fr by omega]|((first|rw[aM]|rw[aI]|rw[aH]|rw[aO]|rw[aL]|rw[aJ]|rw[aG]|rw[aN]|skip);split)))
 |x::Bl,j,hd,hj=>by
  unfold loopW
  conv=>lhs;arg 1;unfold aS
  have h4:=(b7 hd hj).2.1
  have ih:=zKA f a kc p h fr hh ha xs hx Z hz hZ hk hf Bl (j+1) (b7 hd hj).2.2.1 (by omega)
  have h2:=hZ j.toNat x (b7 hd hj).1
  simp only[ZA.uu,ZA.o] at h2
  have h3:=hf x (b7 hd hj).2.2.2.1
  simp only[xq'] at h3
  rw[aT]
  by_cases hp:p x=true
  ·rw[if_pos hp,if_neg (by omega)]
   rcases h2 with h2|h2<;>(repeat'(first|simp -implicitDefEqProofs (disch:=first|assumption|omega|(simp only[aE,aF,aD,i64,sa,aB,lm,la,lc,ln];omega)) only[go_sem,simprocAttr,h2,hk,hz,show ¬a=fr by omega,show ¬0=fr by omega,h3,hh]|((first|rw[aM]|rw[aI]|rw[aH]|rw[aO]|rw[aL]|rw[aJ]|rw[aG]|rw[aN]|skip);split)))
  ·rw[if_neg hp,←ih]
   rcases h2 with h2|h2<;>(repeat'(first|simp -implicitDefEqProofs (disch:=first|assumption|omega|(simp only[aE,aF,aD,i64,sa,aB,lm,la,lc,ln];omega)) only[go_sem,simprocAttr,h2,hk,hz,show ¬a=fr by omega,show ¬0=fr by omega,h3,hh]|((first|rw[aM]|rw[aI]|rw[aH]|rw[aO]|rw[aL]|rw[aJ]|rw[aG]|rw[aN]|skip);split)))
theorem z9N(f a kc:Nat)(p:ZA→Bool)(h:Heap)(fr:Nat)(hh:a8 fr h=h)(hh':a8 (fr+1) h=h)(ha:a<fr)(xs:List ZA)(hx:xs.length≤900)(Z:List (List D))(hz:Z.length=xs.length)(hZ:∀(i:Nat) (x:ZA),xs[i]? = some x→Z[i]? = some x.uu∨Z[i]? = some x.o)(hk:h (0,0)=some (.s 7 Z))(hf:∀x∈xs,∀c,evCW tab f [xq' x c,.ptr (a,kc) [] 0 0] h (fr+2)=some (B (p x),h)):evCW tab bI [.ref (0,0) [],.clo f [.ptr (a,kc) [] 0 0]] h fr=some (B (xs.any p),h):=by
 have h0:=zKA f a kc p h (fr+1) hh' (by omega) xs hx Z hz hZ hk hf xs 0 rfl (by omega)
 have h1:evCW tab aZ [.ref (0,0) [],.clo f [.ptr (a,kc) [] 0 0]] h (fr+1)=some (I (aT p 0 xs),h):=by
  rw[bU cN _ _ _ rfl,bJ]
  by_cases hp:aT p 0 xs= -1
  ·rw[if_pos hp] at h0
   (repeat'(first|simp -implicitDefEqProofs (disch:=first|assumption|omega|(simp only[aE,aF,aD,i64,sa,aB,lm,la,lc,ln];omega)) only[go_sem,simprocAttr,hh',hk,hz,h0,hp,show ¬a=fr+1 by omega,show ¬0=fr+1 by omega]|((first|rw[aM]|rw[aI]|rw[aH]|rw[aO]|rw[aL]|rw[aJ]|rw[aG]|rw[aN]|skip);split)))
  ·rw[if_neg hp] at h0
   (repeat'(first|simp -implicitDefEqProofs (disch:=first|assumption|omega|(simp only[aE,aF,aD,i64,sa,aB,lm,la,lc,ln];omega)) only[go_sem,simprocAttr,hh',hk,hz,h0,hp,show ¬a=fr+1 by omega,show ¬0=fr+1 by omega]|((first|rw[aM]|rw[aI]|rw[aH]|rw[aO]|rw[aL]|rw[aJ]|rw[aG]|rw[aN]|skip);split)))
 rw[bU dP _ _ _ rfl,cB,sP p 0 (by omega)]
 (repeat'(first|simp -implicitDefEqProofs (disch:=first|assumption|omega|(simp only[aE,aF,aD,i64,sa,aB,lm,la,lc,ln];omega)) only[go_sem,simprocAttr,hh,h1,show ¬a=fr by omega,show ¬0=fr by omega]|((first|rw[aM]|rw[aI]|rw[aH]|rw[aO]|rw[aL]|rw[aJ]|rw[aG]|rw[aN]|skip);split)))
end Go.Ev.G
