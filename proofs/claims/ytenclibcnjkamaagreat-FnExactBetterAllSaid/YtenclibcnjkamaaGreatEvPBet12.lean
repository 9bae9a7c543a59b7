import Derived.Test.YtenclibcnjkamaaGreatEvPBet1
import Derived.Test.YtenclibcnjkamaaGreatEvPJoin4
import Derived.Test.YtenclibcnjkamaaGreatEvPHom13
set_option linter.all false
namespace Go.Ev.G
set_option maxRecDepth 8000
set_option maxHeartbeats 8000000
theorem z80(K:BL):List.replicate (bR K).length [D.v (.bool false)]=bR (List.replicate K.length false):=by simp
theorem z7m(K:BL):(bR K).all wV=true:=by
 rw[List.all_eq_true]
 intro el hel
 obtain⟨b,_,rfl⟩:=List.mem_map.1 hel
 rfl
theorem z7C{op:Int}(h:¬(3≤op∧op≤7)):op≠3∧op≠4∧op≠5∧op≠6∧op≠7:=by omega
theorem zyQ{W:List Int}{r k x:Int}(h0:0≤r)(h1:r<W.length)(hk:0≤k):gO (W.set r.toNat x) k=if k=r then x else gO W k:=by
 unfold gO
 rw[List.getElem?_set]
 by_cases e:k=r
 ·subst e
  have:k.toNat<W.length:=by omega
  simp[this]
 ·simp only[show ¬r.toNat=k.toNat by omega,if_false,e]
theorem F3(t:ZA):(aY t).length≤2:=by
 unfold aY
 rw[la]
 have:∀(c:Prop) [Decidable c] (x:Int),(if c then [x] else []).length≤1:=fun c _ x=>by split<;>simp
 have h1:=this (hb t 1=true) t.fD
 have h2:=this (t.fOp=19) t.fB
 omega
theorem zKG(W:List Int)(S:List Int)(hS:S.length≤250):∀(Bl:List Int) (j:Int) (K:BL),S.drop j.toNat=Bl→0≤j→K.length≤250→(∀r∈Bl,0≤r∧r<K.length) →
  loopW tab [0,4,5] gQ {env:=upd (upd (upd emp 5 (some (I j))) 4 (some (.d (.r (aP S))))) 0 (some (.ptr (0,0) [] 0 0)),heap:=fdH K W,fr:=1,next:=0} =
  some (.ext 0,{env:=emp,heap:=fdH (bO false K Bl) W,fr:=1,next:=0})
 |[],j,K,hd,hj,hK,hr=>by
  have hh:=dW hd hj
  have hdr:=bQ
  have l2:=bC S
  unfold loopW
  conv=>lhs;arg 1;unfold gQ
  simp -implicitDefEqProofs (disch:=first|assumption|omega) only[go_sem,simprocAttr,hh,hdr,l2,bO,List.foldl_nil]
 |r::Bl,j,K,hd,hj,hK,hr=>by
  have hc:=b7 hd hj
  have hdr:=bQ
  have h2:=kH (fun n=>[DI n]) hc.1
  have h4:=hc.2.1
  obtain⟨r0,r1⟩:=hr r (by simp)
  have ih:=zKG W S hS Bl (j+1) (K.set r.toNat false) hc.2.2.1 (by omega) (by simpa using hK) (fun r h=>by rw[List.length_set];exact hr r (by simp[h]))
  have e1:=sS K r.toNat false
  have f1:=eY (K:=K) (r:=r) (by omega)
  have l1:=y8 K
  have l2:=bC S
  rw[bO,List.foldl_cons,←bO,←ih]
  clear ih
  simp only[fdH,←e1]
  generalize bR K=A at *
  conv=>lhs;unfold loopW;arg 1;unfold gQ
  simp -implicitDefEqProofs (disch:=first|assumption|omega|(simp only[aE,aF,aD,i64,sa,aB,lm,la,lc,ln];omega)) only[go_sem,simprocAttr,h2,h4,hdr,f1,l1,l2]
theorem Az(K:BL)(W:List Int)(hl:K.length=W.length)(hm:W.length≤250)(t:ZA)(ht:FOk W.length t):evCW tab qX [.ptr (0,0) [] 0 0,t.x] (fdH K W) 1=some (.tup [],fdH (bO false K (aY t)) W):=by
 have hdr:=bQ
 have gs:=wG t
 have g0:=zKG W (aY t) (by have:=F3 t;omega) (aY t) 0 K rfl (by omega) (by omega) (fun r hr=>by have:=ht.s r hr;omega)
 simp only[fdH] at g0 ⊢
 generalize bR (bO false K (aY t))=A2 at *
 generalize bR K=A at *
 rw[bU Hq _ _ _ rfl,vK]
 simp -implicitDefEqProofs (disch:=first|assumption|omega|(simp only[aE,aF,aD,i64,sa,aB,lm,la,lc,ln];omega)) only[go_sem,simprocAttr,hdr,gs,g0,dQ]
theorem Q8{W:List Int}{d a:Int}(d0:0≤d)(d1:d<W.length)(a0:0≤a)(a1:a<W.length):(aP (W.set d.toNat (gO W a)))[a.toNat]? = some [DI (gO W a)]:=by
 have h:=(fF (zs:=W.set d.toNat (gO W a)) a0 (by rw[List.length_set];exact a1)).1
 rw[zyQ d0 d1 a0] at h
 rw[h]
 split
 ·rfl
 ·rfl
theorem O4(K:BL)(W:List Int)(hl:K.length=W.length)(hm:W.length≤250)(t:ZA)(ht:FOk W.length t):evCW tab mQ [.ptr (0,0) [] 0 0,t.x] (fdH K W) 1=some (.tup [fx (eO K W t).2.1,B (eO K W t).2.2],fdH (eO K W t).1.1 (eO K W t).1.2):=by
 have hd:=bQ
 have l1:=y8 K
 have l2:=bC W
 rw[bU Cu _ _ _ rfl,pK]
 unfold eO
 by_cases c8:t.fOp=8
 ·rw[if_pos c8]
  have e1:=z80 K
  have e2:=z7m K
  simp only[fdH,←e1,fx,ZA.x]
  generalize bR K=A at *
  simp -implicitDefEqProofs (disch:=first|assumption|omega|(simp only[aE,aF,aD,i64,sa,aB,lm,la,lc,ln];omega)) only[go_sem,simprocAttr,hd,c8,e2]
 rw[if_neg c8]
 by_cases c1:t.fOp=1
 ·rw[if_pos c1]
  obtain⟨d0,d1⟩:=ht.d (by omega)
  have g:=tP K W hl hm t.fD t.fN d0 (by omega)
  simp only[fdH,fx,ZA.x] at g ⊢
  simp -implicitDefEqProofs (disch:=first|assumption|omega|(simp only[aE,aF,aD,i64,sa,aB,lm,la,lc,ln];omega)) only[go_sem,simprocAttr,hd,c1,g]
 rw[if_neg c1]
 have gs:=wP t
 have gl:=fun cells=>zK2 W t cells (aY t) (by have:=F3 t;omega) (aY t) 0 K rfl (by omega) (by omega) (fun r hr=>by have:=ht.s r hr;omega)
 have hsl:(aP (aY t)).length=(aY t).length:=bC _
 have hfz:=dQ (aY t)
 simp only[fdH] at gl
 by_cases c2:t.fOp=2
 ·obtain⟨d0,d1⟩:=ht.d (by omega)
  obtain⟨a0,a1⟩:=ht.a (by omega)
  have f1:=eY (K:=K) (r:=t.fA) (by omega)
  have f2:=(fF (zs:=W) a0 (by omega)).1
  cases k:tV K t.fA
  ·rw[if_neg (by simp),if_neg (by omega),if_neg (by omega)]
   rw[k] at f1
   simp only[fdH,fx,ZA.x]
   generalize bR (bO false K (aY t))=A2 at *
   generalize bR K=A at *
   generalize aP (aY t)=S at *
   simp only[ZA.x,zk0,c2] at gs gl
   simp -implicitDefEqProofs (disch:=first|assumption|omega|(simp only[aE,aF,aD,i64,sa,aB,lm,la,lc,ln];omega)) only[go_sem,simprocAttr,hd,c2,gs,gl,hsl,hfz,f1,l1]
  ·rw[if_pos ⟨c2,rfl⟩]
   rw[k] at f1
   have g:=tP K W hl hm t.fD (gO W t.fA) d0 (by omega)
   have f3:=Q8 (W:=W) d0 (by omega) a0 (by omega)
   have l3:(aP (W.set t.fD.toNat (gO W t.fA))).length=W.length:=by simp[aP]
   simp only[fdH,fx,Pa,ZA.xo] at g ⊢
   generalize aP (W.set t.fD.toNat (gO W t.fA))=Z2 at *
   generalize bR (K.set t.fD.toNat true)=A2 at *
   generalize bR K=A at *
   generalize aP W=Z at *
   simp -implicitDefEqProofs (disch:=first|assumption|omega|(simp only[aE,aF,aD,i64,sa,aB,lm,la,lc,ln];omega)) only[go_sem,simprocAttr,hd,c2,f1,f2,f3,l1,l2,l3,g]
 rw[if_neg (fun h=>c2 h.1)]
 by_cases c5:3≤t.fOp∧t.fOp≤7
 ·obtain⟨d0,d1⟩:=ht.d (by omega)
  obtain⟨a0,a1⟩:=ht.a (by omega)
  obtain⟨b0,b1⟩:=ht.b c5
  have f1:=eY (K:=K) (r:=t.fA) (by omega)
  have f2:=(fF (zs:=W) a0 (by omega)).1
  have f3:=eY (K:=K) (r:=t.fB) (by omega)
  have f4:=(fF (zs:=W) b0 (by omega)).1
  have gc:=Jf t.fOp (gO W t.fA) (gO W t.fB) c5
  have g:=tP K W hl hm t.fD (Dm t.fOp (gO W t.fA) (gO W t.fB)) d0 (by omega)
  cases k:tV K t.fA
  ·rw[if_neg (by simp),if_neg (by omega)]
   rw[k] at f1
   simp only[fdH,fx,ZA.x]
   generalize bR (bO false K (aY t))=A2 at *
   generalize bR K=A at *
   generalize aP (aY t)=S at *
   rcases Qi c5 with c|c|c|c|c<;>simp only[ZA.x,zk0,c] at gs gl<;>simp -implicitDefEqProofs (disch:=first|assumption|omega|(simp only[aE,aF,aD,i64,sa,aB,lm,la,lc,ln];omega)) only[go_sem,simprocAttr,hd,c,gs,gl,hsl,hfz,f1,l1]
  cases k2:tV K t.fB
  ·rw[if_neg (by simp),if_neg (by omega)]
   rw[k] at f1
   rw[k2] at f3
   simp only[fdH,fx,ZA.x]
   generalize bR (bO false K (aY t))=A2 at *
   generalize bR K=A at *
   generalize aP (aY t)=S at *
   rcases Qi c5 with c|c|c|c|c<;>simp only[ZA.x,zk0,c] at gs gl<;>simp -implicitDefEqProofs (disch:=first|assumption|omega|(simp only[aE,aF,aD,i64,sa,aB,lm,la,lc,ln];omega)) only[go_sem,simprocAttr,hd,c,gs,gl,hsl,hfz,f1,f3,l1]
  ·rw[if_pos ⟨c5,rfl⟩]
   rw[k] at f1
   rw[k2] at f3
   simp only[fdH,fx,Pa,ZA.xo] at g ⊢
   generalize Dm t.fOp (gO W t.fA) (gO W t.fB)=n at *
   generalize aP (W.set t.fD.toNat n)=Z2 at *
   generalize bR (K.set t.fD.toNat true)=A2 at *
   generalize bR K=A at *
   generalize aP W=Z at *
   rcases Qi c5 with c|c|c|c|c<;>rw[c] at gc<;>simp -implicitDefEqProofs (disch:=first|assumption|omega|(simp only[aE,aF,aD,i64,sa,aB,lm,la,lc,ln];omega)) only[go_sem,simprocAttr,hd,c,f1,f2,f3,f4,l1,l2,g,gc]
 rw[if_neg (fun h=>c5 h.1)]
 obtain⟨n3,n4,n5,n6,n7⟩:=z7C c5
 by_cases c10:t.fOp=10
 ·obtain⟨a0,a1⟩:=ht.a (by omega)
  have f1:=eY (K:=K) (r:=t.fA) (by omega)
  have f2:=(fF (zs:=W) a0 (by omega)).1
  cases k:tV K t.fA
  ·rw[if_neg (by simp)]
   rw[k] at f1
   simp only[fdH,fx,ZA.x]
   generalize bR (bO false K (aY t))=A2 at *
   generalize bR K=A at *
   generalize aP (aY t)=S at *
   simp only[ZA.x,zk0,c10] at gs gl
   simp -implicitDefEqProofs (disch:=first|assumption|omega|(simp only[aE,aF,aD,i64,sa,aB,lm,la,lc,ln];omega)) only[go_sem,simprocAttr,hd,c10,gs,gl,hsl,hfz,f1,l1]
  ·rw[if_pos ⟨c10,rfl⟩]
   rw[k] at f1
   simp only[fdH,fx,zqi,ZA.xo]
   generalize bR K=A at *
   generalize aP W=Z at *
   simp -implicitDefEqProofs (disch:=first|assumption|omega|(simp only[aE,aF,aD,i64,sa,aB,lm,la,lc,ln];omega)) only[go_sem,simprocAttr,hd,c10,f1,f2,l1,l2]
 rw[if_neg (fun h=>c10 h.1)]
 simp only[fdH,fx,ZA.x]
 generalize bR (bO false K (aY t))=A2 at *
 generalize bR K=A at *
 generalize aP (aY t)=S at *
 simp -implicitDefEqProofs (disch:=first|assumption|omega|(simp only[aE,aF,aD,i64,sa,aB,lm,la,lc,ln];omega)) only[go_sem,simprocAttr,hd,c8,c1,c2,n3,n4,n5,n6,n7,c10,gs,gl,hsl,hfz]
theorem Pz(K:BL)(W:List Int)(hl:K.length=W.length)(hm:W.length≤250)(t:ZA)(ht:FOk W.length t)(h8:t.fOp≠8):evCW tab nT [.ptr (0,0) [] 0 0,t.x] (fdH K W) 1=some (.tup [fx (eO K W t).2.1,B (eO K W t).2.2],fdH (eO K W t).1.1 (eO K W t).1.2):=by
 have hd:=bQ
 have l1:=y8 K
 have l2:=bC W
 rw[bU yU _ _ _ rfl,pB]
 unfold eO
 have c8:=h8
 rw[if_neg c8]
 by_cases c1:t.fOp=1
 ·rw[if_pos c1]
  obtain⟨d0,d1⟩:=ht.d (by omega)
  have g:=nL K W hl hm t.fD t.fN d0 (by omega)
  simp only[fdH,fx,ZA.x] at g ⊢
  simp -implicitDefEqProofs (disch:=first|assumption|omega|(simp only[aE,aF,aD,i64,sa,aB,lm,la,lc,ln];omega)) only[go_sem,simprocAttr,hd,c1,g]
 rw[if_neg c1]
 have gs:=Az K W hl hm t ht
 simp only[fdH] at gs
 by_cases c2:t.fOp=2
 ·obtain⟨d0,d1⟩:=ht.d (by omega)
  obtain⟨a0,a1⟩:=ht.a (by omega)
  have f1:=eY (K:=K) (r:=t.fA) (by omega)
  have f2:=(fF (zs:=W) a0 (by omega)).1
  cases k:tV K t.fA
  ·rw[if_neg (by simp),if_neg (by omega),if_neg (by omega)]
   rw[k] at f1
   simp only[fdH,fx,ZA.x]
   generalize bR (bO false K (aY t))=A2 at *
   generalize bR K=A at *
   simp only[ZA.x,c2] at gs
   simp -implicitDefEqProofs (disch:=first|assumption|omega|(simp only[aE,aF,aD,i64,sa,aB,lm,la,lc,ln];omega)) only[go_sem,simprocAttr,hd,c2,gs,f1,l1]
  ·rw[if_pos ⟨c2,rfl⟩]
   rw[k] at f1
   have g:=nL K W hl hm t.fD (gO W t.fA) d0 (by omega)
   have f3:=Q8 (W:=W) d0 (by omega) a0 (by omega)
   have l3:(aP (W.set t.fD.toNat (gO W t.fA))).length=W.length:=by simp[aP]
   simp only[fdH,fx,Pa,ZA.xo] at g ⊢
   generalize aP (W.set t.fD.toNat (gO W t.fA))=Z2 at *
   generalize bR (K.set t.fD.toNat true)=A2 at *
   generalize bR K=A at *
   generalize aP W=Z at *
   simp -implicitDefEqProofs (disch:=first|assumption|omega|(simp only[aE,aF,aD,i64,sa,aB,lm,la,lc,ln];omega)) only[go_sem,simprocAttr,hd,c2,f1,f2,f3,l1,l2,l3,g]
 rw[if_neg (fun h=>c2 h.1)]
 by_cases c5:3≤t.fOp∧t.fOp≤7
 ·obtain⟨d0,d1⟩:=ht.d (by omega)
  obtain⟨a0,a1⟩:=ht.a (by omega)
  obtain⟨b0,b1⟩:=ht.b c5
  have f1:=eY (K:=K) (r:=t.fA) (by omega)
  have f2:=(fF (zs:=W) a0 (by omega)).1
  have f3:=eY (K:=K) (r:=t.fB) (by omega)
  have f4:=(fF (zs:=W) b0 (by omega)).1
  have gc:=M5 t.fOp (gO W t.fA) (gO W t.fB) c5
  have g:=nL K W hl hm t.fD (Dm t.fOp (gO W t.fA) (gO W t.fB)) d0 (by omega)
  cases k:tV K t.fA
  ·rw[if_neg (by simp),if_neg (by omega)]
   rw[k] at f1
   simp only[fdH,fx,ZA.x]
   generalize bR (bO false K (aY t))=A2 at *
   generalize bR K=A at *
   rcases Qi c5 with c|c|c|c|c<;>simp only[ZA.x,c] at gs<;>simp -implicitDefEqProofs (disch:=first|assumption|omega|(simp only[aE,aF,aD,i64,sa,aB,lm,la,lc,ln];omega)) only[go_sem,simprocAttr,hd,c,gs,f1,l1]
  cases k2:tV K t.fB
  ·rw[if_neg (by simp),if_neg (by omega)]
   rw[k] at f1
   rw[k2] at f3
   simp only[fdH,fx,ZA.x]
   generalize bR (bO false K (aY t))=A2 at *
   generalize bR K=A at *
   rcases Qi c5 with c|c|c|c|c<;>simp only[ZA.x,c] at gs<;>simp -implicitDefEqProofs (disch:=first|assumption|omega|(simp only[aE,aF,aD,i64,sa,aB,lm,la,lc,ln];omega)) only[go_sem,simprocAttr,hd,c,gs,f1,f3,l1]
  ·rw[if_pos ⟨c5,rfl⟩]
   rw[k] at f1
   rw[k2] at f3
   simp only[fdH,fx,Pa,ZA.xo] at g ⊢
   generalize Dm t.fOp (gO W t.fA) (gO W t.fB)=n at *
   generalize aP (W.set t.fD.toNat n)=Z2 at *
   generalize bR (K.set t.fD.toNat true)=A2 at *
   generalize bR K=A at *
   generalize aP W=Z at *
   rcases Qi c5 with c|c|c|c|c<;>rw[c] at gc<;>simp -implicitDefEqProofs (disch:=first|assumption|omega|(simp only[aE,aF,aD,i64,sa,aB,lm,la,lc,ln];omega)) only[go_sem,simprocAttr,hd,c,f1,f2,f3,f4,l1,l2,g,gc]
 rw[if_neg (fun h=>c5 h.1)]
 obtain⟨n3,n4,n5,n6,n7⟩:=z7C c5
 by_cases c10:t.fOp=10
 ·obtain⟨a0,a1⟩:=ht.a (by omega)
  have f1:=eY (K:=K) (r:=t.fA) (by omega)
  have f2:=(fF (zs:=W) a0 (by omega)).1
  cases k:tV K t.fA
  ·rw[if_neg (by simp)]
   rw[k] at f1
   simp only[fdH,fx,ZA.x]
   generalize bR (bO false K (aY t))=A2 at *
   generalize bR K=A at *
   simp only[ZA.x,c10] at gs
   simp -implicitDefEqProofs (disch:=first|assumption|omega|(simp only[aE,aF,aD,i64,sa,aB,lm,la,lc,ln];omega)) only[go_sem,simprocAttr,hd,c10,gs,f1,l1]
  ·rw[if_pos ⟨c10,rfl⟩]
   rw[k] at f1
   simp only[fdH,fx,zqi,ZA.xo]
   generalize bR K=A at *
   generalize aP W=Z at *
   simp -implicitDefEqProofs (disch:=first|assumption|omega|(simp only[aE,aF,aD,i64,sa,aB,lm,la,lc,ln];omega)) only[go_sem,simprocAttr,hd,c10,f1,f2,l1,l2]
 rw[if_neg (fun h=>c10 h.1)]
 simp only[fdH,fx,ZA.x]
 generalize bR (bO false K (aY t))=A2 at *
 generalize bR K=A at *
 simp -implicitDefEqProofs (disch:=first|assumption|omega|(simp only[aE,aF,aD,i64,sa,aB,lm,la,lc,ln];omega)) only[go_sem,simprocAttr,hd,c8,c1,c2,n3,n4,n5,n6,n7,c10,gs]
set_option maxRecDepth 8000
set_option maxHeartbeats 16000000
def lD(K:BL)(W:List Int):List ZA→List (ZA×Bool)
 |[]=>[]
 |t::ts=>(if (eO K W t).2.2=true then [(eO K W t).2.1] else [])++lD (eO K W t).1.1 (eO K W t).1.2 ts
def vL(u:ZB):ZB:=if jR u=true then⟨u.fName,u.fParams,u.fRegs,(lD (List.replicate u.fRegs.toNat false) (List.replicate u.fRegs.toNat 0) u.fCode).map fun p=>p.1⟩ else u
theorem Qt(K:BL)(W:List Int)(t:ZA):(eO K W t).1.1.length=K.length∧(eO K W t).1.2.length=W.length:=by
 unfold eO
 repeat' split
 all_goals simp[l9]
theorem Rb:∀(ts:List ZA) (K:BL) (W:List Int),(lD K W ts).length≤ts.length
 |[],K,W=>by simp[lD]
 |t::ts,K,W=>by
  have:=Rb ts (eO K W t).1.1 (eO K W t).1.2
  rw[lD,la,lc]
  have h:(if (eO K W t).2.2=true then [(eO K W t).2.1] else []).length≤1:=by split<;>simp
  omega
theorem x5{t:ZA}{op m:Int}(h:t.fOp=op)(hh:zYj (Ct op) m=true):hb t m=true:=by unfold hb;rw[h];exact hh
theorem z98{t:ZA}(h:hb t 2=true):t.fA∈aY t++dK t:=by simp[dK,h]
theorem z95{t:ZA}(h:hb t 4=true)(h2:t.fOp≠19):t.fB∈aY t++dK t:=by simp[dK,h,h2]
theorem zZq{t:ZA}(h:hb t 1=true):t.fD∈aY t++dK t:=by simp[aY,h]
theorem Cj{u:ZB}(hr:Right u){t:ZA}(ht:t∈u.fCode):∀r∈aY t++dK t,0≤r∧r<u.fRegs:=by
 obtain⟨k,hk⟩:=List.mem_iff_getElem?.1 ht
 exact hr.rs k t hk
theorem Vu{u:ZB}(hr:Right u){t:ZA}(ht:t∈u.fCode):FOk u.fRegs.toNat t:=by
 have hh:=Cj hr ht
 have hg:=hr.regs
 refine⟨fun h=> ?_,fun h=> ?_,fun h=> ?_,fun r h=> ?_⟩
 ·have h2:hb t 2=true:=by
   rcases h with h|h|h
   ·exact x5 h (by decide)
   ·rcases Qi h with h|h|h|h|h<;>exact x5 h (by decide)
   ·exact x5 h (by decide)
  have:=hh _ (z98 h2)
  omega
 ·have h2:hb t 4=true:=by rcases Qi h with h|h|h|h|h<;>exact x5 h (by decide)
  have:=hh _ (z95 h2 (by omega))
  omega
 ·have h2:hb t 1=true:=by
   have:t.fOp=1∨t.fOp=2∨t.fOp=3∨t.fOp=4∨t.fOp=5∨t.fOp=6∨t.fOp=7:=by omega
   rcases this with h|h|h|h|h|h|h<;>exact x5 h (by decide)
  have:=hh _ (zZq h2)
  omega
 ·have:=hh r (List.mem_append_left _ h)
  omega
abbrev qQ:D:= .s 4 [[DS ⟨#[]⟩,DI 0,DI 0,.s 7 []]]
abbrev fE(u:ZB)(c:D):D:= .s 4 [[DS u.fName,DI u.fParams,DI u.fRegs,c]]
abbrev knS(K:BL)(W:List Int):D:= .s 2 [[.s 1 (bR K),.s 1 (aP W)]]
abbrev flH(u:ZB)(V:List (List D))(K:BL)(W:List Int):Heap:=upd (upd (upd (upd emp (0,3) (some (.s 7 V))) (0,2) (some (knS K W))) (0,1) (some (fE u (.r (u.fCode.map ZA.r))))) (0,0) (some qQ)
theorem Kt(u:ZB)(hl:u.fCode.length≤900)(m:Nat)(hm:m≤250):∀(Bl:List ZA) (j:Int) (K:BL) (W:List Int) (V:List (List D)),u.fCode.drop j.toNat=Bl→0≤j→K.length=m→W.length=m→(V.length:Int)≤j→(∀t∈Bl,FOk m t) →
  loopW tab [2,3,4,5,26,27,28] lC {env:=upd (upd (upd (upd (upd (upd (upd emp 28 (some (I j))) 27 (some (I (u.fCode.length:Int)))) 26 (some (.d (.r (u.fCode.map ZA.r))))) 5 (some (.ref (0,3) []))) 4 (some (.ptr (0,2) [] 0 0))) 3 (some (.ptr (0,1) [] 0 0))) 2 (some (.ptr (0,0) [] 0 0)),heap:=flH u V K W,fr:=0,next:=4} =
  some (.ext 0,{env:=upd (upd (upd emp 5 (some (.ref (0,2) []))) 3 (some (.ptr (0,1) [] 0 0))) 2 (some (.ptr (0,0) [] 0 0)),heap:=upd (upd (upd emp (0,2) (some (.s 7 (V++(lD K W Bl).map qC)))) (0,1) (some (fE u (.r (u.fCode.map ZA.r))))) (0,0) (some qQ),fr:=0,next:=3})
 |[],j,K,W,V,hd,hj,hK,hW,hV,hf=>by
  have hh:=dW hd hj
  rw[lD,mn,zqe]
  generalize bR K=A at *
  unfold loopW
  conv=>lhs;arg 1;unfold lC
  simp -implicitDefEqProofs (disch:=first|assumption|omega) only[go_sem,simprocAttr,hh]
 |t::Bl,j,K,W,V,hd,hj,hK,hW,hV,hf=>by
  have hc:=b7 hd hj
  have h2:=kH ZA.r hc.1
  have h4:=hc.2.1
  simp only[ZA.r] at h2
  have g:=O4 K W (by omega) (by omega) t (by rw[hW];exact hf t (by simp))
  obtain⟨k1,k2⟩:=Qt K W t
  rw[lD]
  generalize eO K W t=R at *
  obtain⟨⟨K2,W2⟩,⟨t2,o⟩,ok⟩:=R
  simp only at g k1 k2 ⊢
  cases ok
  ·have ih:=Kt u hl m hm Bl (j+1) K2 W2 V hc.2.2.1 (by omega) (by omega) (by omega) (by omega) (fun t h=>hf t (by simp[h]))
   rw[if_neg (by simp),zqf,←ih]
   clear ih
   simp only[fdH,flH,knS,ZA.x] at g ⊢
   generalize bR K2=A2 at *
   generalize bR K=A at *
   generalize aP W2=Z2 at *
   generalize aP W=Z at *
   conv=>lhs;unfold loopW;arg 1;unfold lC
   cases o<;>simp only[fx,if_true,Bool.false_eq_true,if_false] at g<;>simp -implicitDefEqProofs (disch:=first|assumption|omega|(simp only[aE,aF,aD,i64,sa,aB,lm,la,lc,ln];omega)) only[go_sem,simprocAttr,h2,h4,g]
  ·have ih:=Kt u hl m hm Bl (j+1) K2 W2 (V++[qC (t2,o)]) hc.2.2.1 (by omega) (by omega) (by omega) (by simp;omega) (fun t h=>hf t (by simp[h]))
   rw[if_pos rfl,List.map_append,mc,mn,←List.append_assoc,←ih]
   clear ih
   simp only[fdH,flH,knS,ZA.x] at g ⊢
   generalize bR K2=A2 at *
   generalize bR K=A at *
   generalize aP W2=Z2 at *
   generalize aP W=Z at *
   conv=>lhs;unfold loopW;arg 1;unfold lC
   cases o<;>simp only[fx,qC,if_true,Bool.false_eq_true,if_false,ZA.o,ZA.r] at g ⊢ <;> simp -implicitDefEqProofs (disch:=first|assumption|omega|(simp only[aE,aF,aD,i64,sa,aB,lm,la,lc,ln];omega)) only[go_sem,simprocAttr,h2,h4,g]
theorem Ny:∀(L:List (ZA×Bool)),fzs (L.map qC)=(L.map fun p=>p.1).map ZA.r
 |[]=>rfl
 |(t,o)::L=>by
  rw[mc,mc,mc,Ev.fzs,Ny L]
  cases o
  ·simp only[qC,Bool.false_eq_true,if_false,ZA.fzlr]
  ·simp only[qC,if_true,ZA.fzl]
abbrev zWX(o:Option X)(u:ZB):Prop:=∃r,o=some r∧r.frz=u.x
theorem T9(u:ZB)(hs:u.sm):zWX (call tab B7 [u.x]) (vL u):=by
 have g0:=eK u hs
 have g1:=jN u hs
 have e0:=ZA.fzs u.fCode
 by_cases hu:jR u=true
 ·have hr:=hP hu
  rw[hu] at g1
  obtain⟨r0,r1⟩:=hr.regs
  have g2:=Kt u hr.len.2 u.fRegs.toNat (by omega) u.fCode 0 (List.replicate u.fRegs.toNat false) (List.replicate u.fRegs.toNat 0) [] rfl (by omega) (by simp) (by simp) (by simp) (fun t ht=>Vu hr ht)
  refine⟨.agg [Str u.fName,I u.fParams,I u.fRegs,.d (.s 7 ((lD (List.replicate u.fRegs.toNat false) (List.replicate u.fRegs.toNat 0) u.fCode).map qC))],?_,?_⟩
  ·have e1:bR (List.replicate u.fRegs.toNat false)=List.replicate u.fRegs.toNat [DB false]:=by simp
   have e2:aP (List.replicate u.fRegs.toNat 0)=List.replicate u.fRegs.toNat [DI 0]:=by simp[aP]
   simp only[flH,knS,e1,e2,zqf] at g2
   generalize (lD (List.replicate u.fRegs.toNat false) (List.replicate u.fRegs.toNat 0) u.fCode).map qC=V at *
   rw[aQ Ie _ rfl,z7]
   simp -implicitDefEqProofs (disch:=first|assumption|omega|(simp only[aE,aF,aD,i64,sa,aB,lm,la,lc,ln];omega)) only[go_sem,simprocAttr,g0,g1,e0,g2]
  ·rw[vL,if_pos hu]
   simp only[X.frz,X.frzV,y6,X.frzC,Ny]
 ·rw[Bool.not_eq_true] at hu
  rw[hu] at g1
  refine⟨u.x,?_,?_⟩
  ·rw[aQ Ie _ rfl,z7]
   simp -implicitDefEqProofs (disch:=first|assumption|omega|(simp only[aE,aF,aD,i64,sa,aB,lm,la,lc,ln];omega)) only[go_sem,simprocAttr,g0,g1,e0]
  ·rw[vL,if_neg (by rw[hu];simp)]
   rfl
set_option maxRecDepth 8000
set_option maxHeartbeats 16000000
theorem Yd(K:BL)(W:List Int)(hl:K.length=W.length)(hm:W.length≤250)(t:ZA)(ht:FOk W.length t)(h8:t.fOp=8):evCW tab nT [.ptr (0,0) [] 0 0,t.x] (fdH K W) 1=some (.tup [t.x,B true],fdH K W):=by
 have hd:=bQ
 have gs:=Az K W hl hm t ht
 have e:aY t=[]:=by
  have h1:hb t 1=false:=by unfold hb;rw[h8];decide
  simp[aY,h1,h8]
 rw[e,show bO false K []=K from rfl] at gs
 rw[bU yU _ _ _ rfl,pB]
 simp only[fdH,ZA.x,h8] at gs ⊢
 generalize bR K=A at *
 simp -implicitDefEqProofs (disch:=first|assumption|omega|(simp only[aE,aF,aD,i64,sa,aB,lm,la,lc,ln];omega)) only[go_sem,simprocAttr,hd,h8,gs]
abbrev slH(u:ZB)(V:List (List D))(K:BL)(W:List Int):Heap:=upd (upd (upd emp (0,2) (some (knS K W))) (0,1) (some (fE u (.s 7 V)))) (0,0) (some qQ)
theorem E9(u:ZB)(hs:u.sm)(hl:u.fCode.length≤900)(m:Nat)(hm:m≤250)(hr:u.fRegs=m):∀(Bl:List ZA) (j:Int) (K:BL) (W:List Int) (V:List (List D)),u.fCode.drop j.toNat=Bl→0≤j→K.length=m→W.length=m→(V.length:Int)≤j→(∀t∈Bl,FOk m t) →
  loopW tab [1,2,3,4,5] iJ {env:=upd (upd (upd (upd (upd emp 5 (some (I j))) 4 (some (.ptr (0,2) [] 0 0))) 3 (some (.ptr (0,1) [] 0 0))) 2 (some (.ptr (0,0) [] 0 0))) 1 (some (vpU u)),heap:=slH u V K W,fr:=0,next:=3} =
  some (.ext 0,{env:=upd (upd emp 3 (some (.ptr (0,1) [] 0 0))) 2 (some (.ptr (0,0) [] 0 0)),heap:=upd (upd emp (0,1) (some (fE u (.s 7 (V++(lD K W Bl).map qC))))) (0,0) (some qQ),fr:=0,next:=2})
 |[],j,K,W,V,hd,hj,hK,hW,hV,hf=>by
  have hh:=dW hd hj
  rw[lD,mn,zqe]
  simp only[slH,knS]
  generalize bR K=A at *
  unfold loopW
  conv=>lhs;arg 1;unfold iJ
  simp -implicitDefEqProofs (disch:=first|assumption|omega) only[go_sem,simprocAttr,hh]
 |t::Bl,j,K,W,V,hd,hj,hK,hW,hV,hf=>by
  have hc:=b7 hd hj
  have h2:=kH ZA.r hc.1
  have h4:=hc.2.1
  simp only[ZA.r] at h2
  have gt:=Bh t (hs.2.2 t hc.2.2.2.1)
  have hft:=hf t (by simp)
  have efz:=dQ t.fArgs
  rw[lD]
  by_cases h8:t.fOp=8
  ·have hK2:(List.replicate m false).length=m:=by simp
   have g:=Yd (List.replicate m false) W (by omega) (by omega) t (by rw[hW];exact hft) h8
   have ef:eO K W t=((List.replicate m false,W),(t,false),true):=by unfold eO;rw[if_pos h8,hK]
   rw[ef]
   have ih:=E9 u hs hl m hm hr Bl (j+1) (List.replicate m false) W (V++[qC (t,false)]) hc.2.2.1 (by omega) hK2 (by omega) (by simp;omega) (fun t h=>hf t (by simp[h]))
   rw[if_pos rfl,List.map_append,mc,mn,←List.append_assoc,←ih]
   clear ih
   have e1:bR (List.replicate m false)=List.replicate m [DB false]:=by simp
   have hmk:aF 1 (m:Int):=⟨by omega,by omega⟩
   have emt:((m:Int)).toNat=m:=by omega
   simp only[fdH,slH,knS,fE,vpU,ZA.x,ZA.xo,h8,e1,hr] at g gt ⊢
   generalize bR K=A at *
   generalize aP W=Z at *
   conv=>lhs;unfold loopW;arg 1;unfold iJ
   simp only[qC,Bool.false_eq_true,if_false,ZA.r,h8] at h2 ⊢
   simp -implicitDefEqProofs (disch:=first|assumption|omega|(simp only[aE,aF,aD,i64,sa,aB,lm,la,lc,ln];omega)) only[go_sem,simprocAttr,h2,h4,h8,g,gt,efz,hmk,emt,hr]
  ·have g:=Pz K W (by omega) (by omega) t (by rw[hW];exact hft) h8
   obtain⟨k1,k2⟩:=Qt K W t
   generalize eO K W t=R at *
   obtain⟨⟨K2,W2⟩,⟨t2,o⟩,ok⟩:=R
   simp only at g k1 k2 ⊢
   cases ok
   ·have ih:=E9 u hs hl m hm hr Bl (j+1) K2 W2 V hc.2.2.1 (by omega) (by omega) (by omega) (by omega) (fun t h=>hf t (by simp[h]))
    rw[if_neg (by simp),zqf,←ih]
    clear ih
    simp only[fdH,slH,knS,fE,ZA.x,ZA.xo] at g gt ⊢
    generalize bR K2=A2 at *
    generalize bR K=A at *
    generalize aP W2=Z2 at *
    generalize aP W=Z at *
    conv=>lhs;unfold loopW;arg 1;unfold iJ
    cases o<;>simp only[fx,if_true,Bool.false_eq_true,if_false,ZA.x,ZA.xo] at g<;>simp -implicitDefEqProofs (disch:=first|assumption|omega|(simp only[aE,aF,aD,i64,sa,aB,lm,la,lc,ln];omega)) only[go_sem,simprocAttr,h2,h4,h8,g,gt,efz]
   ·have ih:=E9 u hs hl m hm hr Bl (j+1) K2 W2 (V++[qC (t2,o)]) hc.2.2.1 (by omega) (by omega) (by omega) (by simp;omega) (fun t h=>hf t (by simp[h]))
    rw[if_pos rfl,List.map_append,mc,mn,←List.append_assoc,←ih]
    clear ih
    simp only[fdH,slH,knS,fE,ZA.x,ZA.xo] at g gt ⊢
    generalize bR K2=A2 at *
    generalize bR K=A at *
    generalize aP W2=Z2 at *
    generalize aP W=Z at *
    conv=>lhs;unfold loopW;arg 1;unfold iJ
    cases o<;>simp only[fx,qC,if_true,Bool.false_eq_true,if_false,ZA.o,ZA.r,ZA.x,ZA.xo] at g ⊢ <;> simp -implicitDefEqProofs (disch:=first|assumption|omega|(simp only[aE,aF,aD,i64,sa,aB,lm,la,lc,ln];omega)) only[go_sem,simprocAttr,h2,h4,h8,g,gt,efz]
theorem Ti(u:ZB)(hs:u.sm):zWX (call tab Cb [u.x]) (vL u):=by
 have g0:=eX u hs
 have g1:=jS u hs
 by_cases hu:jR u=true
 ·have hr:=hP hu
  rw[hu] at g1
  obtain⟨r0,r1⟩:=hr.regs
  have g2:=E9 u hs hr.len.2 u.fRegs.toNat (by omega) (by omega) u.fCode 0 (List.replicate u.fRegs.toNat false) (List.replicate u.fRegs.toNat 0) [] rfl (by omega) (by simp) (by simp) (by simp) (fun t ht=>Vu hr ht)
  refine⟨.agg [Str u.fName,I u.fParams,I u.fRegs,.d (.s 7 ((lD (List.replicate u.fRegs.toNat false) (List.replicate u.fRegs.toNat 0) u.fCode).map qC))],?_,?_⟩
  ·have e1:bR (List.replicate u.fRegs.toNat false)=List.replicate u.fRegs.toNat [DB false]:=by simp
   have e2:aP (List.replicate u.fRegs.toNat 0)=List.replicate u.fRegs.toNat [DI 0]:=by simp[aP]
   simp only[slH,knS,fE,e1,e2,zqf] at g2
   generalize (lD (List.replicate u.fRegs.toNat false) (List.replicate u.fRegs.toNat 0) u.fCode).map qC=V at *
   rw[aQ H8 _ rfl,zX]
   simp -implicitDefEqProofs (disch:=first|assumption|omega|(simp only[aE,aF,aD,i64,sa,aB,lm,la,lc,ln];omega)) only[go_sem,simprocAttr,g1,g2]
  ·rw[vL,if_pos hu]
   simp only[X.frz,X.frzV,y6,X.frzC,Ny]
 ·rw[Bool.not_eq_true] at hu
  rw[hu] at g1
  refine⟨u.xo,?_,?_⟩
  ·rw[aQ H8 _ rfl,zX]
   simp -implicitDefEqProofs (disch:=first|assumption|omega|(simp only[aE,aF,aD,i64,sa,aB,lm,la,lc,ln];omega)) only[go_sem,simprocAttr,g0,g1]
  ·rw[vL,if_neg (by rw[hu];simp)]
   simp only[ZB.xo,ZB.x,X.frz,X.frzV,y6,X.frzC,ZA.fzs]
set_option maxRecDepth 8000
set_option maxHeartbeats 16000000
def ofZ(so:List Int)(r:Int):Int:=if 0≤gO so r then gO so r else r
def dJ(so:List Int):List Int:=(List.range so.length).map fun (r:Nat)=>ofZ so (r:Int)
theorem iH(so:List Int):(dJ so).length=so.length:=by simp[dJ]
theorem qK(so:List Int){r:Int}(h0:0≤r)(h1:r<so.length):(aP (dJ so))[r.toNat]? = some [DI (ofZ so r)]:=by
 have h:r.toNat<so.length:=by omega
 rw[aP,List.getElem?_map,dJ,List.getElem?_map,List.getElem?_range h]
 simp[show((r.toNat:Nat):Int)=r by omega]
def rdA(x:ZA)(so:List Int):Nat→List Int→List Int
 |_,[]=>[]
 |q,y::ys=>(if (!decide (x.fOp=19)||Gf x.fArgs q)=true then ofZ so y else y)::rdA x so (q+1) ys
def bD(so:List Int)(x:ZA):ZA:=⟨x.fOp,x.fD,if hb x 2=true then ofZ so x.fA else x.fA,if (hb x 4&& !decide (x.fOp=19))=true then ofZ so x.fB else x.fB,x.fN,x.fS,if hb x 32=true then rdA x so 0 x.fArgs else x.fArgs⟩
theorem Sb(x:ZA)(so:List Int):∀(ls:List Int) (q:Nat),(rdA x so q ls).length=ls.length
 |[],q=>rfl
 |y::ls,q=>by rw[rdA,lc,Sb x so ls,lc]
theorem kZ(so:List Int)(r:Int)(hm:so.length≤250)(h0:0≤r)(h1:r<so.length):call tab p5 [.d (.r (aP so)),I r]=some (I (ofZ so r)):=by
 have f:=(fF (zs:=so) h0 h1).1
 have l:=bC so
 rw[aQ Tf _ rfl,F0,ofZ]
 by_cases h:0≤gO so r
 ·rw[if_pos h]
  simp -implicitDefEqProofs (disch:=first|assumption|omega|(simp only[aE,aF,aD,i64,sa,aB,lm,la,lc,ln];omega)) only[go_sem,simprocAttr,f,l,h]
 ·rw[if_neg h]
  simp -implicitDefEqProofs (disch:=first|assumption|omega|(simp only[aE,aF,aD,i64,sa,aB,lm,la,lc,ln];omega)) only[go_sem,simprocAttr,f,l,h]
abbrev sG:D:= .s 7 [[DI 0,DI 0,DI 0,DI 0,DI 0,DS ⟨#[]⟩,.s 1 []]]
abbrev rdH(x:ZA)(a b:Int)(Z:List Int):Heap:=upd (upd (upd emp (0,0) none) (1,1) (some sG)) (1,0) (some (.s 7 [[DI x.fOp,DI x.fD,DI a,DI b,DI x.fN,DS x.fS,.s 1 (aP Z)]]))
theorem zKc(x:ZA)(so:List Int)(hm:so.length≤250)(h32:hb x 32=true)(hx:x.fArgs.length≤1048576)(a b:Int):∀(Bl:List Int) (j:Nat) (A:List Int),x.fArgs.drop j=Bl→A.length=j→(x.fOp=19→∀i,i<j→i % 3=0→A[i]? = x.fArgs[i]?)→(∀y∈jA x j Bl,0≤y∧y<so.length) →
  loopW tab [1,2,4,5,6] bA {env:=upd (upd (upd (upd (upd emp 6 (some (I (j:Int)))) 5 (some (I (Ct x.fOp)))) 4 (some (.ptr (1,1) [] 0 0))) 2 (some (.ptr (1,0) [] 0 0))) 1 (some (.d (.r (aP so)))),heap:=rdH x a b (A++Bl),fr:=1,next:=2} =
  some (.ext 0,{env:=upd (upd emp 4 (some (.ptr (1,1) [] 0 0))) 2 (some (.ptr (1,0) [] 0 0)),heap:=rdH x a b (A++rdA x so j Bl),fr:=1,next:=2})
 |[],j,A,hd,hA,h3,hr=>by
  have hdr:=bQ
  have e:=Ap x 32
  have l:=bC A
  simp only[rdA,zqe]
  unfold loopW
  conv=>lhs;arg 1;unfold bA
  simp -implicitDefEqProofs (disch:=first|assumption|omega|(simp only[aE,aF,aD,i64,sa,aB,lm,la,lc,ln];omega)) only[go_sem,simprocAttr,hdr,l,hA,e,h32]
 |y::Bl,j,A,hd,hA,h3,hr=>by
  have hdr:=bQ
  have e:=Ap x 32
  have hlen:x.fArgs.length=j+(Bl.length+1):=by
   have:=congrArg List.length hd
   rw[List.length_drop,lc] at this
   omega
  have hy:x.fArgs[j]? = some y:=by
   have:=congrArg (fun l=>l[0]?) hd
   simpa using this
  have hd2:x.fArgs.drop (j+1)=Bl:=by
   have:=congrArg (List.drop 1) hd
   rw[List.drop_drop] at this
   simpa[Nat.add_comm] using this
  have m1:((j:Int)).tmod 3=((j % 3:Nat):Int):=by have:=Ci (n:=(j:Int)) (by omega) 3;simpa using this
  have f1:(aP (A++y::Bl))[j]? = some [DI y]:=by
   rw[aP,List.getElem?_map,List.getElem?_append_right (by omega),hA,Nat.sub_self];rfl
  have l1:(aP (A++y::Bl)).length=j+(Bl.length+1):=by rw[bC,la,hA,lc]
  have step:∀y2:Int,(x.fOp=19→j % 3=0→y2=y)→(∀z∈jA x (j+1) Bl,0≤z∧z<so.length)→loopW tab [1,2,4,5,6] bA {env:=upd (upd (upd (upd (upd emp 6 (some (I ((j:Int)+1)))) 5 (some (I (Ct x.fOp)))) 4 (some (.ptr (1,1) [] 0 0))) 2 (some (.ptr (1,0) [] 0 0))) 1 (some (.d (.r (aP so)))),heap:=rdH x a b (A++y2::Bl),fr:=1,next:=2} =
   some (.ext 0,{env:=upd (upd emp 4 (some (.ptr (1,1) [] 0 0))) 2 (some (.ptr (1,0) [] 0 0)),heap:=rdH x a b (A++(y2::rdA x so (j+1) Bl)),fr:=1,next:=2}):=fun y2 hy2 hr2=>by
   have:=zKc x so hm h32 hx a b Bl (j+1) (A++[y2]) hd2 (by simp[hA]) (fun h19 i hi hi3=>by
    by_cases hij:i<j
    ·rw[List.getElem?_append_left (by omega)]
     exact h3 h19 i hij hi3
    ·have:i=j:=by omega
     subst this
     rw[List.getElem?_append_right (by omega),hA,Nat.sub_self,hy,hy2 h19 hi3];rfl) hr2
   rw[zqc,zqc,show(((j+1:Nat)):Int)=(j:Int)+1 by omega] at this
   exact this
  have eset:∀y2:Int,(aP (A++y::Bl)).set j [DI y2]=aP (A++y2::Bl):=fun y2=>by
   rw[oJ]
   congr 1
   rw[List.set_append_right _ _ (by omega),hA,Nat.sub_self];rfl
  rw[jA] at hr
  rw[rdA]
  by_cases c19:x.fOp=19
  ·have k0:decide (x.fOp=19)=true:=decide_eq_true c19
   simp only[c19] at e
   simp only[k0,Bool.not_true,Bool.false_or] at hr ⊢
   rcases (by omega:j % 3=0∨j % 3=1∨j % 3=2) with c1|c1|c1
   ·have hs:Gf x.fArgs j=false:=by simp[Gf,c1]
    rw[hs] at hr ⊢
    rw[if_neg (by simp),←step y (fun _ _=>rfl) (fun z hz=>hr z (by simpa using hz))]
    clear step eset
    simp only[rdH]
    generalize aP (A++y::Bl)=Z at *
    conv=>lhs;unfold loopW;arg 1;unfold bA
    simp -implicitDefEqProofs (disch:=first|assumption|omega|(simp only[aE,aF,aD,i64,sa,aB,lm,la,lc,ln];omega)) only[go_sem,simprocAttr,hdr,l1,e,h32,c19,m1,c1]
   ·have hs:Gf x.fArgs j=true:=by simp[Gf,c1]
    rw[hs] at hr ⊢
    obtain⟨y0,y1⟩:=hr y (by simp)
    have g:=kZ so y hm y0 y1
    have e2:=eset (ofZ so y)
    rw[if_pos rfl,←step (ofZ so y) (fun _ h=>by omega) (fun z hz=>hr z (by simp[hz]))]
    clear step eset
    simp only[rdH,←e2]
    generalize aP (A++y::Bl)=Z at *
    conv=>lhs;unfold loopW;arg 1;unfold bA
    simp -implicitDefEqProofs (disch:=first|assumption|omega|(simp only[aE,aF,aD,i64,sa,aB,lm,la,lc,ln];omega)) only[go_sem,simprocAttr,hdr,l1,e,h32,c19,m1,c1,f1,g,dQ]
   ·have hj2:2≤j:=by omega
    have hA2:A[j-2]? = x.fArgs[j-2]? := h3 c19 (j-2) (by omega) (by omega)
    obtain⟨v,hv⟩:∃v,x.fArgs[j-2]? = some v:=⟨_,List.getElem?_eq_getElem (by omega)⟩
    have f2:(aP (A++y::Bl))[((j:Int)-2).toNat]? = some [DI v]:=by
     rw[show((j:Int)-2).toNat=j-2 by omega,aP,List.getElem?_map,List.getElem?_append_left (by omega),hA2,hv];rfl
    by_cases cv:v=2
    ·have hs:Gf x.fArgs j=true:=by simp[Gf,c1,hv,cv]
     rw[hs] at hr ⊢
     obtain⟨y0,y1⟩:=hr y (by simp)
     have g:=kZ so y hm y0 y1
     have e2:=eset (ofZ so y)
     rw[if_pos rfl,←step (ofZ so y) (fun _ h=>by omega) (fun z hz=>hr z (by simp[hz]))]
     clear step eset
     simp only[rdH,←e2]
     generalize aP (A++y::Bl)=Z at *
     conv=>lhs;unfold loopW;arg 1;unfold bA
     simp -implicitDefEqProofs (disch:=first|assumption|omega|(simp only[aE,aF,aD,i64,sa,aB,lm,la,lc,ln];omega)) only[go_sem,simprocAttr,hdr,l1,e,h32,c19,m1,c1,f1,f2,cv,g,dQ]
    ·have hs:Gf x.fArgs j=false:=by simp[Gf,c1,hv,cv]
     rw[hs] at hr ⊢
     rw[if_neg (by simp),←step y (fun _ _=>rfl) (fun z hz=>hr z (by simpa using hz))]
     clear step eset
     simp only[rdH]
     generalize aP (A++y::Bl)=Z at *
     conv=>lhs;unfold loopW;arg 1;unfold bA
     simp -implicitDefEqProofs (disch:=first|assumption|omega|(simp only[aE,aF,aD,i64,sa,aB,lm,la,lc,ln];omega)) only[go_sem,simprocAttr,hdr,l1,e,h32,c19,m1,c1,f2,cv]
  ·have k0:decide (x.fOp=19)=false:=decide_eq_false c19
   simp only[k0,Bool.not_false,Bool.true_or] at hr ⊢
   obtain⟨y0,y1⟩:=hr y (by simp)
   have g:=kZ so y hm y0 y1
   have e2:=eset (ofZ so y)
   rw[if_pos trivial,←step (ofZ so y) (fun h _=>absurd h c19) (fun z hz=>hr z (by simp[hz]))]
   clear step eset
   simp only[rdH,←e2]
   generalize aP (A++y::Bl)=Z at *
   conv=>lhs;unfold loopW;arg 1;unfold bA
   simp -implicitDefEqProofs (disch:=first|assumption|omega|(simp only[aE,aF,aD,i64,sa,aB,lm,la,lc,ln];omega)) only[go_sem,simprocAttr,hdr,l1,e,h32,c19,f1,g,dQ]
set_option maxRecDepth 8000
set_option maxHeartbeats 16000000
structure ROk (m:Nat) (t:ZA):Prop where
 u:∀r∈dK t,0≤r∧r<m
 s:∀r∈aY t,0≤r∧r<m
 sel:t.fOp=19→t.fArgs.length % 3=0
 no:¬hb t 32=true→t.fArgs=[]
 len:t.fArgs.length≤9
abbrev xq(x:ZA)(c:D):X:= .agg [I x.fOp,I x.fD,I x.fA,I x.fB,I x.fN,Str x.fS,.d c]
abbrev xq'(x:ZA)(c:X):X:= .agg [I x.fOp,I x.fD,I x.fA,I x.fB,I x.fN,Str x.fS,c]
theorem Oi(x:ZA):call tab mE [xq x .u]=some (.d (.s 1 (aP (aY x)))):=by
 rw[aQ Ib _ rfl,Aw,aY]
 have e:=Ap x 1
 (repeat'(first|simp -implicitDefEqProofs (disch:=first|assumption|omega|(simp only[aE,aF,aD,i64,sa,aB,lm,la,lc,ln];omega)) only[go_sem,simprocAttr,cF,e,mc,mn]|((first|rw[aM]|rw[aI]|rw[aH]|rw[aO]|rw[aL]|rw[aJ]|rw[aG]|rw[aN]|skip);split)))
theorem Ps(x:ZA):call tab l5 [xq x .u]=some (.d (.s 1 (aP (aY x)))):=by
 rw[aQ If _ rfl,zU,aY]
 have a1:=bT x (68,1) (by simp)
 by_cases c0:x.fOp=19
 ·rw[(zZr c0).1,if_pos rfl,if_pos c0]
  (repeat'(first|simp -implicitDefEqProofs (disch:=first|assumption|omega|(simp only[aE,aF,aD,i64,sa,aB,lm,la,lc,ln];omega)) only[go_sem,simprocAttr,aP,mc,mn]|((first|rw[aM]|rw[aI]|rw[aH]|rw[aO]|rw[aL]|rw[aJ]|rw[aG]|rw[aN]|skip);split)))
 ·rw[if_neg c0]
  cases c1:hb x 1<;>rw[c1] at a1<;>(repeat'(first|simp -implicitDefEqProofs (disch:=first|assumption|omega|(simp only[aE,aF,aD,i64,sa,aB,lm,la,lc,ln];omega)) only[go_sem,simprocAttr,aP,mc,mn,a1]|((first|rw[aM]|rw[aI]|rw[aH]|rw[aO]|rw[aL]|rw[aJ]|rw[aG]|rw[aN]|skip);split)))
theorem Qv{x:ZA}(h:hb x 2=true):x.fA∈dK x:=by simp[dK,h]
theorem Wn{x:ZA}(h:(hb x 4&& !decide (x.fOp=19))=true):x.fB∈dK x:=by unfold dK;rw[if_pos h];simp
theorem zKu{x:ZA}(h:hb x 32=true){y:Int}(hy:y∈jA x 0 x.fArgs):y∈dK x:=by simp[dK,h,hy]
theorem z7g(x:ZA)(so:List Int)(h32:hb x 32=false)(a b:Int) :
  loopW tab [1,2,4,5,6] bA {env:=upd (upd (upd (upd (upd emp 6 (some (I 0))) 5 (some (I (Ct x.fOp)))) 4 (some (.ptr (1,1) [] 0 0))) 2 (some (.ptr (1,0) [] 0 0))) 1 (some (.d (.r (aP so)))),heap:=rdH x a b [],fr:=1,next:=2} =
  some (.ext 0,{env:=upd (upd emp 4 (some (.ptr (1,1) [] 0 0))) 2 (some (.ptr (1,0) [] 0 0)),heap:=rdH x a b [],fr:=1,next:=2}):=by
 have hdr:=bQ
 have e:=Ap x 32
 unfold loopW
 conv=>lhs;arg 1;unfold bA
 simp -implicitDefEqProofs (disch:=first|assumption|omega|(simp only[aE,aF,aD,i64,sa,aB,lm,la,lc,ln];omega)) only[go_sem,simprocAttr,hdr,e,h32,aP]
 rfl
theorem G9(x:ZA)(so:List Int)(hm:so.length≤250)(hx:ROk so.length x):evCW tab nX [xq' x (.ref (0,0) []),.d (.r (aP so))] (upd emp (0,0) (some (.s 1 (aP x.fArgs)))) 1=some ((bD so x).xo,upd emp (0,0) none):=by
 have hdr:=bQ
 have g0:=cF x.fOp
 have e2:=Ap x 2
 have e4:=Ap x 4
 have hl:∀a b,loopW tab [1,2,4,5,6] bA {env:=upd (upd (upd (upd (upd emp 6 (some (I 0))) 5 (some (I (Ct x.fOp)))) 4 (some (.ptr (1,1) [] 0 0))) 2 (some (.ptr (1,0) [] 0 0))) 1 (some (.d (.r (aP so)))),heap:=rdH x a b x.fArgs,fr:=1,next:=2}=some (.ext 0,{env:=upd (upd emp 4 (some (.ptr (1,1) [] 0 0))) 2 (some (.ptr (1,0) [] 0 0)),heap:=rdH x a b (if hb x 32=true then rdA x so 0 x.fArgs else x.fArgs),fr:=1,next:=2}):=fun a b=>by
  by_cases h32:hb x 32=true
  ·rw[if_pos h32]
   have:=zKc x so hm h32 (by have:=hx.len;omega) a b x.fArgs 0 [] rfl rfl (fun _ i hi=>by omega) (fun y hy=>hx.u y (zKu h32 hy))
   simpa using this
  ·rw[if_neg h32,hx.no h32]
   exact z7g x so (by simpa using h32) a b
 have hla:=fun h=>kZ so x.fA hm (hx.u _ (Qv h)).1 (hx.u _ (Qv h)).2
 have hlb:=fun h=>kZ so x.fB hm (hx.u _ (Wn h)).1 (hx.u _ (Wn h)).2
 simp only[rdH] at hl
 rw[bU I8 _ _ _ rfl,x8]
 simp only[bD,ZA.xo]
 generalize (if hb x 32=true then rdA x so 0 x.fArgs else x.fArgs)=L at *
 cases c2:hb x 2<;>cases c4:hb x 4
 ·rw[c2] at e2;rw[c4] at e4
  simp -implicitDefEqProofs (disch:=first|assumption|omega|(simp only[aE,aF,aD,i64,sa,aB,lm,la,lc,ln];omega)) only[go_sem,simprocAttr,hdr,g0,e2,e4,hl]
 ·rw[c2] at e2;rw[c4] at e4
  by_cases c19:x.fOp=19
  ·simp only[c19] at g0 e2 e4 hl
   simp -implicitDefEqProofs (disch:=first|assumption|omega|(simp only[aE,aF,aD,i64,sa,aB,lm,la,lc,ln];omega)) only[go_sem,simprocAttr,hdr,g0,e2,e4,hl,c19]
  ·have hlb:=hlb (by simp[c4,c19])
   simp -implicitDefEqProofs (disch:=first|assumption|omega|(simp only[aE,aF,aD,i64,sa,aB,lm,la,lc,ln];omega)) only[go_sem,simprocAttr,hdr,g0,e2,e4,hl,c19,hlb]
 ·rw[c2] at e2;rw[c4] at e4
  have hla:=hla c2
  simp -implicitDefEqProofs (disch:=first|assumption|omega|(simp only[aE,aF,aD,i64,sa,aB,lm,la,lc,ln];omega)) only[go_sem,simprocAttr,hdr,g0,e2,e4,hl,hla]
 ·rw[c2] at e2;rw[c4] at e4
  have hla:=hla c2
  by_cases c19:x.fOp=19
  ·simp only[c19] at g0 e2 e4 hl
   simp -implicitDefEqProofs (disch:=first|assumption|omega|(simp only[aE,aF,aD,i64,sa,aB,lm,la,lc,ln];omega)) only[go_sem,simprocAttr,hdr,g0,e2,e4,hl,c19,hla]
  ·have hlb:=hlb (by simp[c4,c19])
   simp -implicitDefEqProofs (disch:=first|assumption|omega|(simp only[aE,aF,aD,i64,sa,aB,lm,la,lc,ln];omega)) only[go_sem,simprocAttr,hdr,g0,e2,e4,hl,c19,hla,hlb]
set_option maxRecDepth 8000
set_option maxHeartbeats 16000000
theorem r6(A:List Int)(y:Int)(B:List Int){j:Int}(h:j=A.length):(aP (A++y::B))[j.toNat]? = some [DI y]:=by
 rw[aP,List.getElem?_map,List.getElem?_append_right (by omega),show j.toNat-A.length=0 by omega];rfl
theorem uY(A:List Int)(y z:Int)(B:List Int){j:Int}(h:j=A.length):(aP (A++y::B)).set j.toNat [DI z]=aP (A++z::B):=by
 rw[oJ]
 congr 1
 rw[List.set_append_right _ _ (by omega),show j.toNat-A.length=0 by omega];rfl
theorem zJx(x:ZA)(so:List Int)(hm:so.length≤250)(h19:x.fOp=19)(hx:x.fArgs.length≤9):∀(k:Nat) (Bl:List Int) (j:Nat) (A:List Int),Bl.length=3*k→x.fArgs.drop j=Bl→j % 3=0→A.length=j→j≤9→(∀y∈jA x j Bl,0≤y∧y<so.length) →
  loopW tab [1,2,4,5] e9 {env:=upd (upd (upd (upd emp 5 (some (I (j:Int)))) 4 (some (.ptr (1,1) [] 0 0))) 2 (some (.ptr (1,0) [] 0 0))) 1 (some (.d (.r (aP (dJ so))))),heap:=rdH x x.fA x.fB (A++Bl),fr:=1,next:=2} =
  some (.ext 0,{env:=upd (upd emp 4 (some (.ptr (1,1) [] 0 0))) 2 (some (.ptr (1,0) [] 0 0)),heap:=rdH x x.fA x.fB (A++rdA x so j Bl),fr:=1,next:=2})
 |0,Bl,j,A,hk,hd,h3,hA,hj,hr=>by
  have hdr:=bQ
  have hB:Bl=[]:=List.eq_nil_of_length_eq_zero (by omega)
  subst hB
  have l:=bC A
  simp only[rdA,zqe]
  unfold loopW
  conv=>lhs;arg 1;unfold e9
  simp -implicitDefEqProofs (disch:=first|assumption|omega|(simp only[aE,aF,aD,i64,sa,aB,lm,la,lc,ln];omega)) only[go_sem,simprocAttr,hdr,l,hA]
 |k+1,[],j,A,hk,hd,h3,hA,hj,hr=>by simp at hk
 |k+1,[_],j,A,hk,hd,h3,hA,hj,hr=>by simp at hk;omega
 |k+1,[_,_],j,A,hk,hd,h3,hA,hj,hr=>by simp at hk;omega
 |k+1,y0::y1::y2::Bl,j,A,hk,hd,h3,hA,hj,hr=>by
  have hdr:=bQ
  have hlen:x.fArgs.length=j+(Bl.length+3):=by
   have:=congrArg List.length hd
   rw[List.length_drop] at this
   simp only[lc] at this
   omega
  have hy0:x.fArgs[j]? = some y0:=by
   have:=congrArg (fun l=>l[0]?) hd
   simpa using this
  have hd2:x.fArgs.drop (j+3)=Bl:=by
   have:=congrArg (List.drop 3) hd
   rw[List.drop_drop] at this
   simpa[Nat.add_comm] using this
  have k0:decide (x.fOp=19)=true:=decide_eq_true h19
  have u0:jA x j (y0::y1::y2::Bl)=y1::((if y0=2 then [y2] else [])++jA x (j+3) Bl):=by
   simp only[jA,k0,Bool.not_true,Bool.false_or,Gf,show j % 3=0 from h3,show(j+1) % 3=1 by omega,show(j+1+1) % 3=2 by omega,show j+1+1-2=j by omega,hy0]
   simp
  have r0:rdA x so j (y0::y1::y2::Bl)=y0::ofZ so y1::(if y0=2 then ofZ so y2 else y2)::rdA x so (j+3) Bl:=by
   simp only[rdA,k0,Bool.not_true,Bool.false_or,Gf,show j % 3=0 from h3,show(j+1) % 3=1 by omega,show(j+1+1) % 3=2 by omega,show j+1+1-2=j by omega,hy0]
   simp
  rw[u0] at hr
  obtain⟨b0,b1⟩:=hr y1 (by simp)
  have f1:=qK so (r:=y1) b0 b1
  have lid:(aP (dJ so)).length=so.length:=by rw[bC,iH]
  have ih:=zJx x so hm h19 hx k Bl (j+3) (A++[y0,ofZ so y1,if y0=2 then ofZ so y2 else y2]) (by simp at hk;omega) hd2 (by omega) (by simp[hA]) (by omega) (fun z hz=>hr z (by simp[hz]))
  rw[zqc,zqc,show(((j+3:Nat)):Int)=(j:Int)+3 by omega] at ih
  rw[r0]
  have e2:=congrArg (fun l=>some (Ex.ext 0,({env:=upd (upd emp 4 (some (X.ptr (1,1) [] 0 0))) 2 (some (X.ptr (1,0) [] 0 0)),heap:=rdH x x.fA x.fB l,fr:=1,next:=2}:St))) (show A++([y0,ofZ so y1,if y0=2 then ofZ so y2 else y2]++rdA x so (j+3) Bl)=A++y0::ofZ so y1::(if y0=2 then ofZ so y2 else y2)::rdA x so (j+3) Bl by simp)
  rw[←e2,←ih]
  clear ih e2
  have p0:=r6 A y0 (y1::y2::Bl) (j:=(j:Int)) (by omega)
  have p1:=r6 (A++[y0]) y1 (y2::Bl) (j:=(j:Int)+1) (by simp;omega)
  have q1:=uY (A++[y0]) y1 (ofZ so y1) (y2::Bl) (j:=(j:Int)+1) (by simp;omega)
  have p0':=r6 A y0 (ofZ so y1::y2::Bl) (j:=(j:Int)) (by omega)
  have p2:=r6 (A++[y0,ofZ so y1]) y2 Bl (j:=(j:Int)+2) (by simp;omega)
  have q2:=uY (A++[y0,ofZ so y1]) y2 (ofZ so y2) Bl (j:=(j:Int)+2) (by simp;omega)
  simp only[zqc,List.cons_append,zqf] at p1 q1 p2 q2
  simp only[Int.toNat_natCast] at p0 p0'
  have l1:(aP (A++y0::y1::y2::Bl)).length=j+(Bl.length+3):=by rw[bC];simp;omega
  have l2:(aP (A++y0::ofZ so y1::y2::Bl)).length=j+(Bl.length+3):=by rw[bC];simp;omega
  simp only[rdH]
  by_cases c:y0=2
  ·obtain⟨b2,b3⟩:=hr y2 (by simp[c])
   have f2:=qK so (r:=y2) b2 b3
   rw[if_pos c]
   subst c
   generalize hz0:aP (A++2::y1::y2::Bl)=Z0 at *
   generalize hz1:aP (A++2::ofZ so y1::y2::Bl)=Z1 at *
   simp only[List.cons_append,zqf]
   generalize hz2:aP (A++2::ofZ so y1::ofZ so y2::Bl)=Z2 at *
   conv=>lhs;unfold loopW;arg 1;unfold e9
   simp -implicitDefEqProofs (disch:=first|assumption|omega|(simp only[aE,aF,aD,i64,sa,aB,lm,la,lc,ln];omega)) only[go_sem,simprocAttr,hdr,l1,l2,p0,p1,q1,p0',p2,q2,f1,f2,lid]
  ·rw[if_neg c]
   simp only[List.cons_append,zqf]
   generalize hz0:aP (A++y0::y1::y2::Bl)=Z0 at *
   generalize hz1:aP (A++y0::ofZ so y1::y2::Bl)=Z1 at *
   conv=>lhs;unfold loopW;arg 1;unfold e9
   simp -implicitDefEqProofs (disch:=first|assumption|omega|(simp only[aE,aF,aD,i64,sa,aB,lm,la,lc,ln];omega)) only[go_sem,simprocAttr,hdr,l1,l2,p0,p1,q1,p0',f1,lid,c]
theorem zQi(x:ZA)(so:List Int)(hm:so.length≤250)(h19:x.fOp≠19)(hx:x.fArgs.length≤9)(a b:Int):∀(Bl:List Int) (j:Nat) (A:List Int),x.fArgs.drop j=Bl→A.length=j→(∀y∈jA x j Bl,0≤y∧y<so.length) →
  loopW tab [1,2,4,73,74,75] fG {env:=upd (upd (upd (upd (upd (upd emp 75 (some (I (j:Int)))) 74 (some (I (x.fArgs.length:Int)))) 73 (some (.ref (1,0) [(0,6)]))) 4 (some (.ptr (1,1) [] 0 0))) 2 (some (.ptr (1,0) [] 0 0))) 1 (some (.d (.r (aP (dJ so))))),heap:=rdH x a b (A++Bl),fr:=1,next:=2} =
  some (.ext 2,{env:=upd (upd emp 4 (some (.ptr (1,1) [] 0 0))) 2 (some (.ptr (1,0) [] 0 0)),heap:=rdH x a b (A++rdA x so j Bl),fr:=1,next:=2})
 |[],j,A,hd,hA,hr=>by
  have hdr:=bQ
  have hl:x.fArgs.length≤j:=by
   have:=congrArg List.length hd
   rw[List.length_drop,ln] at this
   omega
  simp only[rdA,zqe]
  unfold loopW
  conv=>lhs;arg 1;unfold fG
  simp -implicitDefEqProofs (disch:=first|assumption|omega|(simp only[aE,aF,aD,i64,sa,aB,lm,la,lc,ln];omega)) only[go_sem,simprocAttr,hdr,show ¬((j:Int)<x.fArgs.length) by omega]
 |y::Bl,j,A,hd,hA,hr=>by
  have hdr:=bQ
  have hlen:x.fArgs.length=j+(Bl.length+1):=by
   have:=congrArg List.length hd
   rw[List.length_drop,lc] at this
   omega
  have hd2:x.fArgs.drop (j+1)=Bl:=by
   have:=congrArg (List.drop 1) hd
   rw[List.drop_drop] at this
   simpa[Nat.add_comm] using this
  have k0:decide (x.fOp=19)=false:=decide_eq_false h19
  rw[jA] at hr
  rw[rdA]
  simp only[k0,Bool.not_false,Bool.true_or] at hr ⊢
  obtain⟨b0,b1⟩:=hr y (by simp)
  have f1:=qK so (r:=y) b0 b1
  have lid:(aP (dJ so)).length=so.length:=by rw[bC,iH]
  have ih:=zQi x so hm h19 hx a b Bl (j+1) (A++[ofZ so y]) hd2 (by simp[hA]) (fun z hz=>hr z (by simp[hz]))
  rw[zqc,zqc,show(((j+1:Nat)):Int)=(j:Int)+1 by omega] at ih
  rw[if_pos trivial]
  have p0:=r6 A y Bl (j:=(j:Int)) (by omega)
  have q0:=uY A y (ofZ so y) Bl (j:=(j:Int)) (by omega)
  have l1:(aP (A++y::Bl)).length=j+(Bl.length+1):=by rw[bC];simp;omega
  simp only[List.cons_append,zqf] at ih
  simp only[Int.toNat_natCast] at p0 q0
  rw[←ih]
  clear ih
  simp only[rdH]
  generalize hz0:aP (A++y::Bl)=Z0 at *
  generalize hz1:aP (A++ofZ so y::Bl)=Z1 at *
  conv=>lhs;unfold loopW;arg 1;unfold fG
  simp -implicitDefEqProofs (disch:=first|assumption|omega|(simp only[aE,aF,aD,i64,sa,aB,lm,la,lc,ln];omega)) only[go_sem,simprocAttr,hdr,l1,p0,q0,f1,lid,show((j:Int)<x.fArgs.length) by omega]
set_option maxRecDepth 8000
set_option maxHeartbeats 16000000
theorem zWC{x:ZA}(h:x.fOp≠19):(hb x 4&& !decide (x.fOp=19))=hb x 4:=by simp[h]
theorem G1(x:ZA)(so:List Int)(hm:so.length≤250)(hx:ROk so.length x):evCW tab nW [xq' x (.ref (0,0) []),.d (.r (aP (dJ so)))] (upd emp (0,0) (some (.s 1 (aP x.fArgs)))) 1=some ((bD so x).xo,upd emp (0,0) none):=by
 have hdr:=bQ
 have lid:(aP (dJ so)).length=so.length:=by rw[bC,iH]
 rw[bU Iz _ _ _ rfl,yD]
 by_cases c19:x.fOp=19
 ·have h32:hb x 32=true:=(zZr c19).2.2.2
  have h2:hb x 2=false:=(zZr c19).2.1
  have hl:=zJx x so hm c19 hx.len (x.fArgs.length / 3) x.fArgs 0 [] (by have:=hx.sel c19;omega) rfl (by omega) rfl (by omega) (fun y hy=>hx.u y (zKu h32 hy))
  simp only[rdH,zqf,show((0:Nat):Int)=0 from rfl] at hl
  simp only[bD,ZA.xo,h2,h32,c19,if_true,decide_true,Bool.not_true,uH,Bool.false_eq_true,if_false]
  generalize aP (rdA x so 0 x.fArgs)=Z1 at *
  generalize aP (dJ so)=Z2 at *
  simp only[c19] at hl
  simp -implicitDefEqProofs (disch:=first|assumption|omega|(simp only[aE,aF,aD,i64,sa,aB,lm,la,lc,ln];omega)) only[go_sem,simprocAttr,hdr,c19,hl]
 ·have a2:=bT x (65,2) (by simp)
  have a4:=bT x (66,4) (by simp)
  have hl:∀a b,loopW tab [1,2,4,73,74,75] fG {env:=upd (upd (upd (upd (upd (upd emp 75 (some (I 0))) 74 (some (I (x.fArgs.length:Int)))) 73 (some (.ref (1,0) [(0,6)]))) 4 (some (.ptr (1,1) [] 0 0))) 2 (some (.ptr (1,0) [] 0 0))) 1 (some (.d (.r (aP (dJ so))))),heap:=rdH x a b x.fArgs,fr:=1,next:=2} =
    some (.ext 2,{env:=upd (upd emp 4 (some (.ptr (1,1) [] 0 0))) 2 (some (.ptr (1,0) [] 0 0)),heap:=rdH x a b (if hb x 32=true then rdA x so 0 x.fArgs else x.fArgs),fr:=1,next:=2}):=fun a b=>by
   have:=zQi x so hm c19 hx.len a b x.fArgs 0 [] rfl rfl
   by_cases h32:hb x 32=true
   ·rw[if_pos h32]
    exact this (fun y hy=>hx.u y (zKu h32 hy))
   ·rw[if_neg h32]
    rw[hx.no h32] at this ⊢
    exact this (fun y hy=>by simp[jA] at hy)
  have hla:=fun h=>qK so (hx.u _ (Qv (x:=x) h)).1 (hx.u _ (Qv h)).2
  have hlb:=fun h=>qK so (hx.u _ (Wn (x:=x) h)).1 (hx.u _ (Wn h)).2
  have hba:=fun h=>hx.u _ (Qv (x:=x) h)
  have hbb:=fun h=>hx.u _ (Wn (x:=x) h)
  have hal:=bC x.fArgs
  simp only at a2 a4
  simp only[bD,ZA.xo,zWC c19] at hlb hbb ⊢
  simp only[rdH] at hl
  generalize (if hb x 32=true then rdA x so 0 x.fArgs else x.fArgs)=L at *
  generalize aP (dJ so)=Z2 at *
  generalize aP x.fArgs=Z0 at *
  cases c2:hb x 2<;>cases c4:hb x 4<;>rw[c2] at a2 hla hba<;>rw[c4] at a4 hlb hbb
  ·simp -implicitDefEqProofs (disch:=first|assumption|omega|(simp only[aE,aF,aD,i64,sa,aB,lm,la,lc,ln];omega)) only[go_sem,simprocAttr,hdr,c19,a2,a4,hl,hal]
  ·have hlb:=hlb rfl
   obtain⟨hb0,hb1⟩:=hbb rfl
   simp -implicitDefEqProofs (disch:=first|assumption|omega|(simp only[aE,aF,aD,i64,sa,aB,lm,la,lc,ln];omega)) only[go_sem,simprocAttr,hdr,c19,a2,a4,hl,hal,hlb,lid]
  ·have hla:=hla rfl
   obtain⟨ha0,ha1⟩:=hba rfl
   simp -implicitDefEqProofs (disch:=first|assumption|omega|(simp only[aE,aF,aD,i64,sa,aB,lm,la,lc,ln];omega)) only[go_sem,simprocAttr,hdr,c19,a2,a4,hl,hal,hla,lid]
  ·have hla:=hla rfl
   obtain⟨ha0,ha1⟩:=hba rfl
   have hlb:=hlb rfl
   obtain⟨hb0,hb1⟩:=hbb rfl
   simp -implicitDefEqProofs (disch:=first|assumption|omega|(simp only[aE,aF,aD,i64,sa,aB,lm,la,lc,ln];omega)) only[go_sem,simprocAttr,hdr,c19,a2,a4,hl,hal,hla,hlb,lid]
set_option maxRecDepth 8000
set_option maxHeartbeats 16000000
def fgt(so:List Int)(r:Int):List Int:=(so.set r.toNat (-1)).map fun x=>if x=r then -1 else x
def fgI(r:Int):Int→List Int→List Int
 |_,[]=>[]
 |j,y::ys=>(if y=r then j else y)::fgI r (j+1) ys
def frI:Int→List Int→List Int
 |_,[]=>[]
 |j,_::ys=>j::frI (j+1) ys
theorem zqL(r:Int):∀(ys:List Int) (j:Int) (i:Nat),(fgI r j ys)[i]? = (ys[i]?).map fun y=>if y=r then j+i else y
 |[],j,i=>by simp[fgI]
 |y::ys,j,0=>by simp[fgI]
 |y::ys,j,i+1=>by
  rw[fgI,List.getElem?_cons_succ,List.getElem?_cons_succ,zqL r ys (j+1) i,show j+1+(i:Int)=j+((i+1:Nat):Int) by omega]
theorem zqW:∀(ys:List Int) (j:Int) (i:Nat),(frI j ys)[i]? = (ys[i]?).map fun y=>j+i
 |[],j,i=>by simp[frI]
 |y::ys,j,0=>by simp[frI]
 |y::ys,j,i+1=>by
  rw[frI,List.getElem?_cons_succ,List.getElem?_cons_succ,zqW ys (j+1) i,show j+1+(i:Int)=j+((i+1:Nat):Int) by omega]
theorem E3(so:List Int)(i:Nat):(dJ so)[i]? = (so[i]?).map fun v=>if 0≤v then v else(i:Int):=by
 rw[dJ,List.getElem?_map]
 by_cases h:i<so.length
 ·rw[List.getElem?_range h,List.getElem?_eq_getElem h]
  simp[ofZ,gO,h]
 ·rw[List.getElem?_eq_none (by simp;omega),List.getElem?_eq_none (by omega)]
  rfl
theorem Uh(so:List Int)(r:Int):(fgt so r).length=so.length:=by simp[fgt]
theorem zKP(so:List Int){r:Int}(h0:0≤r)(h1:r<so.length):fgI r 0 ((dJ so).set r.toNat r)=dJ (fgt so r):=by
 apply List.ext_getElem?
 intro i
 rw[zqL,E3,fgt,List.getElem?_map,List.getElem?_set,List.getElem?_set,E3,iH]
 by_cases e:r.toNat=i
 ·have h2:i<so.length:=by omega
  simp only[e,if_true,h2,oms]
  simp
 ·simp only[if_neg e]
  by_cases h:i<so.length
  ·rw[List.getElem?_eq_getElem h]
   simp only[oms]
   by_cases c:0≤so[i]
   ·simp only[if_pos c]
    by_cases c2:so[i]=r
    ·simp[c2]
    ·simp[c2,c]
   ·have c2:¬so[i]=r:=by omega
    have c3:¬(i:Int)=r:=by omega
    simp[c,c2,c3]
  ·rw[List.getElem?_eq_none (by omega)]
   rfl
theorem zZh(so:List Int){d a:Int}(h0:0≤d)(h1:d<so.length)(ha:0≤a):(dJ so).set d.toNat a=dJ (so.set d.toNat a):=by
 apply List.ext_getElem?
 intro i
 rw[E3,List.getElem?_set,List.getElem?_set,E3,iH]
 by_cases e:d.toNat=i
 ·have h2:i<so.length:=by omega
  simp[e,h2,ha]
 ·simp only[if_neg e]
theorem z8c(ys:List Int):frI 0 ys=dJ (List.replicate ys.length (-1)):=by
 apply List.ext_getElem?
 intro i
 rw[zqW,E3,List.getElem?_replicate]
 by_cases h:i<ys.length
 ·simp[h]
 ·simp[h]
theorem zQo(r:Int):∀(Bl:List Int) (j:Int) (A:List Int),A.length=j→A.length+Bl.length≤250 →
  loopW tab [0,1,10,11] iC {env:=upd (upd (upd (upd emp 11 (some (I j))) 10 (some (I ((A.length+Bl.length:Nat):Int)))) 1 (some (I r))) 0 (some (.ref (0,0) [])),heap:=upd emp (0,0) (some (.s 1 (aP (A++Bl)))),fr:=1,next:=0} =
  some (.ext 0,{env:=emp,heap:=upd emp (0,0) (some (.s 1 (aP (A++fgI r j Bl)))),fr:=1,next:=0})
 |[],j,A,hA,hl=>by
  have hdr:=bQ
  simp only[fgI,zqe,ln,Nat.add_zero]
  unfold loopW
  conv=>lhs;arg 1;unfold iC
  simp -implicitDefEqProofs (disch:=first|assumption|omega|(simp only[aE,aF,aD,i64,sa,aB,lm,la,lc,ln];omega)) only[go_sem,simprocAttr,hdr,show ¬j<(A.length:Int) by omega]
 |y::Bl,j,A,hA,hl=>by
  have hdr:=bQ
  have hl2:A.length+Bl.length+1≤250:=by rw[lc] at hl;omega
  have ih:=zQo r Bl (j+1) (A++[if y=r then j else y]) (by simp;omega) (by simp;omega)
  rw[zqc,zqc,show((A++[if y=r then j else y]).length+Bl.length:Nat)=A.length+(y::Bl).length by simp;omega] at ih
  simp only[List.cons_append,zqf] at ih
  rw[fgI,←ih]
  clear ih
  have p0:=r6 A y Bl (j:=j) (by omega)
  have q0:=uY A y j Bl (j:=j) (by omega)
  have l1:(aP (A++y::Bl)).length=A.length+(Bl.length+1):=by rw[bC];simp
  simp only[lc]
  generalize hz0:aP (A++y::Bl)=Z0 at *
  by_cases c:y=r
  ·rw[if_pos c]
   generalize hz1:aP (A++j::Bl)=Z1 at *
   conv=>lhs;unfold loopW;arg 1;unfold iC
   simp -implicitDefEqProofs (disch:=first|assumption|omega|(simp only[aE,aF,aD,i64,sa,aB,lm,la,lc,ln];omega)) only[go_sem,simprocAttr,hdr,l1,p0,q0,c,show j<((A.length+(Bl.length+1):Nat):Int) by omega]
  ·rw[if_neg c,hz0]
   conv=>lhs;unfold loopW;arg 1;unfold iC
   simp -implicitDefEqProofs (disch:=first|assumption|omega|(simp only[aE,aF,aD,i64,sa,aB,lm,la,lc,ln];omega)) only[go_sem,simprocAttr,hdr,l1,p0,c,show j<((A.length+(Bl.length+1):Nat):Int) by omega]
theorem M1(so:List Int)(hm:so.length≤250)(r:Int)(h0:0≤r)(h1:r<so.length):evCW tab zP [.ref (0,0) [],I r] (upd emp (0,0) (some (.s 1 (aP (dJ so))))) 1=some (.tup [],upd emp (0,0) (some (.s 1 (aP (dJ (fgt so r)))))):=by
 have hdr:=bQ
 have lid:(aP (dJ so)).length=so.length:=by rw[bC,iH]
 have e1:=oJ (dJ so) r.toNat r
 have lid2:(aP ((dJ so).set r.toNat r)).length=so.length:=by rw[bC,List.length_set,iH]
 obtain⟨v,hv⟩:∃v,(aP (dJ so))[r.toNat]? = some [DI v]:=⟨_,qK so h0 h1⟩
 have hl:=zQo r ((dJ so).set r.toNat r) 0 [] rfl (by simp[iH];omega)
 rw[zKP so h0 h1] at hl
 simp only[zqf,ln,Nat.zero_add,List.length_set,iH] at hl
 rw[bU Pu _ _ _ rfl,Cz]
 generalize aP (dJ (fgt so r))=Z2 at *
 generalize aP ((dJ so).set r.toNat r)=Z1 at *
 generalize aP (dJ so)=Z0 at *
 simp -implicitDefEqProofs (disch:=first|assumption|omega|(simp only[aE,aF,aD,i64,sa,aB,lm,la,lc,ln];omega)) only[go_sem,simprocAttr,hdr,lid,hv,e1,lid2,hl]
theorem zQ0:∀(Bl:List Int) (j:Int) (A:List Int),A.length=j→A.length+Bl.length≤250 →
  loopW tab [0,4,5] mL {env:=upd (upd (upd emp 5 (some (I j))) 4 (some (I ((A.length+Bl.length:Nat):Int)))) 0 (some (.ref (0,0) [])),heap:=upd emp (0,0) (some (.s 1 (aP (A++Bl)))),fr:=1,next:=0} =
  some (.ext 0,{env:=emp,heap:=upd emp (0,0) (some (.s 1 (aP (A++frI j Bl)))),fr:=1,next:=0})
 |[],j,A,hA,hl=>by
  have hdr:=bQ
  simp only[frI,zqe,ln,Nat.add_zero]
  unfold loopW
  conv=>lhs;arg 1;unfold mL
  simp -implicitDefEqProofs (disch:=first|assumption|omega|(simp only[aE,aF,aD,i64,sa,aB,lm,la,lc,ln];omega)) only[go_sem,simprocAttr,hdr,show ¬j<(A.length:Int) by omega]
 |y::Bl,j,A,hA,hl=>by
  have hdr:=bQ
  have hl2:A.length+Bl.length+1≤250:=by rw[lc] at hl;omega
  have ih:=zQ0 Bl (j+1) (A++[j]) (by simp;omega) (by simp;omega)
  rw[zqc,zqc,show((A++[j]).length+Bl.length:Nat)=A.length+(y::Bl).length by simp;omega] at ih
  simp only[List.cons_append,zqf] at ih
  rw[frI,←ih]
  clear ih
  have p0:=r6 A y Bl (j:=j) (by omega)
  have q0:=uY A y j Bl (j:=j) (by omega)
  have l1:(aP (A++y::Bl)).length=A.length+(Bl.length+1):=by rw[bC];simp
  simp only[lc]
  generalize hz0:aP (A++y::Bl)=Z0 at *
  generalize hz1:aP (A++j::Bl)=Z1 at *
  conv=>lhs;unfold loopW;arg 1;unfold mL
  simp -implicitDefEqProofs (disch:=first|assumption|omega|(simp only[aE,aF,aD,i64,sa,aB,lm,la,lc,ln];omega)) only[go_sem,simprocAttr,hdr,l1,p0,q0,show j<((A.length+(Bl.length+1):Nat):Int) by omega]
theorem Cy(zs:List Int)(hm:zs.length≤250):evCW tab vY [.ref (0,0) []] (upd emp (0,0) (some (.s 1 (aP zs)))) 1=some (.tup [],upd emp (0,0) (some (.s 1 (aP (dJ (List.replicate zs.length (-1))))))):=by
 have hdr:=bQ
 have lid:(aP zs).length=zs.length:=bC zs
 have hl:=zQ0 zs 0 [] rfl (by simpa using hm)
 rw[z8c] at hl
 simp only[zqf,ln,Nat.zero_add] at hl
 rw[bU Ui _ _ _ rfl,Eu]
 generalize aP (dJ (List.replicate zs.length (-1)))=Z2 at *
 generalize aP zs=Z0 at *
 simp -implicitDefEqProofs (disch:=first|assumption|omega|(simp only[aE,aF,aD,i64,sa,aB,lm,la,lc,ln];omega)) only[go_sem,simprocAttr,hdr,lid,hl]
set_option maxRecDepth 8000
set_option maxHeartbeats 16000000
abbrev fwH(u:ZB)(V:List (List D))(so:List Int)(T:D):Heap:=upd (upd (upd (upd emp (0,3) (some T)) (0,2) (some (.s 1 (aP so)))) (0,1) (some (fE u (.s 7 V)))) (0,0) (some qQ)
theorem zZB(u:ZB)(V:List (List D))(T:D)(S:List Int)(k i r:Int)(hm:u.fRegs≤250)(hk:0≤k)(hk2:k<S.length)(hs:(aP S)[k.toNat]? = some [DI r]):∀(Bl:List Int) (j:Int) (A:List Int),(A.length:Int)=j→(A.length:Int)+Bl.length=u.fRegs →
  loopW tab [1,2,3,4,5,6,7,8,9] gB {env:=upd (upd (upd (upd (upd (upd (upd (upd (upd emp 9 (some (I j))) 8 (some (I k))) 7 (some (.d (.r (aP S))))) 6 (some (.ptr (0,3) [] 0 0))) 5 (some (I i))) 4 (some (.ref (0,2) []))) 3 (some (.ptr (0,1) [] 0 0))) 2 (some (.ptr (0,0) [] 0 0))) 1 (some (vpU u)),heap:=fwH u V (A++Bl) T,fr:=0,next:=4} =
  some (.ext 4,{env:=upd (upd (upd (upd (upd (upd (upd (upd emp 8 (some (I k))) 7 (some (.d (.r (aP S))))) 6 (some (.ptr (0,3) [] 0 0))) 5 (some (I i))) 4 (some (.ref (0,2) []))) 3 (some (.ptr (0,1) [] 0 0))) 2 (some (.ptr (0,0) [] 0 0))) 1 (some (vpU u)),heap:=fwH u V (A++Bl.map fun x=>if x=r then -1 else x) T,fr:=0,next:=4})
 |[],j,A,hA,hl=>by
  have hl2:(A.length:Int)=u.fRegs:=by simpa using hl
  simp only[mn,zqe]
  generalize aP S=Z at *
  generalize aP A=Y at *
  unfold loopW
  conv=>lhs;arg 1;unfold gB
  simp -implicitDefEqProofs (disch:=first|assumption|omega|(simp only[aE,aF,aD,i64,sa,aB,lm,la,lc,ln];omega)) only[go_sem,simprocAttr,show ¬j<u.fRegs by omega]
 |y::Bl,j,A,hA,hl=>by
  have hl2:(A.length:Int)+Bl.length+1=u.fRegs:=by rw[lc] at hl;omega
  have ih:=zZB u V T S k i r hm hk hk2 hs Bl (j+1) (A++[if y=r then -1 else y]) (by simp;omega) (by simp;omega)
  rw[zqc,zqc] at ih
  simp only[List.cons_append,zqf] at ih
  rw[mc,←ih]
  clear ih
  have p0:=r6 A y Bl (j:=j) (by omega)
  have q0:=uY A y (-1) Bl (j:=j) (by omega)
  have l1:(aP (A++y::Bl)).length=A.length+(Bl.length+1):=by rw[bC];simp
  have l2:(aP S).length=S.length:=bC S
  simp only[fwH]
  generalize hz0:aP (A++y::Bl)=Z0 at *
  generalize aP S=Z at *
  by_cases c:y=r
  ·rw[if_pos c]
   generalize hz1:aP (A++(-1)::Bl)=Z1 at *
   conv=>lhs;unfold loopW;arg 1;unfold gB
   simp -implicitDefEqProofs (disch:=first|assumption|omega|(simp only[aE,aF,aD,i64,sa,aB,lm,la,lc,ln];omega)) only[go_sem,simprocAttr,l1,l2,hs,p0,q0,c,show j<u.fRegs by omega]
  ·rw[if_neg c,hz0]
   conv=>lhs;unfold loopW;arg 1;unfold gB
   simp -implicitDefEqProofs (disch:=first|assumption|omega|(simp only[aE,aF,aD,i64,sa,aB,lm,la,lc,ln];omega)) only[go_sem,simprocAttr,l1,l2,hs,p0,c,show j<u.fRegs by omega]
theorem zQ3(u:ZB)(V:List (List D))(T:D)(S:List Int)(i:Int)(hm:u.fRegs≤250)(hS:S.length≤250):∀(Bl:List Int) (k:Int) (so:List Int),S.drop k.toNat=Bl→0≤k→(so.length:Int)=u.fRegs→(∀r∈Bl,0≤r∧r<u.fRegs) →
  loopW tab [1,2,3,4,5,6,7,8] kF {env:=upd (upd (upd (upd (upd (upd (upd (upd emp 8 (some (I k))) 7 (some (.d (.r (aP S))))) 6 (some (.ptr (0,3) [] 0 0))) 5 (some (I i))) 4 (some (.ref (0,2) []))) 3 (some (.ptr (0,1) [] 0 0))) 2 (some (.ptr (0,0) [] 0 0))) 1 (some (vpU u)),heap:=fwH u V so T,fr:=0,next:=4} =
  some (.ext 2,{env:=upd (upd (upd (upd (upd (upd emp 6 (some (.ptr (0,3) [] 0 0))) 5 (some (I i))) 4 (some (.ref (0,2) []))) 3 (some (.ptr (0,1) [] 0 0))) 2 (some (.ptr (0,0) [] 0 0))) 1 (some (vpU u)),heap:=fwH u V (Bl.foldl fgt so) T,fr:=0,next:=4})
 |[],k,so,hd,hk,hl,hr=>by
  have hh:=dW hd hk
  have l2:(aP S).length=S.length:=bC S
  simp only[List.foldl_nil]
  generalize aP S=Z at *
  generalize aP so=Y at *
  unfold loopW
  conv=>lhs;arg 1;unfold kF
  simp -implicitDefEqProofs (disch:=first|assumption|omega|(simp only[aE,aF,aD,i64,sa,aB,lm,la,lc,ln];omega)) only[go_sem,simprocAttr,hh,l2]
 |r::Bl,k,so,hd,hk,hl,hr=>by
  have hc:=b7 hd hk
  have h2:=kH (fun n=>[DI n]) hc.1
  have h4:=hc.2.1
  obtain⟨b0,b1⟩:=hr r (by simp)
  have ih:=zQ3 u V T S i hm hS Bl (k+1) (fgt so r) hc.2.2.1 (by omega) (by rw[Uh];exact hl) (fun z hz=>hr z (by simp[hz]))
  have g0:=zZB u V T S k i r hm hk (by omega) h2 (so.set r.toNat (-1)) 0 [] rfl (by simp;omega)
  have l2:(aP S).length=S.length:=bC S
  have l3:(aP so).length=so.length:=bC so
  have p0:=(fF (zs:=so) b0 (by omega)).1
  have q0:=oJ so r.toNat (-1)
  rw[List.foldl_cons,←ih]
  clear ih
  simp only[zqf] at g0
  rw[←fgt] at g0
  simp only[fwH] at g0 ⊢
  generalize aP (fgt so r)=Z2 at *
  generalize aP (so.set r.toNat (-1))=Z1 at *
  generalize aP so=Z0 at *
  conv=>lhs;unfold loopW;arg 1;unfold kF
  simp -implicitDefEqProofs (disch:=first|assumption|omega|(simp only[aE,aF,aD,i64,sa,aB,lm,la,lc,ln];omega)) only[go_sem,simprocAttr,h2,h4,l2,l3,p0,q0,g0]
set_option maxRecDepth 8000
set_option maxHeartbeats 16000000
def G8(m:Nat)(so:List Int)(t:ZA):List Int×ZA :=
 let so1:=if t.fOp=8 then List.replicate m (-1) else so
 let t2:=bD so1 t
 let so2:=(aY t2).foldl fgt so1
 (if t2.fOp=2∧t2.fD≠t2.fA then so2.set t2.fD.toNat t2.fA else so2,t2)
def B5(m:Nat)(so:List Int):List ZA→List ZA
 |[]=>[]
 |t::ts=>(G8 m so t).2::B5 m (G8 m so t).1 ts
theorem dB:∀(L w:List Int),(L.foldl fgt w).length=w.length
 |[],_=>rfl
 |a::L,w=>by rw[List.foldl_cons,dB L _,Uh]
abbrev sfS(u:ZB)(V:List (List D))(so:List Int)(j:Int):St:={env:=upd (upd (upd (upd (upd emp 5 (some (I j))) 4 (some (.ref (0,2) []))) 3 (some (.ptr (0,1) [] 0 0))) 2 (some (.ptr (0,0) [] 0 0))) 1 (some (vpU u)),heap:=upd (upd (upd emp (0,2) (some (.s 1 (aP so)))) (0,1) (some (fE u (.s 7 V)))) (0,0) (some qQ),fr:=0,next:=3}
def cpS(t:ZA)(so:List Int):List Int:=if t.fOp=2∧t.fD≠t.fA then so.set t.fD.toNat t.fA else so
theorem zZF(u:ZB)(m:Nat)(hm:m≤250)(hr:u.fRegs=m)(so so1:List Int)(t t2:ZA)(S:List Int)(Z0:List (List D))(j:Int)(n:Nat)(h0:0≤j)(hj:j<n)(hn:n≤900)(l1:Z0.length=n)(p0:Z0[j.toNat]? = some t.o)(hs1:so1.length=m)
  (k8:t.fOp=8→so1=List.replicate m (-1)) (k9:t.fOp≠8→so1=so)
  (g1:evCW tab nX [xq' t (.ref (0,0) []),.d (.r (aP so1))] (upd emp (0,0) (some (.s 1 (aP t.fArgs)))) 1=some (t2.xo,upd emp (0,0) none))
  (g3:call tab mE [xq t2 .u]=some (.d (.s 1 (aP S)))) (hS:S.length≤2) (hsr:∀r∈S,0≤r∧r<(m:Int)) (hcp:t2.fOp=2→0≤t2.fD∧t2.fD<(m:Int)) :
  loopW tab [1,2,3,4,5] eJ (sfS u Z0 so j)=loopW tab [1,2,3,4,5] eJ (sfS u (Z0.set j.toNat t2.o) (cpS t2 (S.foldl fgt so1)) (j+1)):=by
 have hjn:j.toNat<Z0.length:=by omega
 have gn:=zq1 u.fRegs (by omega) (by omega)
 rw[hr,Int.toNat_natCast,←hr] at gn
 have pu:(Z0.set j.toNat [DI t.fOp,DI t.fD,DI t.fA,DI t.fB,DI t.fN,DS t.fS,D.u])[j.toNat]? = some [DI t.fOp,DI t.fD,DI t.fA,DI t.fB,DI t.fN,DS t.fS,D.u]:=by
  rw[List.getElem?_set]
  simp[hjn]
 have q1:(Z0.set j.toNat [DI t.fOp,DI t.fD,DI t.fA,DI t.fB,DI t.fN,DS t.fS,D.u]).set j.toNat t2.o=Z0.set j.toNat t2.o:=by
  rw[List.set_set]
 have lu:(Z0.set j.toNat [DI t.fOp,DI t.fD,DI t.fA,DI t.fB,DI t.fN,DS t.fS,D.u]).length=n:=by rw[List.length_set,l1]
 have g2:=fun V T=>zQ3 u V T S j (by omega) (by omega) S 0 so1 rfl (by omega) (by omega) (by rw[hr];exact hsr)
 have hnr:Sg [I t2.fOp,I t2.fD,I t2.fA,I t2.fB,I t2.fN,Str t2.fS,.d (.s 1 (aP t2.fArgs))]=true:=by simp[Sg,X.noRC,D.noR,qT]
 have e1:=dQ so1
 have e2:=dQ S
 have l3:(aP (S.foldl fgt so1)).length=m:=by rw[bC,dB,hs1]
 have e3:=oJ (S.foldl fgt so1) t2.fD.toNat t2.fA
 have p3:t2.fOp=2→∃v,(aP (S.foldl fgt so1))[t2.fD.toNat]? = some [DI v]:=fun h=>⟨_,(fF (zs:=S.foldl fgt so1) (hcp h).1 (by rw[dB,hs1];exact(hcp h).2)).1⟩
 simp only[fwH,vpU,fE] at g2
 unfold cpS
 simp only[xq',xq,ZA.o,ZA.xo] at g1 g3 p0 q1 ⊢
 generalize hZU:(Z0.set j.toNat [DI t.fOp,DI t.fD,DI t.fA,DI t.fB,DI t.fN,DS t.fS,D.u])=ZU at *
 generalize aP S=ZS at *
 generalize S.foldl fgt so1=sF at *
 conv=>lhs;unfold loopW;arg 1;unfold eJ
 by_cases c2:t2.fOp=2
 ·obtain⟨v,hv⟩:=p3 c2
  obtain⟨b0,b1⟩:=hcp c2
  rw[c2] at g1 g3 q1 hnr
  by_cases c3:t2.fD=t2.fA
  ·rw[if_neg (fun h=>h.2 c3)]
   simp only[c3] at g1 g3 q1 hnr
   by_cases c8:t.fOp=8
   ·rw[k8 c8] at g1 e1 g2
    simp only[c8] at g1 hZU pu
    simp -implicitDefEqProofs (disch:=first|assumption|omega|(simp only[aE,aF,aD,i64,sa,aB,lm,la,lc,ln];omega)) only[go_sem,simprocAttr,l1,p0,c8,gn,g1,hj,e1,hnr,hZU,pu,q1,lu,g3,e2,g2,c2,c3,l3]
   ·have e0:=k9 c8
    subst e0
    simp -implicitDefEqProofs (disch:=first|assumption|omega|(simp only[aE,aF,aD,i64,sa,aB,lm,la,lc,ln];omega)) only[go_sem,simprocAttr,l1,p0,c8,g1,hj,e1,hnr,hZU,pu,q1,lu,g3,e2,g2,c2,c3,l3]
  ·rw[if_pos ⟨c2,c3⟩]
   by_cases c8:t.fOp=8
   ·rw[k8 c8] at g1 e1 g2
    simp only[c8] at g1 hZU pu
    simp -implicitDefEqProofs (disch:=first|assumption|omega|(simp only[aE,aF,aD,i64,sa,aB,lm,la,lc,ln];omega)) only[go_sem,simprocAttr,l1,p0,c8,gn,g1,hj,e1,hnr,hZU,pu,q1,lu,g3,e2,g2,c2,c3,hv,e3,l3]
   ·have e0:=k9 c8
    subst e0
    simp -implicitDefEqProofs (disch:=first|assumption|omega|(simp only[aE,aF,aD,i64,sa,aB,lm,la,lc,ln];omega)) only[go_sem,simprocAttr,l1,p0,c8,g1,hj,e1,hnr,hZU,pu,q1,lu,g3,e2,g2,c2,c3,hv,e3,l3]
 ·rw[if_neg (fun h=>c2 h.1)]
  by_cases c8:t.fOp=8
  ·rw[k8 c8] at g1 e1 g2
   simp only[c8] at g1 hZU pu
   simp -implicitDefEqProofs (disch:=first|assumption|omega|(simp only[aE,aF,aD,i64,sa,aB,lm,la,lc,ln];omega)) only[go_sem,simprocAttr,l1,p0,c8,gn,g1,hj,e1,hnr,hZU,pu,q1,lu,g3,e2,g2,c2,l3]
  ·have e0:=k9 c8
   subst e0
   simp -implicitDefEqProofs (disch:=first|assumption|omega|(simp only[aE,aF,aD,i64,sa,aB,lm,la,lc,ln];omega)) only[go_sem,simprocAttr,l1,p0,c8,g1,hj,e1,hnr,hZU,pu,q1,lu,g3,e2,g2,c2,l3]
theorem zxt(so t):aY (bD so t)=aY t:=by
 unfold aY
 by_cases c:t.fOp=19
 ·have c2:(bD so t).fOp=19:=c
  rw[if_pos c,if_pos c2]
  simp[bD,hb,c]
 ·have c2:¬(bD so t).fOp=19:=c
  rw[if_neg c,if_neg c2]
  rfl
theorem Xu{m:Nat}{so:List Int}(h:so.length=m)(t:ZA):(G8 m so t).1.length=m:=by
 have e:∀so1:List Int,so1.length=m→(if (bD so1 t).fOp=2∧(bD so1 t).fD≠(bD so1 t).fA then((aY (bD so1 t)).foldl fgt so1).set (bD so1 t).fD.toNat (bD so1 t).fA else(aY (bD so1 t)).foldl fgt so1).length=m:=fun so1 h1=>by
  split
  ·rw[List.length_set,dB,h1]
  ·rw[dB,h1]
 unfold G8
 split
 ·exact e _ (by simp)
 ·exact e so h
theorem Ss{m:Nat}{so so1:List Int}{t:ZA}(h8:t.fOp=8→so1=List.replicate m (-1))(h9:t.fOp≠8→so1=so):G8 m so t=(cpS (bD so1 t) ((aY (bD so1 t)).foldl fgt so1),bD so1 t):=by
 unfold G8
 by_cases c:t.fOp=8
 ·rw[if_pos c,←h8 c]
  rfl
 ·rw[if_neg c,←h9 c]
  rfl
theorem zKo{m:Nat}{t:ZA}(hf:ROk m t)(so:List Int)(h:(bD so t).fOp=2):0≤(bD so t).fD∧(bD so t).fD<(m:Int):=by
 have:hb t 1=true:=x5 (t:=t) h (by decide)
 exact hf.s t.fD (by simp[aY,this])
theorem zQW(u:ZB)(m:Nat)(hm:m≤250)(hr:u.fRegs=m):∀(Bl:List ZA) (j:Int) (A:List ZA) (so:List Int),(A.length:Int)=j→A.length+Bl.length≤900→so.length=m→(∀t∈Bl,ROk m t) →
  loopW tab [1,2,3,4,5] eJ (sfS u ((A++Bl).map ZA.o) so j) =
  some (.ext 0,{env:=upd (upd emp 3 (some (.ptr (0,1) [] 0 0))) 2 (some (.ptr (0,0) [] 0 0)),heap:=upd (upd emp (0,1) (some (fE u (.s 7 ((A++B5 m so Bl).map ZA.o))))) (0,0) (some qQ),fr:=0,next:=2})
 |[],j,A,so,hA,hAB,hso,hf=>by
  simp only[B5,zqe]
  have l1:(A.map ZA.o).length=A.length:=List.length_map _
  generalize A.map ZA.o=Y at *
  unfold loopW
  conv=>lhs;arg 1;unfold eJ
  simp -implicitDefEqProofs (disch:=first|assumption|omega|(simp only[aE,aF,aD,i64,sa,aB,lm,la,lc,ln];omega)) only[go_sem,simprocAttr,l1,show ¬j<(A.length:Int) by omega]
 |t::Bl,j,A,so,hA,hAB,hso,hf=>by
  have hft:=hf t (by simp)
  rw[lc] at hAB
  have p0:((A++t::Bl).map ZA.o)[j.toNat]? = some t.o:=by
   rw[List.getElem?_map,List.getElem?_append_right (by omega),show j.toNat-A.length=0 by omega];rfl
  have l1:((A++t::Bl).map ZA.o).length=A.length+(Bl.length+1):=by simp
  have p1:∀t2:ZA,((A++t::Bl).map ZA.o).set j.toNat t2.o=(A++t2::Bl).map ZA.o:=fun t2=>by
   rw[List.map_append,List.map_append,List.set_append_right _ _ (by rw[lm];omega),lm,show j.toNat-A.length=0 by omega]
   rfl
  obtain⟨so1,hs1,k8,k9⟩:∃so1:List Int,so1.length=m∧(t.fOp=8→so1=List.replicate m (-1))∧(t.fOp≠8→so1=so):=by
   by_cases c:t.fOp=8
   ·exact⟨_,by simp,fun _=>rfl,fun h=>absurd c h⟩
   ·exact⟨so,hso,fun h=>absurd h c,fun _=>rfl⟩
  have e:=Ss (m:=m) k8 k9
  have st:=zZF u m hm hr so so1 t (bD so1 t) (aY (bD so1 t)) _ j _ (by omega) (by omega) (by omega) l1 p0 hs1 k8 k9 (G9 t so1 (by omega) (by rw[hs1];exact hft)) (Oi _) (F3 _) (fun r hr=>hft.s r (by rwa [zxt] at hr)) (zKo hft so1)
  have ih:=zQW u m hm hr Bl (j+1) (A++[(G8 m so t).2]) (G8 m so t).1 (by simp;omega) (by simp;omega) (Xu hso t) (fun t ht=>hf t (by simp[ht]))
  simp only[zqc,List.cons_append,zqf] at ih
  rw[B5,←ih,st,p1,e]
set_option maxRecDepth 8000
set_option maxHeartbeats 16000000
theorem U3{u:ZB}(hu:jR u=true){t:ZA}(ht:t∈u.fCode):ROk u.fRegs.toNat t:=by
 have hr:=hP hu
 have hh:=Cj hr ht
 have hg:=hr.regs
 have ha:sD t=true:=by
  simp only[jR,bE] at hu
  obtain⟨k,hk⟩:=List.mem_iff_getElem?.1 ht
  have:=Eg u u.fCode 0 hu.1.2 k t hk
  simp only[y7,Um,bE] at this
  exact this.1.1.1.1.1.1.1.1.1.2
 refine⟨fun r h=> ?_,fun r h=> ?_,fun h=> ?_,fun h=> ?_,?_⟩
 ·have:=hh r (List.mem_append_right _ h);omega
 ·have:=hh r (List.mem_append_left _ h);omega
 ·rw[sD,if_pos h] at ha
  simp only[bE,Bool.or_eq_true,zqd] at ha
  omega
 ·have n19:t.fOp≠19:=fun e=>h (x5 e (by decide))
  have n22:t.fOp≠22:=fun e=>h (x5 e (by decide))
  have n11:t.fOp≠11:=fun e=>h (x5 e (by decide))
  have n14:t.fOp≠14:=fun e=>h (x5 e (by decide))
  rw[sD,if_neg n19,if_neg n22,if_neg (by omega)] at ha
  simp only[zqd] at ha
  exact List.eq_nil_of_length_eq_zero (by omega)
 ·unfold sD at ha
  split at ha
  ·simp only[bE,Bool.or_eq_true,zqd] at ha;omega
  ·split at ha
   ·simp only[zqd] at ha;omega
   ·split at ha
    ·simp only[zqd] at ha;omega
    ·simp only[zqd] at ha;omega
def Gs(u:ZB):ZB:=if jR u=true then⟨u.fName,u.fParams,u.fRegs,B5 u.fRegs.toNat (List.replicate u.fRegs.toNat (-1)) u.fCode⟩ else u
theorem Iv(u:ZB)(hs:u.sm):call tab pV [u.x]=some (Gs u).xo:=by
 have g0:=eX u hs
 have g1:=jS u hs
 by_cases hu:jR u=true
 ·have hr:=hP hu
  rw[hu] at g1
  obtain⟨r0,r1⟩:=hr.regs
  have gn:=zq1 u.fRegs r0 (by omega)
  have g2:=zQW u u.fRegs.toNat (by omega) (by omega) u.fCode 0 [] (List.replicate u.fRegs.toNat (-1)) rfl (by have:=hr.len.2;simpa using this) (by simp) (fun t ht=>U3 hu ht)
  simp only[sfS,vpU,fE,zqf] at g2
  rw[Gs,if_pos hu]
  simp only[ZB.xo]
  generalize (B5 u.fRegs.toNat (List.replicate u.fRegs.toNat (-1)) u.fCode).map ZA.o=Z at *
  rw[aQ zJ _ rfl,rD]
  simp -implicitDefEqProofs (disch:=first|assumption|omega|(simp only[aE,aF,aD,i64,sa,aB,lm,la,lc,ln];omega)) only[go_sem,simprocAttr,g0,g1,gn,g2]
 ·rw[Bool.not_eq_true] at hu
  rw[hu] at g1
  rw[Gs,if_neg (by rw[hu];simp),aQ zJ _ rfl,rD]
  simp -implicitDefEqProofs (disch:=first|assumption|omega|(simp only[aE,aF,aD,i64,sa,aB,lm,la,lc,ln];omega)) only[go_sem,simprocAttr,g0,g1]
end Go.Ev.G
