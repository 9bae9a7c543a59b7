import Derived.Test.YtenclibcnjkamaaGreatEvPBet1
import Derived.Test.YtenclibcnjkamaaGreatEvPJoin4
import Derived.Test.YtenclibcnjkamaaGreatEvPHom1
set_option linter.all false
namespace Go.Ev.G
set_option maxRecDepth 8000
set_option maxHeartbeats 8000000
theorem z9a(K:BL):List.replicate (bR K).length [D.v (.bool false)]=bR (List.replicate K.length false):=by simp
theorem zXb(K:BL):(bR K).all uK=true:=by
 rw[List.all_eq_true]
 intro el hel
 obtain⟨b,_,rfl⟩:=List.mem_map.1 hel
 rfl
theorem z8j{op:Int}(h:¬(3≤op∧op≤7)):op≠3∧op≠4∧op≠5∧op≠6∧op≠7:=by omega
theorem zvi{W:List Int}{r k x:Int}(h0:0≤r)(h1:r<W.length)(hk:0≤k):gL (W.set r.toNat x) k=if k=r then x else gL W k:=by
 unfold gL
 rw[List.getElem?_set]
 by_cases e:k=r
 ·subst e
  have:k.toNat<W.length:=by omega
  simp[this]
 ·simp only[show ¬r.toNat=k.toNat by omega,if_false,e]
theorem Dv(t:ZA):(aY t).length≤2:=by
 unfold aY
 rw[la]
 have:∀(c:Prop) [Decidable c] (x:Int),(if c then [x] else []).length≤1:=fun c _ x=>by split<;>simp
 have h1:=this (hb t 1=true) t.fD
 have h2:=this (t.fOp=19) t.fB
 omega
theorem zxj(W:List Int)(S:List Int)(hS:S.length≤250):∀(Bl:List Int) (j:Int) (K:BL),S.drop j.toNat=Bl→0≤j→K.length≤250→(∀r∈Bl,0≤r∧r<K.length) →
  loopW tab [0,4,5] fZ {env:=upd (upd (upd emp 5 (some (I j))) 4 (some (.d (.r (aP S))))) 0 (some (.ptr (0,0) [] 0 0)),heap:=fdH K W,fr:=1,next:=0} =
  some (.ext 0,{env:=emp,heap:=fdH (bO false K Bl) W,fr:=1,next:=0})
 |[],j,K,hd,hj,hK,hr=>by
  have hh:=dR hd hj
  have hdr:=bI
  have l2:=bH S
  unfold loopW
  conv=>lhs;arg 1;unfold fZ
  simp -implicitDefEqProofs (disch:=first|assumption|omega) only[go_sem,simprocAttr,hh,hdr,l2,bO,List.foldl_nil]
 |r::Bl,j,K,hd,hj,hK,hr=>by
  have hc:=cE hd hj
  have hdr:=bI
  have h2:=j4 (fun n=>[DI n]) hc.1
  have h4:=hc.2.1
  obtain⟨r0,r1⟩:=hr r (by simp)
  have ih:=zxj W S hS Bl (j+1) (K.set r.toNat false) hc.2.2.1 (by omega) (by simpa using hK) (fun r h=>by rw[List.length_set];exact hr r (by simp[h]))
  have e1:=sK K r.toNat false
  have f1:=eR (K:=K) (r:=r) (by omega)
  have l1:=y8 K
  have l2:=bH S
  rw[bO,List.foldl_cons,←bO,←ih]
  clear ih
  simp only[fdH,←e1]
  generalize bR K=A at *
  conv=>lhs;unfold loopW;arg 1;unfold fZ
  simp -implicitDefEqProofs (disch:=first|assumption|omega|(simp only[aE,aF,aD,i64,sa,aB,lm,la,lc,ln];omega)) only[go_sem,simprocAttr,h2,h4,hdr,f1,l1,l2]
theorem y6(K:BL)(W:List Int)(hl:K.length=W.length)(hm:W.length≤250)(t:ZA)(ht:FOk W.length t):evCW tab qA [.ptr (0,0) [] 0 0,t.x] (fdH K W) 1=some (.tup [],fdH (bO false K (aY t)) W):=by
 have hdr:=bI
 have gs:=u6 t
 have g0:=zxj W (aY t) (by have:=Dv t;omega) (aY t) 0 K rfl (by omega) (by omega) (fun r hr=>by have:=ht.s r hr;omega)
 simp only[fdH] at g0 ⊢
 generalize bR (bO false K (aY t))=A2 at *
 generalize bR K=A at *
 rw[bW E6 _ _ _ rfl,tK]
 simp -implicitDefEqProofs (disch:=first|assumption|omega|(simp only[aE,aF,aD,i64,sa,aB,lm,la,lc,ln];omega)) only[go_sem,simprocAttr,hdr,gs,g0,dK]
theorem Nf{W:List Int}{d a:Int}(d0:0≤d)(d1:d<W.length)(a0:0≤a)(a1:a<W.length):(aP (W.set d.toNat (gL W a)))[a.toNat]? = some [DI (gL W a)]:=by
 have h:=(eQ (zs:=W.set d.toNat (gL W a)) a0 (by rw[List.length_set];exact a1)).1
 rw[zvi d0 d1 a0] at h
 rw[h]
 split
 ·rfl
 ·rfl
theorem M0(K:BL)(W:List Int)(hl:K.length=W.length)(hm:W.length≤250)(t:ZA)(ht:FOk W.length t):evCW tab lL [.ptr (0,0) [] 0 0,t.x] (fdH K W) 1=some (.tup [fx (eB K W t).2.1,B (eB K W t).2.2],fdH (eB K W t).1.1 (eB K W t).1.2):=by
 have hd:=bI
 have l1:=y8 K
 have l2:=bH W
 rw[bW Ag _ _ _ rfl,oI]
 unfold eB
 by_cases c8:t.fOp=8
 ·rw[if_pos c8]
  have e1:=z9a K
  have e2:=zXb K
  simp only[fdH,←e1,fx,ZA.x]
  generalize bR K=A at *
  simp -implicitDefEqProofs (disch:=first|assumption|omega|(simp only[aE,aF,aD,i64,sa,aB,lm,la,lc,ln];omega)) only[go_sem,simprocAttr,hd,c8,e2]
 rw[if_neg c8]
 by_cases c1:t.fOp=1
 ·rw[if_pos c1]
  obtain⟨d0,d1⟩:=ht.d (by omega)
  have g:=rG K W hl hm t.fD t.fN d0 (by omega)
  simp only[fdH,fx,ZA.x] at g ⊢
  simp -implicitDefEqProofs (disch:=first|assumption|omega|(simp only[aE,aF,aD,i64,sa,aB,lm,la,lc,ln];omega)) only[go_sem,simprocAttr,hd,c1,g]
 rw[if_neg c1]
 have gs:=vP t
 have gl:=fun cells=>zxf W t cells (aY t) (by have:=Dv t;omega) (aY t) 0 K rfl (by omega) (by omega) (fun r hr=>by have:=ht.s r hr;omega)
 have hsl:(aP (aY t)).length=(aY t).length:=bH _
 have hfz:=dK (aY t)
 simp only[fdH] at gl
 by_cases c2:t.fOp=2
 ·obtain⟨d0,d1⟩:=ht.d (by omega)
  obtain⟨a0,a1⟩:=ht.a (by omega)
  have f1:=eR (K:=K) (r:=t.fA) (by omega)
  have f2:=(eQ (zs:=W) a0 (by omega)).1
  cases k:rO K t.fA
  ·rw[if_neg (by simp),if_neg (by omega),if_neg (by omega)]
   rw[k] at f1
   simp only[fdH,fx,ZA.x]
   generalize bR (bO false K (aY t))=A2 at *
   generalize bR K=A at *
   generalize aP (aY t)=S at *
   simp only[ZA.x,zvL,c2] at gs gl
   simp -implicitDefEqProofs (disch:=first|assumption|omega|(simp only[aE,aF,aD,i64,sa,aB,lm,la,lc,ln];omega)) only[go_sem,simprocAttr,hd,c2,gs,gl,hsl,hfz,f1,l1]
  ·rw[if_pos ⟨c2,rfl⟩]
   rw[k] at f1
   have g:=rG K W hl hm t.fD (gL W t.fA) d0 (by omega)
   have f3:=Nf (W:=W) d0 (by omega) a0 (by omega)
   have l3:(aP (W.set t.fD.toNat (gL W t.fA))).length=W.length:=by simp[aP]
   simp only[fdH,fx,M2,ZA.xo] at g ⊢
   generalize aP (W.set t.fD.toNat (gL W t.fA))=Z2 at *
   generalize bR (K.set t.fD.toNat true)=A2 at *
   generalize bR K=A at *
   generalize aP W=Z at *
   simp -implicitDefEqProofs (disch:=first|assumption|omega|(simp only[aE,aF,aD,i64,sa,aB,lm,la,lc,ln];omega)) only[go_sem,simprocAttr,hd,c2,f1,f2,f3,l1,l2,l3,g]
 rw[if_neg (fun h=>c2 h.1)]
 by_cases c5:3≤t.fOp∧t.fOp≤7
 ·obtain⟨d0,d1⟩:=ht.d (by omega)
  obtain⟨a0,a1⟩:=ht.a (by omega)
  obtain⟨b0,b1⟩:=ht.b c5
  have f1:=eR (K:=K) (r:=t.fA) (by omega)
  have f2:=(eQ (zs:=W) a0 (by omega)).1
  have f3:=eR (K:=K) (r:=t.fB) (by omega)
  have f4:=(eQ (zs:=W) b0 (by omega)).1
  have gc:=Gr t.fOp (gL W t.fA) (gL W t.fB) c5
  have g:=rG K W hl hm t.fD (Bb t.fOp (gL W t.fA) (gL W t.fB)) d0 (by omega)
  cases k:rO K t.fA
  ·rw[if_neg (by simp),if_neg (by omega)]
   rw[k] at f1
   simp only[fdH,fx,ZA.x]
   generalize bR (bO false K (aY t))=A2 at *
   generalize bR K=A at *
   generalize aP (aY t)=S at *
   rcases Ms c5 with c|c|c|c|c<;>simp only[ZA.x,zvL,c] at gs gl<;>simp -implicitDefEqProofs (disch:=first|assumption|omega|(simp only[aE,aF,aD,i64,sa,aB,lm,la,lc,ln];omega)) only[go_sem,simprocAttr,hd,c,gs,gl,hsl,hfz,f1,l1]
  cases k2:rO K t.fB
  ·rw[if_neg (by simp),if_neg (by omega)]
   rw[k] at f1
   rw[k2] at f3
   simp only[fdH,fx,ZA.x]
   generalize bR (bO false K (aY t))=A2 at *
   generalize bR K=A at *
   generalize aP (aY t)=S at *
   rcases Ms c5 with c|c|c|c|c<;>simp only[ZA.x,zvL,c] at gs gl<;>simp -implicitDefEqProofs (disch:=first|assumption|omega|(simp only[aE,aF,aD,i64,sa,aB,lm,la,lc,ln];omega)) only[go_sem,simprocAttr,hd,c,gs,gl,hsl,hfz,f1,f3,l1]
  ·rw[if_pos ⟨c5,rfl⟩]
   rw[k] at f1
   rw[k2] at f3
   simp only[fdH,fx,M2,ZA.xo] at g ⊢
   generalize Bb t.fOp (gL W t.fA) (gL W t.fB)=n at *
   generalize aP (W.set t.fD.toNat n)=Z2 at *
   generalize bR (K.set t.fD.toNat true)=A2 at *
   generalize bR K=A at *
   generalize aP W=Z at *
   rcases Ms c5 with c|c|c|c|c<;>rw[c] at gc<;>simp -implicitDefEqProofs (disch:=first|assumption|omega|(simp only[aE,aF,aD,i64,sa,aB,lm,la,lc,ln];omega)) only[go_sem,simprocAttr,hd,c,f1,f2,f3,f4,l1,l2,g,gc]
 rw[if_neg (fun h=>c5 h.1)]
 obtain⟨n3,n4,n5,n6,n7⟩:=z8j c5
 by_cases c10:t.fOp=10
 ·obtain⟨a0,a1⟩:=ht.a (by omega)
  have f1:=eR (K:=K) (r:=t.fA) (by omega)
  have f2:=(eQ (zs:=W) a0 (by omega)).1
  cases k:rO K t.fA
  ·rw[if_neg (by simp)]
   rw[k] at f1
   simp only[fdH,fx,ZA.x]
   generalize bR (bO false K (aY t))=A2 at *
   generalize bR K=A at *
   generalize aP (aY t)=S at *
   simp only[ZA.x,zvL,c10] at gs gl
   simp -implicitDefEqProofs (disch:=first|assumption|omega|(simp only[aE,aF,aD,i64,sa,aB,lm,la,lc,ln];omega)) only[go_sem,simprocAttr,hd,c10,gs,gl,hsl,hfz,f1,l1]
  ·rw[if_pos ⟨c10,rfl⟩]
   rw[k] at f1
   simp only[fdH,fx,Yp,ZA.xo]
   generalize bR K=A at *
   generalize aP W=Z at *
   simp -implicitDefEqProofs (disch:=first|assumption|omega|(simp only[aE,aF,aD,i64,sa,aB,lm,la,lc,ln];omega)) only[go_sem,simprocAttr,hd,c10,f1,f2,l1,l2]
 rw[if_neg (fun h=>c10 h.1)]
 simp only[fdH,fx,ZA.x]
 generalize bR (bO false K (aY t))=A2 at *
 generalize bR K=A at *
 generalize aP (aY t)=S at *
 simp -implicitDefEqProofs (disch:=first|assumption|omega|(simp only[aE,aF,aD,i64,sa,aB,lm,la,lc,ln];omega)) only[go_sem,simprocAttr,hd,c8,c1,c2,n3,n4,n5,n6,n7,c10,gs,gl,hsl,hfz]
theorem Mj(K:BL)(W:List Int)(hl:K.length=W.length)(hm:W.length≤250)(t:ZA)(ht:FOk W.length t)(h8:t.fOp≠8):evCW tab mY [.ptr (0,0) [] 0 0,t.x] (fdH K W) 1=some (.tup [fx (eB K W t).2.1,B (eB K W t).2.2],fdH (eB K W t).1.1 (eB K W t).1.2):=by
 have hd:=bI
 have l1:=y8 K
 have l2:=bH W
 rw[bW wP _ _ _ rfl,nP]
 unfold eB
 have c8:=h8
 rw[if_neg c8]
 by_cases c1:t.fOp=1
 ·rw[if_pos c1]
  obtain⟨d0,d1⟩:=ht.d (by omega)
  have g:=mG K W hl hm t.fD t.fN d0 (by omega)
  simp only[fdH,fx,ZA.x] at g ⊢
  simp -implicitDefEqProofs (disch:=first|assumption|omega|(simp only[aE,aF,aD,i64,sa,aB,lm,la,lc,ln];omega)) only[go_sem,simprocAttr,hd,c1,g]
 rw[if_neg c1]
 have gs:=y6 K W hl hm t ht
 simp only[fdH] at gs
 by_cases c2:t.fOp=2
 ·obtain⟨d0,d1⟩:=ht.d (by omega)
  obtain⟨a0,a1⟩:=ht.a (by omega)
  have f1:=eR (K:=K) (r:=t.fA) (by omega)
  have f2:=(eQ (zs:=W) a0 (by omega)).1
  cases k:rO K t.fA
  ·rw[if_neg (by simp),if_neg (by omega),if_neg (by omega)]
   rw[k] at f1
   simp only[fdH,fx,ZA.x]
   generalize bR (bO false K (aY t))=A2 at *
   generalize bR K=A at *
   simp only[ZA.x,c2] at gs
   simp -implicitDefEqProofs (disch:=first|assumption|omega|(simp only[aE,aF,aD,i64,sa,aB,lm,la,lc,ln];omega)) only[go_sem,simprocAttr,hd,c2,gs,f1,l1]
  ·rw[if_pos ⟨c2,rfl⟩]
   rw[k] at f1
   have g:=mG K W hl hm t.fD (gL W t.fA) d0 (by omega)
   have f3:=Nf (W:=W) d0 (by omega) a0 (by omega)
   have l3:(aP (W.set t.fD.toNat (gL W t.fA))).length=W.length:=by simp[aP]
   simp only[fdH,fx,M2,ZA.xo] at g ⊢
   generalize aP (W.set t.fD.toNat (gL W t.fA))=Z2 at *
   generalize bR (K.set t.fD.toNat true)=A2 at *
   generalize bR K=A at *
   generalize aP W=Z at *
   simp -implicitDefEqProofs (disch:=first|assumption|omega|(simp only[aE,aF,aD,i64,sa,aB,lm,la,lc,ln];omega)) only[go_sem,simprocAttr,hd,c2,f1,f2,f3,l1,l2,l3,g]
 rw[if_neg (fun h=>c2 h.1)]
 by_cases c5:3≤t.fOp∧t.fOp≤7
 ·obtain⟨d0,d1⟩:=ht.d (by omega)
  obtain⟨a0,a1⟩:=ht.a (by omega)
  obtain⟨b0,b1⟩:=ht.b c5
  have f1:=eR (K:=K) (r:=t.fA) (by omega)
  have f2:=(eQ (zs:=W) a0 (by omega)).1
  have f3:=eR (K:=K) (r:=t.fB) (by omega)
  have f4:=(eQ (zs:=W) b0 (by omega)).1
  have gc:=Jm t.fOp (gL W t.fA) (gL W t.fB) c5
  have g:=mG K W hl hm t.fD (Bb t.fOp (gL W t.fA) (gL W t.fB)) d0 (by omega)
  cases k:rO K t.fA
  ·rw[if_neg (by simp),if_neg (by omega)]
   rw[k] at f1
   simp only[fdH,fx,ZA.x]
   generalize bR (bO false K (aY t))=A2 at *
   generalize bR K=A at *
   rcases Ms c5 with c|c|c|c|c<;>simp only[ZA.x,c] at gs<;>simp -implicitDefEqProofs (disch:=first|assumption|omega|(simp only[aE,aF,aD,i64,sa,aB,lm,la,lc,ln];omega)) only[go_sem,simprocAttr,hd,c,gs,f1,l1]
  cases k2:rO K t.fB
  ·rw[if_neg (by simp),if_neg (by omega)]
   rw[k] at f1
   rw[k2] at f3
   simp only[fdH,fx,ZA.x]
   generalize bR (bO false K (aY t))=A2 at *
   generalize bR K=A at *
   rcases Ms c5 with c|c|c|c|c<;>simp only[ZA.x,c] at gs<;>simp -implicitDefEqProofs (disch:=first|assumption|omega|(simp only[aE,aF,aD,i64,sa,aB,lm,la,lc,ln];omega)) only[go_sem,simprocAttr,hd,c,gs,f1,f3,l1]
  ·rw[if_pos ⟨c5,rfl⟩]
   rw[k] at f1
   rw[k2] at f3
   simp only[fdH,fx,M2,ZA.xo] at g ⊢
   generalize Bb t.fOp (gL W t.fA) (gL W t.fB)=n at *
   generalize aP (W.set t.fD.toNat n)=Z2 at *
   generalize bR (K.set t.fD.toNat true)=A2 at *
   generalize bR K=A at *
   generalize aP W=Z at *
   rcases Ms c5 with c|c|c|c|c<;>rw[c] at gc<;>simp -implicitDefEqProofs (disch:=first|assumption|omega|(simp only[aE,aF,aD,i64,sa,aB,lm,la,lc,ln];omega)) only[go_sem,simprocAttr,hd,c,f1,f2,f3,f4,l1,l2,g,gc]
 rw[if_neg (fun h=>c5 h.1)]
 obtain⟨n3,n4,n5,n6,n7⟩:=z8j c5
 by_cases c10:t.fOp=10
 ·obtain⟨a0,a1⟩:=ht.a (by omega)
  have f1:=eR (K:=K) (r:=t.fA) (by omega)
  have f2:=(eQ (zs:=W) a0 (by omega)).1
  cases k:rO K t.fA
  ·rw[if_neg (by simp)]
   rw[k] at f1
   simp only[fdH,fx,ZA.x]
   generalize bR (bO false K (aY t))=A2 at *
   generalize bR K=A at *
   simp only[ZA.x,c10] at gs
   simp -implicitDefEqProofs (disch:=first|assumption|omega|(simp only[aE,aF,aD,i64,sa,aB,lm,la,lc,ln];omega)) only[go_sem,simprocAttr,hd,c10,gs,f1,l1]
  ·rw[if_pos ⟨c10,rfl⟩]
   rw[k] at f1
   simp only[fdH,fx,Yp,ZA.xo]
   generalize bR K=A at *
   generalize aP W=Z at *
   simp -implicitDefEqProofs (disch:=first|assumption|omega|(simp only[aE,aF,aD,i64,sa,aB,lm,la,lc,ln];omega)) only[go_sem,simprocAttr,hd,c10,f1,f2,l1,l2]
 rw[if_neg (fun h=>c10 h.1)]
 simp only[fdH,fx,ZA.x]
 generalize bR (bO false K (aY t))=A2 at *
 generalize bR K=A at *
 simp -implicitDefEqProofs (disch:=first|assumption|omega|(simp only[aE,aF,aD,i64,sa,aB,lm,la,lc,ln];omega)) only[go_sem,simprocAttr,hd,c8,c1,c2,n3,n4,n5,n6,n7,c10,gs]
set_option maxRecDepth 8000
set_option maxHeartbeats 16000000
def jU(K:BL)(W:List Int):List ZA→List (ZA×Bool)
 |[]=>[]
 |t::ts=>(if (eB K W t).2.2=true then [(eB K W t).2.1] else [])++jU (eB K W t).1.1 (eB K W t).1.2 ts
def tB(u:ZB):ZB:=if lG u=true then⟨u.fName,u.fParams,u.fRegs,(jU (List.replicate u.fRegs.toNat false) (List.replicate u.fRegs.toNat 0) u.fCode).map fun p=>p.1⟩ else u
theorem Nu(K:BL)(W:List Int)(t:ZA):(eB K W t).1.1.length=K.length∧(eB K W t).1.2.length=W.length:=by
 unfold eB
 repeat' split
 all_goals simp[kR]
theorem Oa:∀(ts:List ZA) (K:BL) (W:List Int),(jU K W ts).length≤ts.length
 |[],K,W=>by simp[jU]
 |t::ts,K,W=>by
  have:=Oa ts (eB K W t).1.1 (eB K W t).1.2
  rw[jU,la,lc]
  have h:(if (eB K W t).2.2=true then [(eB K W t).2.1] else []).length≤1:=by split<;>simp
  omega
theorem wR{t:ZA}{op m:Int}(h:t.fOp=op)(hh:zVO (Cd op) m=true):hb t m=true:=by unfold hb;rw[h];exact hh
theorem zXU{t:ZA}(h:hb t 2=true):t.fA∈aY t++dB t:=by simp[dB,h]
theorem zX5{t:ZA}(h:hb t 4=true)(h2:t.fOp≠19):t.fB∈aY t++dB t:=by simp[dB,h,h2]
theorem zwb{t:ZA}(h:hb t 1=true):t.fD∈aY t++dB t:=by simp[aY,h]
theorem zQ{u:ZB}(hr:Right u){t:ZA}(ht:t∈u.fCode):∀r∈aY t++dB t,0≤r∧r<u.fRegs:=by
 obtain⟨k,hk⟩:=List.mem_iff_getElem?.1 ht
 exact hr.rs k t hk
theorem Rs{u:ZB}(hr:Right u){t:ZA}(ht:t∈u.fCode):FOk u.fRegs.toNat t:=by
 have hh:=zQ hr ht
 have hg:=hr.regs
 refine⟨fun h=> ?_,fun h=> ?_,fun h=> ?_,fun r h=> ?_⟩
 ·have h2:hb t 2=true:=by
   rcases h with h|h|h
   ·exact wR h (by decide)
   ·rcases Ms h with h|h|h|h|h<;>exact wR h (by decide)
   ·exact wR h (by decide)
  have:=hh _ (zXU h2)
  omega
 ·have h2:hb t 4=true:=by rcases Ms h with h|h|h|h|h<;>exact wR h (by decide)
  have:=hh _ (zX5 h2 (by omega))
  omega
 ·have h2:hb t 1=true:=by
   have:t.fOp=1∨t.fOp=2∨t.fOp=3∨t.fOp=4∨t.fOp=5∨t.fOp=6∨t.fOp=7:=by omega
   rcases this with h|h|h|h|h|h|h<;>exact wR h (by decide)
  have:=hh _ (zwb h2)
  omega
 ·have:=hh r (List.mem_append_left _ h)
  omega
abbrev pL:D:= .s 4 [[DS ⟨#[]⟩,DI 0,DI 0,.s 7 []]]
abbrev eO(u:ZB)(c:D):D:= .s 4 [[DS u.fName,DI u.fParams,DI u.fRegs,c]]
abbrev knS(K:BL)(W:List Int):D:= .s 2 [[.s 1 (bR K),.s 1 (aP W)]]
abbrev flH(u:ZB)(V:List (List D))(K:BL)(W:List Int):Heap:=upd (upd (upd (upd emp (0,3) (some (.s 7 V))) (0,2) (some (knS K W))) (0,1) (some (eO u (.r (u.fCode.map ZA.r))))) (0,0) (some pL)
theorem Jw(u:ZB)(hl:u.fCode.length≤900)(m:Nat)(hm:m≤250):∀(Bl:List ZA) (j:Int) (K:BL) (W:List Int) (V:List (List D)),u.fCode.drop j.toNat=Bl→0≤j→K.length=m→W.length=m→(V.length:Int)≤j→(∀t∈Bl,FOk m t) →
  loopW tab [2,3,4,5,26,27,28] j5 {env:=upd (upd (upd (upd (upd (upd (upd emp 28 (some (I j))) 27 (some (I (u.fCode.length:Int)))) 26 (some (.d (.r (u.fCode.map ZA.r))))) 5 (some (.ref (0,3) []))) 4 (some (.ptr (0,2) [] 0 0))) 3 (some (.ptr (0,1) [] 0 0))) 2 (some (.ptr (0,0) [] 0 0)),heap:=flH u V K W,fr:=0,next:=4} =
  some (.ext 0,{env:=upd (upd (upd emp 5 (some (.ref (0,2) []))) 3 (some (.ptr (0,1) [] 0 0))) 2 (some (.ptr (0,0) [] 0 0)),heap:=upd (upd (upd emp (0,2) (some (.s 7 (V++(jU K W Bl).map p4)))) (0,1) (some (eO u (.r (u.fCode.map ZA.r))))) (0,0) (some pL),fr:=0,next:=3})
 |[],j,K,W,V,hd,hj,hK,hW,hV,hf=>by
  have hh:=dR hd hj
  rw[jU,mn,zqe]
  generalize bR K=A at *
  unfold loopW
  conv=>lhs;arg 1;unfold j5
  simp -implicitDefEqProofs (disch:=first|assumption|omega) only[go_sem,simprocAttr,hh]
 |t::Bl,j,K,W,V,hd,hj,hK,hW,hV,hf=>by
  have hc:=cE hd hj
  have h2:=j4 ZA.r hc.1
  have h4:=hc.2.1
  simp only[ZA.r] at h2
  have g:=M0 K W (by omega) (by omega) t (by rw[hW];exact hf t (by simp))
  obtain⟨k1,k2⟩:=Nu K W t
  rw[jU]
  generalize eB K W t=R at *
  obtain⟨⟨K2,W2⟩,⟨t2,o⟩,ok⟩:=R
  simp only at g k1 k2 ⊢
  cases ok
  ·have ih:=Jw u hl m hm Bl (j+1) K2 W2 V hc.2.2.1 (by omega) (by omega) (by omega) (by omega) (fun t h=>hf t (by simp[h]))
   rw[if_neg (by simp),zqf,←ih]
   clear ih
   simp only[fdH,flH,knS,ZA.x] at g ⊢
   generalize bR K2=A2 at *
   generalize bR K=A at *
   generalize aP W2=Z2 at *
   generalize aP W=Z at *
   conv=>lhs;unfold loopW;arg 1;unfold j5
   cases o<;>simp only[fx,if_true,Bool.false_eq_true,if_false] at g<;>simp -implicitDefEqProofs (disch:=first|assumption|omega|(simp only[aE,aF,aD,i64,sa,aB,lm,la,lc,ln];omega)) only[go_sem,simprocAttr,h2,h4,g]
  ·have ih:=Jw u hl m hm Bl (j+1) K2 W2 (V++[p4 (t2,o)]) hc.2.2.1 (by omega) (by omega) (by omega) (by simp;omega) (fun t h=>hf t (by simp[h]))
   rw[if_pos rfl,List.map_append,mc,mn,←List.append_assoc,←ih]
   clear ih
   simp only[fdH,flH,knS,ZA.x] at g ⊢
   generalize bR K2=A2 at *
   generalize bR K=A at *
   generalize aP W2=Z2 at *
   generalize aP W=Z at *
   conv=>lhs;unfold loopW;arg 1;unfold j5
   cases o<;>simp only[fx,p4,if_true,Bool.false_eq_true,if_false,ZA.o,ZA.r] at g ⊢ <;> simp -implicitDefEqProofs (disch:=first|assumption|omega|(simp only[aE,aF,aD,i64,sa,aB,lm,la,lc,ln];omega)) only[go_sem,simprocAttr,h2,h4,g]
theorem Is:∀(L:List (ZA×Bool)),fzs (L.map p4)=(L.map fun p=>p.1).map ZA.r
 |[]=>rfl
 |(t,o)::L=>by
  rw[mc,mc,mc,Ev.fzs,Is L]
  cases o
  ·simp only[p4,Bool.false_eq_true,if_false,ZA.fzlr]
  ·simp only[p4,if_true,ZA.fzl]
abbrev zWK(o:Option X)(u:ZB):Prop:=∃r,o=some r∧r.frz=u.x
theorem Qk(u:ZB)(hs:u.sm):zWK (call tab Ab [u.x]) (tB u):=by
 have g0:=fI u hs
 have g1:=lZ u hs
 have e0:=ZA.fzs u.fCode
 by_cases hu:lG u=true
 ·have hr:=gB hu
  rw[hu] at g1
  obtain⟨r0,r1⟩:=hr.regs
  have g2:=Jw u hr.len.2 u.fRegs.toNat (by omega) u.fCode 0 (List.replicate u.fRegs.toNat false) (List.replicate u.fRegs.toNat 0) [] rfl (by omega) (by simp) (by simp) (by simp) (fun t ht=>Rs hr ht)
  refine⟨.agg [Str u.fName,I u.fParams,I u.fRegs,.d (.s 7 ((jU (List.replicate u.fRegs.toNat false) (List.replicate u.fRegs.toNat 0) u.fCode).map p4))],?_,?_⟩
  ·have e1:bR (List.replicate u.fRegs.toNat false)=List.replicate u.fRegs.toNat [DB false]:=by simp
   have e2:aP (List.replicate u.fRegs.toNat 0)=List.replicate u.fRegs.toNat [DI 0]:=by simp[aP]
   simp only[flH,knS,e1,e2,zqf] at g2
   generalize (jU (List.replicate u.fRegs.toNat false) (List.replicate u.fRegs.toNat 0) u.fCode).map p4=V at *
   rw[aQ Fg _ rfl,x5]
   simp -implicitDefEqProofs (disch:=first|assumption|omega|(simp only[aE,aF,aD,i64,sa,aB,lm,la,lc,ln];omega)) only[go_sem,simprocAttr,g0,g1,e0,g2]
  ·rw[tB,if_pos hu]
   simp only[X.frz,X.frzV,xT,X.frzC,Is]
 ·rw[Bool.not_eq_true] at hu
  rw[hu] at g1
  refine⟨u.x,?_,?_⟩
  ·rw[aQ Fg _ rfl,x5]
   simp -implicitDefEqProofs (disch:=first|assumption|omega|(simp only[aE,aF,aD,i64,sa,aB,lm,la,lc,ln];omega)) only[go_sem,simprocAttr,g0,g1,e0]
  ·rw[tB,if_neg (by rw[hu];simp)]
   rfl
set_option maxRecDepth 8000
set_option maxHeartbeats 16000000
theorem Vq(K:BL)(W:List Int)(hl:K.length=W.length)(hm:W.length≤250)(t:ZA)(ht:FOk W.length t)(h8:t.fOp=8):evCW tab mY [.ptr (0,0) [] 0 0,t.x] (fdH K W) 1=some (.tup [t.x,B true],fdH K W):=by
 have hd:=bI
 have gs:=y6 K W hl hm t ht
 have e:aY t=[]:=by
  have h1:hb t 1=false:=by unfold hb;rw[h8];decide
  simp[aY,h1,h8]
 rw[e,show bO false K []=K from rfl] at gs
 rw[bW wP _ _ _ rfl,nP]
 simp only[fdH,ZA.x,h8] at gs ⊢
 generalize bR K=A at *
 simp -implicitDefEqProofs (disch:=first|assumption|omega|(simp only[aE,aF,aD,i64,sa,aB,lm,la,lc,ln];omega)) only[go_sem,simprocAttr,hd,h8,gs]
abbrev slH(u:ZB)(V:List (List D))(K:BL)(W:List Int):Heap:=upd (upd (upd emp (0,2) (some (knS K W))) (0,1) (some (eO u (.s 7 V)))) (0,0) (some pL)
theorem C3(u:ZB)(hs:u.sm)(hl:u.fCode.length≤900)(m:Nat)(hm:m≤250)(hr:u.fRegs=m):∀(Bl:List ZA) (j:Int) (K:BL) (W:List Int) (V:List (List D)),u.fCode.drop j.toNat=Bl→0≤j→K.length=m→W.length=m→(V.length:Int)≤j→(∀t∈Bl,FOk m t) →
  loopW tab [1,2,3,4,5] gU {env:=upd (upd (upd (upd (upd emp 5 (some (I j))) 4 (some (.ptr (0,2) [] 0 0))) 3 (some (.ptr (0,1) [] 0 0))) 2 (some (.ptr (0,0) [] 0 0))) 1 (some (vpU u)),heap:=slH u V K W,fr:=0,next:=3} =
  some (.ext 0,{env:=upd (upd emp 3 (some (.ptr (0,1) [] 0 0))) 2 (some (.ptr (0,0) [] 0 0)),heap:=upd (upd emp (0,1) (some (eO u (.s 7 (V++(jU K W Bl).map p4))))) (0,0) (some pL),fr:=0,next:=2})
 |[],j,K,W,V,hd,hj,hK,hW,hV,hf=>by
  have hh:=dR hd hj
  rw[jU,mn,zqe]
  simp only[slH,knS]
  generalize bR K=A at *
  unfold loopW
  conv=>lhs;arg 1;unfold gU
  simp -implicitDefEqProofs (disch:=first|assumption|omega) only[go_sem,simprocAttr,hh]
 |t::Bl,j,K,W,V,hd,hj,hK,hW,hV,hf=>by
  have hc:=cE hd hj
  have h2:=j4 ZA.r hc.1
  have h4:=hc.2.1
  simp only[ZA.r] at h2
  have gt:=yK t (hs.2.2 t hc.2.2.2.1)
  have hft:=hf t (by simp)
  have efz:=dK t.fArgs
  rw[jU]
  by_cases h8:t.fOp=8
  ·have hK2:(List.replicate m false).length=m:=by simp
   have g:=Vq (List.replicate m false) W (by omega) (by omega) t (by rw[hW];exact hft) h8
   have ef:eB K W t=((List.replicate m false,W),(t,false),true):=by unfold eB;rw[if_pos h8,hK]
   rw[ef]
   have ih:=C3 u hs hl m hm hr Bl (j+1) (List.replicate m false) W (V++[p4 (t,false)]) hc.2.2.1 (by omega) hK2 (by omega) (by simp;omega) (fun t h=>hf t (by simp[h]))
   rw[if_pos rfl,List.map_append,mc,mn,←List.append_assoc,←ih]
   clear ih
   have e1:bR (List.replicate m false)=List.replicate m [DB false]:=by simp
   have hmk:aF 1 (m:Int):=⟨by omega,by omega⟩
   have emt:((m:Int)).toNat=m:=by omega
   simp only[fdH,slH,knS,eO,vpU,ZA.x,ZA.xo,h8,e1,hr] at g gt ⊢
   generalize bR K=A at *
   generalize aP W=Z at *
   conv=>lhs;unfold loopW;arg 1;unfold gU
   simp only[p4,Bool.false_eq_true,if_false,ZA.r,h8] at h2 ⊢
   simp -implicitDefEqProofs (disch:=first|assumption|omega|(simp only[aE,aF,aD,i64,sa,aB,lm,la,lc,ln];omega)) only[go_sem,simprocAttr,h2,h4,h8,g,gt,efz,hmk,emt,hr]
  ·have g:=Mj K W (by omega) (by omega) t (by rw[hW];exact hft) h8
   obtain⟨k1,k2⟩:=Nu K W t
   generalize eB K W t=R at *
   obtain⟨⟨K2,W2⟩,⟨t2,o⟩,ok⟩:=R
   simp only at g k1 k2 ⊢
   cases ok
   ·have ih:=C3 u hs hl m hm hr Bl (j+1) K2 W2 V hc.2.2.1 (by omega) (by omega) (by omega) (by omega) (fun t h=>hf t (by simp[h]))
    rw[if_neg (by simp),zqf,←ih]
    clear ih
    simp only[fdH,slH,knS,eO,ZA.x,ZA.xo] at g gt ⊢
    generalize bR K2=A2 at *
    generalize bR K=A at *
    generalize aP W2=Z2 at *
    generalize aP W=Z at *
    conv=>lhs;unfold loopW;arg 1;unfold gU
    cases o<;>simp only[fx,if_true,Bool.false_eq_true,if_false,ZA.x,ZA.xo] at g<;>simp -implicitDefEqProofs (disch:=first|assumption|omega|(simp only[aE,aF,aD,i64,sa,aB,lm,la,lc,ln];omega)) only[go_sem,simprocAttr,h2,h4,h8,g,gt,efz]
   ·have ih:=C3 u hs hl m hm hr Bl (j+1) K2 W2 (V++[p4 (t2,o)]) hc.2.2.1 (by omega) (by omega) (by omega) (by simp;omega) (fun t h=>hf t (by simp[h]))
    rw[if_pos rfl,List.map_append,mc,mn,←List.append_assoc,←ih]
    clear ih
    simp only[fdH,slH,knS,eO,ZA.x,ZA.xo] at g gt ⊢
    generalize bR K2=A2 at *
    generalize bR K=A at *
    generalize aP W2=Z2 at *
    generalize aP W=Z at *
    conv=>lhs;unfold loopW;arg 1;unfold gU
    cases o<;>simp only[fx,p4,if_true,Bool.false_eq_true,if_false,ZA.o,ZA.r,ZA.x,ZA.xo] at g ⊢ <;> simp -implicitDefEqProofs (disch:=first|assumption|omega|(simp only[aE,aF,aD,i64,sa,aB,lm,la,lc,ln];omega)) only[go_sem,simprocAttr,h2,h4,h8,g,gt,efz]
theorem Q7(u:ZB)(hs:u.sm):zWK (call tab zU [u.x]) (tB u):=by
 have g0:=gR u hs
 have g1:=l8 u hs
 by_cases hu:lG u=true
 ·have hr:=gB hu
  rw[hu] at g1
  obtain⟨r0,r1⟩:=hr.regs
  have g2:=C3 u hs hr.len.2 u.fRegs.toNat (by omega) (by omega) u.fCode 0 (List.replicate u.fRegs.toNat false) (List.replicate u.fRegs.toNat 0) [] rfl (by omega) (by simp) (by simp) (by simp) (fun t ht=>Rs hr ht)
  refine⟨.agg [Str u.fName,I u.fParams,I u.fRegs,.d (.s 7 ((jU (List.replicate u.fRegs.toNat false) (List.replicate u.fRegs.toNat 0) u.fCode).map p4))],?_,?_⟩
  ·have e1:bR (List.replicate u.fRegs.toNat false)=List.replicate u.fRegs.toNat [DB false]:=by simp
   have e2:aP (List.replicate u.fRegs.toNat 0)=List.replicate u.fRegs.toNat [DI 0]:=by simp[aP]
   simp only[slH,knS,eO,e1,e2,zqf] at g2
   generalize (jU (List.replicate u.fRegs.toNat false) (List.replicate u.fRegs.toNat 0) u.fCode).map p4=V at *
   rw[aQ Fp _ rfl,xW]
   simp -implicitDefEqProofs (disch:=first|assumption|omega|(simp only[aE,aF,aD,i64,sa,aB,lm,la,lc,ln];omega)) only[go_sem,simprocAttr,g1,g2]
  ·rw[tB,if_pos hu]
   simp only[X.frz,X.frzV,xT,X.frzC,Is]
 ·rw[Bool.not_eq_true] at hu
  rw[hu] at g1
  refine⟨u.xo,?_,?_⟩
  ·rw[aQ Fp _ rfl,xW]
   simp -implicitDefEqProofs (disch:=first|assumption|omega|(simp only[aE,aF,aD,i64,sa,aB,lm,la,lc,ln];omega)) only[go_sem,simprocAttr,g0,g1]
  ·rw[tB,if_neg (by rw[hu];simp)]
   simp only[ZB.xo,ZB.x,X.frz,X.frzV,xT,X.frzC,ZA.fzs]
set_option maxRecDepth 8000
set_option maxHeartbeats 16000000
def ofZ(so:List Int)(r:Int):Int:=if 0≤gL so r then gL so r else r
def dD(so:List Int):List Int:=(List.range so.length).map fun (r:Nat)=>ofZ so (r:Int)
theorem gP(so:List Int):(dD so).length=so.length:=by simp[dD]
theorem o9(so:List Int){r:Int}(h0:0≤r)(h1:r<so.length):(aP (dD so))[r.toNat]? = some [DI (ofZ so r)]:=by
 have h:r.toNat<so.length:=by omega
 rw[aP,List.getElem?_map,dD,List.getElem?_map,List.getElem?_range h]
 simp[show((r.toNat:Nat):Int)=r by omega]
def rdA(x:ZA)(so:List Int):Nat→List Int→List Int
 |_,[]=>[]
 |q,y::ys=>(if (!decide (x.fOp=19)||Cz x.fArgs q)=true then ofZ so y else y)::rdA x so (q+1) ys
def bB(so:List Int)(x:ZA):ZA:=⟨x.fOp,x.fD,if hb x 2=true then ofZ so x.fA else x.fA,if (hb x 4&& !decide (x.fOp=19))=true then ofZ so x.fB else x.fB,x.fN,x.fS,if hb x 32=true then rdA x so 0 x.fArgs else x.fArgs⟩
theorem Rc(x:ZA)(so:List Int):∀(ls:List Int) (q:Nat),(rdA x so q ls).length=ls.length
 |[],q=>rfl
 |y::ls,q=>by rw[rdA,lc,Rc x so ls,lc]
theorem jR(so:List Int)(r:Int)(hm:so.length≤250)(h0:0≤r)(h1:r<so.length):call tab pX [.d (.r (aP so)),I r]=some (I (ofZ so r)):=by
 have f:=(eQ (zs:=so) h0 h1).1
 have l:=bH so
 rw[aQ Ow _ rfl,Dl,ofZ]
 by_cases h:0≤gL so r
 ·rw[if_pos h]
  simp -implicitDefEqProofs (disch:=first|assumption|omega|(simp only[aE,aF,aD,i64,sa,aB,lm,la,lc,ln];omega)) only[go_sem,simprocAttr,f,l,h]
 ·rw[if_neg h]
  simp -implicitDefEqProofs (disch:=first|assumption|omega|(simp only[aE,aF,aD,i64,sa,aB,lm,la,lc,ln];omega)) only[go_sem,simprocAttr,f,l,h]
abbrev q8:D:= .s 7 [[DI 0,DI 0,DI 0,DI 0,DI 0,DS ⟨#[]⟩,.s 1 []]]
abbrev rdH(x:ZA)(a b:Int)(Z:List Int):Heap:=upd (upd (upd emp (0,0) none) (1,1) (some q8)) (1,0) (some (.s 7 [[DI x.fOp,DI x.fD,DI a,DI b,DI x.fN,DS x.fS,.s 1 (aP Z)]]))
theorem zQq(x:ZA)(so:List Int)(hm:so.length≤250)(h32:hb x 32=true)(hx:x.fArgs.length≤1048576)(a b:Int):∀(Bl:List Int) (j:Nat) (A:List Int),x.fArgs.drop j=Bl→A.length=j→(x.fOp=19→∀i,i<j→i % 3=0→A[i]? = x.fArgs[i]?)→(∀y∈iG x j Bl,0≤y∧y<so.length) →
  loopW tab [1,2,4,5,6] a8 {env:=upd (upd (upd (upd (upd emp 6 (some (I (j:Int)))) 5 (some (I (Cd x.fOp)))) 4 (some (.ptr (1,1) [] 0 0))) 2 (some (.ptr (1,0) [] 0 0))) 1 (some (.d (.r (aP so)))),heap:=rdH x a b (A++Bl),fr:=1,next:=2} =
  some (.ext 0,{env:=upd (upd emp 4 (some (.ptr (1,1) [] 0 0))) 2 (some (.ptr (1,0) [] 0 0)),heap:=rdH x a b (A++rdA x so j Bl),fr:=1,next:=2})
 |[],j,A,hd,hA,h3,hr=>by
  have hdr:=bI
  have e:=xY x 32
  have l:=bH A
  simp only[rdA,zqe]
  unfold loopW
  conv=>lhs;arg 1;unfold a8
  simp -implicitDefEqProofs (disch:=first|assumption|omega|(simp only[aE,aF,aD,i64,sa,aB,lm,la,lc,ln];omega)) only[go_sem,simprocAttr,hdr,l,hA,e,h32]
 |y::Bl,j,A,hd,hA,h3,hr=>by
  have hdr:=bI
  have e:=xY x 32
  have hlen:x.fArgs.length=j+(Bl.length+1):=by
   have:=congrArg List.length hd
   rw[List.length_drop,lc] at this
   omega
  have hy:x.fArgs[j]? = some y:=by
   have:=congrArg (fun l=>l[0]?) hd
   simpa using this
  have hd2:x.fArgs.drop (j+1)=Bl:=by
   have:=congrArg (List.drop 1) hd
   rw[List.drop_drop] at this
   simpa[Nat.add_comm] using this
  have m1:((j:Int)).tmod 3=((j % 3:Nat):Int):=by have:=z6 (n:=(j:Int)) (by omega) 3;simpa using this
  have f1:(aP (A++y::Bl))[j]? = some [DI y]:=by
   rw[aP,List.getElem?_map,List.getElem?_append_right (by omega),hA,Nat.sub_self];rfl
  have l1:(aP (A++y::Bl)).length=j+(Bl.length+1):=by rw[bH,la,hA,lc]
  have step:∀y2:Int,(x.fOp=19→j % 3=0→y2=y)→(∀z∈iG x (j+1) Bl,0≤z∧z<so.length)→loopW tab [1,2,4,5,6] a8 {env:=upd (upd (upd (upd (upd emp 6 (some (I ((j:Int)+1)))) 5 (some (I (Cd x.fOp)))) 4 (some (.ptr (1,1) [] 0 0))) 2 (some (.ptr (1,0) [] 0 0))) 1 (some (.d (.r (aP so)))),heap:=rdH x a b (A++y2::Bl),fr:=1,next:=2} =
   some (.ext 0,{env:=upd (upd emp 4 (some (.ptr (1,1) [] 0 0))) 2 (some (.ptr (1,0) [] 0 0)),heap:=rdH x a b (A++(y2::rdA x so (j+1) Bl)),fr:=1,next:=2}):=fun y2 hy2 hr2=>by
   have:=zQq x so hm h32 hx a b Bl (j+1) (A++[y2]) hd2 (by simp[hA]) (fun h19 i hi hi3=>by
    by_cases hij:i<j
    ·rw[List.getElem?_append_left (by omega)]
     exact h3 h19 i hij hi3
    ·have:i=j:=by omega
     subst this
     rw[List.getElem?_append_right (by omega),hA,Nat.sub_self,hy,hy2 h19 hi3];rfl) hr2
   rw[zqc,zqc,show(((j+1:Nat)):Int)=(j:Int)+1 by omega] at this
   exact this
  have eset:∀y2:Int,(aP (A++y::Bl)).set j [DI y2]=aP (A++y2::Bl):=fun y2=>by
   rw[nG]
   congr 1
   rw[List.set_append_right _ _ (by omega),hA,Nat.sub_self];rfl
  rw[iG] at hr
  rw[rdA]
  by_cases c19:x.fOp=19
  ·have k0:decide (x.fOp=19)=true:=decide_eq_true c19
   simp only[c19] at e
   simp only[k0,Bool.not_true,Bool.false_or] at hr ⊢
   rcases (by omega:j % 3=0∨j % 3=1∨j % 3=2) with c1|c1|c1
   ·have hs:Cz x.fArgs j=false:=by simp[Cz,c1]
    rw[hs] at hr ⊢
    rw[if_neg (by simp),←step y (fun _ _=>rfl) (fun z hz=>hr z (by simpa using hz))]
    clear step eset
    simp only[rdH]
    generalize aP (A++y::Bl)=Z at *
    conv=>lhs;unfold loopW;arg 1;unfold a8
    simp -implicitDefEqProofs (disch:=first|assumption|omega|(simp only[aE,aF,aD,i64,sa,aB,lm,la,lc,ln];omega)) only[go_sem,simprocAttr,hdr,l1,e,h32,c19,m1,c1]
   ·have hs:Cz x.fArgs j=true:=by simp[Cz,c1]
    rw[hs] at hr ⊢
    obtain⟨y0,y1⟩:=hr y (by simp)
    have g:=jR so y hm y0 y1
    have e2:=eset (ofZ so y)
    rw[if_pos rfl,←step (ofZ so y) (fun _ h=>by omega) (fun z hz=>hr z (by simp[hz]))]
    clear step eset
    simp only[rdH,←e2]
    generalize aP (A++y::Bl)=Z at *
    conv=>lhs;unfold loopW;arg 1;unfold a8
    simp -implicitDefEqProofs (disch:=first|assumption|omega|(simp only[aE,aF,aD,i64,sa,aB,lm,la,lc,ln];omega)) only[go_sem,simprocAttr,hdr,l1,e,h32,c19,m1,c1,f1,g,dK]
   ·have hj2:2≤j:=by omega
    have hA2:A[j-2]? = x.fArgs[j-2]? := h3 c19 (j-2) (by omega) (by omega)
    obtain⟨v,hv⟩:∃v,x.fArgs[j-2]? = some v:=⟨_,List.getElem?_eq_getElem (by omega)⟩
    have f2:(aP (A++y::Bl))[((j:Int)-2).toNat]? = some [DI v]:=by
     rw[show((j:Int)-2).toNat=j-2 by omega,aP,List.getElem?_map,List.getElem?_append_left (by omega),hA2,hv];rfl
    by_cases cv:v=2
    ·have hs:Cz x.fArgs j=true:=by simp[Cz,c1,hv,cv]
     rw[hs] at hr ⊢
     obtain⟨y0,y1⟩:=hr y (by simp)
     have g:=jR so y hm y0 y1
     have e2:=eset (ofZ so y)
     rw[if_pos rfl,←step (ofZ so y) (fun _ h=>by omega) (fun z hz=>hr z (by simp[hz]))]
     clear step eset
     simp only[rdH,←e2]
     generalize aP (A++y::Bl)=Z at *
     conv=>lhs;unfold loopW;arg 1;unfold a8
     simp -implicitDefEqProofs (disch:=first|assumption|omega|(simp only[aE,aF,aD,i64,sa,aB,lm,la,lc,ln];omega)) only[go_sem,simprocAttr,hdr,l1,e,h32,c19,m1,c1,f1,f2,cv,g,dK]
    ·have hs:Cz x.fArgs j=false:=by simp[Cz,c1,hv,cv]
     rw[hs] at hr ⊢
     rw[if_neg (by simp),←step y (fun _ _=>rfl) (fun z hz=>hr z (by simpa using hz))]
     clear step eset
     simp only[rdH]
     generalize aP (A++y::Bl)=Z at *
     conv=>lhs;unfold loopW;arg 1;unfold a8
     simp -implicitDefEqProofs (disch:=first|assumption|omega|(simp only[aE,aF,aD,i64,sa,aB,lm,la,lc,ln];omega)) only[go_sem,simprocAttr,hdr,l1,e,h32,c19,m1,c1,f2,cv]
  ·have k0:decide (x.fOp=19)=false:=decide_eq_false c19
   simp only[k0,Bool.not_false,Bool.true_or] at hr ⊢
   obtain⟨y0,y1⟩:=hr y (by simp)
   have g:=jR so y hm y0 y1
   have e2:=eset (ofZ so y)
   rw[if_pos trivial,←step (ofZ so y) (fun h _=>absurd h c19) (fun z hz=>hr z (by simp[hz]))]
   clear step eset
   simp only[rdH,←e2]
   generalize aP (A++y::Bl)=Z at *
   conv=>lhs;unfold loopW;arg 1;unfold a8
   simp -implicitDefEqProofs (disch:=first|assumption|omega|(simp only[aE,aF,aD,i64,sa,aB,lm,la,lc,ln];omega)) only[go_sem,simprocAttr,hdr,l1,e,h32,c19,f1,g,dK]
set_option maxRecDepth 8000
set_option maxHeartbeats 16000000
structure ROk (m:Nat) (t:ZA):Prop where
 u:∀r∈dB t,0≤r∧r<m
 s:∀r∈aY t,0≤r∧r<m
 sel:t.fOp=19→t.fArgs.length % 3=0
 no:¬hb t 32=true→t.fArgs=[]
 len:t.fArgs.length≤9
abbrev xq(x:ZA)(c:D):X:= .agg [I x.fOp,I x.fD,I x.fA,I x.fB,I x.fN,Str x.fS,.d c]
abbrev xq'(x:ZA)(c:X):X:= .agg [I x.fOp,I x.fD,I x.fA,I x.fB,I x.fN,Str x.fS,c]
theorem Lp(x:ZA):call tab kQ [xq x .u]=some (.d (.s 1 (aP (aY x)))):=by
 rw[aQ Fm _ rfl,zE,aY]
 have e:=xY x 1
 (repeat'(first|simp -implicitDefEqProofs (disch:=first|assumption|omega|(simp only[aE,aF,aD,i64,sa,aB,lm,la,lc,ln];omega)) only[go_sem,simprocAttr,cA,e,mc,mn]|((first|rw[aO]|rw[aH]|rw[aI]|rw[aM]|rw[aN]|rw[aJ]|rw[aG]|rw[aL]|skip);split)))
theorem Lz(x:ZA):call tab lF [xq x .u]=some (.d (.s 1 (aP (aY x)))):=by
 rw[aQ F0 _ rfl,yB,aY]
 have a1:=bX x (68,1) (by simp)
 by_cases c0:x.fOp=19
 ·rw[(zxG c0).1,if_pos rfl,if_pos c0]
  (repeat'(first|simp -implicitDefEqProofs (disch:=first|assumption|omega|(simp only[aE,aF,aD,i64,sa,aB,lm,la,lc,ln];omega)) only[go_sem,simprocAttr,aP,mc,mn]|((first|rw[aO]|rw[aH]|rw[aI]|rw[aM]|rw[aN]|rw[aJ]|rw[aG]|rw[aL]|skip);split)))
 ·rw[if_neg c0]
  cases c1:hb x 1<;>rw[c1] at a1<;>(repeat'(first|simp -implicitDefEqProofs (disch:=first|assumption|omega|(simp only[aE,aF,aD,i64,sa,aB,lm,la,lc,ln];omega)) only[go_sem,simprocAttr,aP,mc,mn,a1]|((first|rw[aO]|rw[aH]|rw[aI]|rw[aM]|rw[aN]|rw[aJ]|rw[aG]|rw[aL]|skip);split)))
theorem Nj{x:ZA}(h:hb x 2=true):x.fA∈dB x:=by simp[dB,h]
theorem U3{x:ZA}(h:(hb x 4&& !decide (x.fOp=19))=true):x.fB∈dB x:=by unfold dB;rw[if_pos h];simp
theorem zxV{x:ZA}(h:hb x 32=true){y:Int}(hy:y∈iG x 0 x.fArgs):y∈dB x:=by simp[dB,h,hy]
theorem zXf(x:ZA)(so:List Int)(h32:hb x 32=false)(a b:Int) :
  loopW tab [1,2,4,5,6] a8 {env:=upd (upd (upd (upd (upd emp 6 (some (I 0))) 5 (some (I (Cd x.fOp)))) 4 (some (.ptr (1,1) [] 0 0))) 2 (some (.ptr (1,0) [] 0 0))) 1 (some (.d (.r (aP so)))),heap:=rdH x a b [],fr:=1,next:=2} =
  some (.ext 0,{env:=upd (upd emp 4 (some (.ptr (1,1) [] 0 0))) 2 (some (.ptr (1,0) [] 0 0)),heap:=rdH x a b [],fr:=1,next:=2}):=by
 have hdr:=bI
 have e:=xY x 32
 unfold loopW
 conv=>lhs;arg 1;unfold a8
 simp -implicitDefEqProofs (disch:=first|assumption|omega|(simp only[aE,aF,aD,i64,sa,aB,lm,la,lc,ln];omega)) only[go_sem,simprocAttr,hdr,e,h32,aP]
 rfl
theorem E8(x:ZA)(so:List Int)(hm:so.length≤250)(hx:ROk so.length x):evCW tab mU [xq' x (.ref (0,0) []),.d (.r (aP so))] (upd emp (0,0) (some (.s 1 (aP x.fArgs)))) 1=some ((bB so x).xo,upd emp (0,0) none):=by
 have hdr:=bI
 have g0:=cA x.fOp
 have e2:=xY x 2
 have e4:=xY x 4
 have hl:∀a b,loopW tab [1,2,4,5,6] a8 {env:=upd (upd (upd (upd (upd emp 6 (some (I 0))) 5 (some (I (Cd x.fOp)))) 4 (some (.ptr (1,1) [] 0 0))) 2 (some (.ptr (1,0) [] 0 0))) 1 (some (.d (.r (aP so)))),heap:=rdH x a b x.fArgs,fr:=1,next:=2}=some (.ext 0,{env:=upd (upd emp 4 (some (.ptr (1,1) [] 0 0))) 2 (some (.ptr (1,0) [] 0 0)),heap:=rdH x a b (if hb x 32=true then rdA x so 0 x.fArgs else x.fArgs),fr:=1,next:=2}):=fun a b=>by
  by_cases h32:hb x 32=true
  ·rw[if_pos h32]
   have:=zQq x so hm h32 (by have:=hx.len;omega) a b x.fArgs 0 [] rfl rfl (fun _ i hi=>by omega) (fun y hy=>hx.u y (zxV h32 hy))
   simpa using this
  ·rw[if_neg h32,hx.no h32]
   exact zXf x so (by simpa using h32) a b
 have hla:=fun h=>jR so x.fA hm (hx.u _ (Nj h)).1 (hx.u _ (Nj h)).2
 have hlb:=fun h=>jR so x.fB hm (hx.u _ (U3 h)).1 (hx.u _ (U3 h)).2
 simp only[rdH] at hl
 rw[bW Gu _ _ _ rfl,v8]
 simp only[bB,ZA.xo]
 generalize (if hb x 32=true then rdA x so 0 x.fArgs else x.fArgs)=L at *
 cases c2:hb x 2<;>cases c4:hb x 4
 ·rw[c2] at e2;rw[c4] at e4
  simp -implicitDefEqProofs (disch:=first|assumption|omega|(simp only[aE,aF,aD,i64,sa,aB,lm,la,lc,ln];omega)) only[go_sem,simprocAttr,hdr,g0,e2,e4,hl]
 ·rw[c2] at e2;rw[c4] at e4
  by_cases c19:x.fOp=19
  ·simp only[c19] at g0 e2 e4 hl
   simp -implicitDefEqProofs (disch:=first|assumption|omega|(simp only[aE,aF,aD,i64,sa,aB,lm,la,lc,ln];omega)) only[go_sem,simprocAttr,hdr,g0,e2,e4,hl,c19]
  ·have hlb:=hlb (by simp[c4,c19])
   simp -implicitDefEqProofs (disch:=first|assumption|omega|(simp only[aE,aF,aD,i64,sa,aB,lm,la,lc,ln];omega)) only[go_sem,simprocAttr,hdr,g0,e2,e4,hl,c19,hlb]
 ·rw[c2] at e2;rw[c4] at e4
  have hla:=hla c2
  simp -implicitDefEqProofs (disch:=first|assumption|omega|(simp only[aE,aF,aD,i64,sa,aB,lm,la,lc,ln];omega)) only[go_sem,simprocAttr,hdr,g0,e2,e4,hl,hla]
 ·rw[c2] at e2;rw[c4] at e4
  have hla:=hla c2
  by_cases c19:x.fOp=19
  ·simp only[c19] at g0 e2 e4 hl
   simp -implicitDefEqProofs (disch:=first|assumption|omega|(simp only[aE,aF,aD,i64,sa,aB,lm,la,lc,ln];omega)) only[go_sem,simprocAttr,hdr,g0,e2,e4,hl,c19,hla]
  ·have hlb:=hlb (by simp[c4,c19])
   simp -implicitDefEqProofs (disch:=first|assumption|omega|(simp only[aE,aF,aD,i64,sa,aB,lm,la,lc,ln];omega)) only[go_sem,simprocAttr,hdr,g0,e2,e4,hl,c19,hla,hlb]
set_option maxRecDepth 8000
set_option maxHeartbeats 16000000
theorem q6(A:List Int)(y:Int)(B:List Int){j:Int}(h:j=A.length):(aP (A++y::B))[j.toNat]? = some [DI y]:=by
 rw[aP,List.getElem?_map,List.getElem?_append_right (by omega),show j.toNat-A.length=0 by omega];rfl
theorem tQ(A:List Int)(y z:Int)(B:List Int){j:Int}(h:j=A.length):(aP (A++y::B)).set j.toNat [DI z]=aP (A++z::B):=by
 rw[nG]
 congr 1
 rw[List.set_append_right _ _ (by omega),show j.toNat-A.length=0 by omega];rfl
theorem zZ7(x:ZA)(so:List Int)(hm:so.length≤250)(h19:x.fOp=19)(hx:x.fArgs.length≤9):∀(k:Nat) (Bl:List Int) (j:Nat) (A:List Int),Bl.length=3*k→x.fArgs.drop j=Bl→j % 3=0→A.length=j→j≤9→(∀y∈iG x j Bl,0≤y∧y<so.length) →
  loopW tab [1,2,4,5] eM {env:=upd (upd (upd (upd emp 5 (some (I (j:Int)))) 4 (some (.ptr (1,1) [] 0 0))) 2 (some (.ptr (1,0) [] 0 0))) 1 (some (.d (.r (aP (dD so))))),heap:=rdH x x.fA x.fB (A++Bl),fr:=1,next:=2} =
  some (.ext 0,{env:=upd (upd emp 4 (some (.ptr (1,1) [] 0 0))) 2 (some (.ptr (1,0) [] 0 0)),heap:=rdH x x.fA x.fB (A++rdA x so j Bl),fr:=1,next:=2})
 |0,Bl,j,A,hk,hd,h3,hA,hj,hr=>by
  have hdr:=bI
  have hB:Bl=[]:=List.eq_nil_of_length_eq_zero (by omega)
  subst hB
  have l:=bH A
  simp only[rdA,zqe]
  unfold loopW
  conv=>lhs;arg 1;unfold eM
  simp -implicitDefEqProofs (disch:=first|assumption|omega|(simp only[aE,aF,aD,i64,sa,aB,lm,la,lc,ln];omega)) only[go_sem,simprocAttr,hdr,l,hA]
 |k+1,[],j,A,hk,hd,h3,hA,hj,hr=>by simp at hk
 |k+1,[_],j,A,hk,hd,h3,hA,hj,hr=>by simp at hk;omega
 |k+1,[_,_],j,A,hk,hd,h3,hA,hj,hr=>by simp at hk;omega
 |k+1,y0::y1::y2::Bl,j,A,hk,hd,h3,hA,hj,hr=>by
  have hdr:=bI
  have hlen:x.fArgs.length=j+(Bl.length+3):=by
   have:=congrArg List.length hd
   rw[List.length_drop] at this
   simp only[lc] at this
   omega
  have hy0:x.fArgs[j]? = some y0:=by
   have:=congrArg (fun l=>l[0]?) hd
   simpa using this
  have hd2:x.fArgs.drop (j+3)=Bl:=by
   have:=congrArg (List.drop 3) hd
   rw[List.drop_drop] at this
   simpa[Nat.add_comm] using this
  have k0:decide (x.fOp=19)=true:=decide_eq_true h19
  have u0:iG x j (y0::y1::y2::Bl)=y1::((if y0=2 then [y2] else [])++iG x (j+3) Bl):=by
   simp only[iG,k0,Bool.not_true,Bool.false_or,Cz,show j % 3=0 from h3,show(j+1) % 3=1 by omega,show(j+1+1) % 3=2 by omega,show j+1+1-2=j by omega,hy0]
   simp
  have r0:rdA x so j (y0::y1::y2::Bl)=y0::ofZ so y1::(if y0=2 then ofZ so y2 else y2)::rdA x so (j+3) Bl:=by
   simp only[rdA,k0,Bool.not_true,Bool.false_or,Cz,show j % 3=0 from h3,show(j+1) % 3=1 by omega,show(j+1+1) % 3=2 by omega,show j+1+1-2=j by omega,hy0]
   simp
  rw[u0] at hr
  obtain⟨b0,b1⟩:=hr y1 (by simp)
  have f1:=o9 so (r:=y1) b0 b1
  have lid:(aP (dD so)).length=so.length:=by rw[bH,gP]
  have ih:=zZ7 x so hm h19 hx k Bl (j+3) (A++[y0,ofZ so y1,if y0=2 then ofZ so y2 else y2]) (by simp at hk;omega) hd2 (by omega) (by simp[hA]) (by omega) (fun z hz=>hr z (by simp[hz]))
  rw[zqc,zqc,show(((j+3:Nat)):Int)=(j:Int)+3 by omega] at ih
  rw[r0]
  have e2:=congrArg (fun l=>some (Ex.ext 0,({env:=upd (upd emp 4 (some (X.ptr (1,1) [] 0 0))) 2 (some (X.ptr (1,0) [] 0 0)),heap:=rdH x x.fA x.fB l,fr:=1,next:=2}:St))) (show A++([y0,ofZ so y1,if y0=2 then ofZ so y2 else y2]++rdA x so (j+3) Bl)=A++y0::ofZ so y1::(if y0=2 then ofZ so y2 else y2)::rdA x so (j+3) Bl by simp)
  rw[←e2,←ih]
  clear ih e2
  have p0:=q6 A y0 (y1::y2::Bl) (j:=(j:Int)) (by omega)
  have p1:=q6 (A++[y0]) y1 (y2::Bl) (j:=(j:Int)+1) (by simp;omega)
  have q1:=tQ (A++[y0]) y1 (ofZ so y1) (y2::Bl) (j:=(j:Int)+1) (by simp;omega)
  have p0':=q6 A y0 (ofZ so y1::y2::Bl) (j:=(j:Int)) (by omega)
  have p2:=q6 (A++[y0,ofZ so y1]) y2 Bl (j:=(j:Int)+2) (by simp;omega)
  have q2:=tQ (A++[y0,ofZ so y1]) y2 (ofZ so y2) Bl (j:=(j:Int)+2) (by simp;omega)
  simp only[zqc,List.cons_append,zqf] at p1 q1 p2 q2
  simp only[Int.toNat_natCast] at p0 p0'
  have l1:(aP (A++y0::y1::y2::Bl)).length=j+(Bl.length+3):=by rw[bH];simp;omega
  have l2:(aP (A++y0::ofZ so y1::y2::Bl)).length=j+(Bl.length+3):=by rw[bH];simp;omega
  simp only[rdH]
  by_cases c:y0=2
  ·obtain⟨b2,b3⟩:=hr y2 (by simp[c])
   have f2:=o9 so (r:=y2) b2 b3
   rw[if_pos c]
   subst c
   generalize hz0:aP (A++2::y1::y2::Bl)=Z0 at *
   generalize hz1:aP (A++2::ofZ so y1::y2::Bl)=Z1 at *
   simp only[List.cons_append,zqf]
   generalize hz2:aP (A++2::ofZ so y1::ofZ so y2::Bl)=Z2 at *
   conv=>lhs;unfold loopW;arg 1;unfold eM
   simp -implicitDefEqProofs (disch:=first|assumption|omega|(simp only[aE,aF,aD,i64,sa,aB,lm,la,lc,ln];omega)) only[go_sem,simprocAttr,hdr,l1,l2,p0,p1,q1,p0',p2,q2,f1,f2,lid]
  ·rw[if_neg c]
   simp only[List.cons_append,zqf]
   generalize hz0:aP (A++y0::y1::y2::Bl)=Z0 at *
   generalize hz1:aP (A++y0::ofZ so y1::y2::Bl)=Z1 at *
   conv=>lhs;unfold loopW;arg 1;unfold eM
   simp -implicitDefEqProofs (disch:=first|assumption|omega|(simp only[aE,aF,aD,i64,sa,aB,lm,la,lc,ln];omega)) only[go_sem,simprocAttr,hdr,l1,l2,p0,p1,q1,p0',f1,lid,c]
theorem zw9(x:ZA)(so:List Int)(hm:so.length≤250)(h19:x.fOp≠19)(hx:x.fArgs.length≤9)(a b:Int):∀(Bl:List Int) (j:Nat) (A:List Int),x.fArgs.drop j=Bl→A.length=j→(∀y∈iG x j Bl,0≤y∧y<so.length) →
  loopW tab [1,2,4,73,74,75] eP {env:=upd (upd (upd (upd (upd (upd emp 75 (some (I (j:Int)))) 74 (some (I (x.fArgs.length:Int)))) 73 (some (.ref (1,0) [(0,6)]))) 4 (some (.ptr (1,1) [] 0 0))) 2 (some (.ptr (1,0) [] 0 0))) 1 (some (.d (.r (aP (dD so))))),heap:=rdH x a b (A++Bl),fr:=1,next:=2} =
  some (.ext 2,{env:=upd (upd emp 4 (some (.ptr (1,1) [] 0 0))) 2 (some (.ptr (1,0) [] 0 0)),heap:=rdH x a b (A++rdA x so j Bl),fr:=1,next:=2})
 |[],j,A,hd,hA,hr=>by
  have hdr:=bI
  have hl:x.fArgs.length≤j:=by
   have:=congrArg List.length hd
   rw[List.length_drop,ln] at this
   omega
  simp only[rdA,zqe]
  unfold loopW
  conv=>lhs;arg 1;unfold eP
  simp -implicitDefEqProofs (disch:=first|assumption|omega|(simp only[aE,aF,aD,i64,sa,aB,lm,la,lc,ln];omega)) only[go_sem,simprocAttr,hdr,show ¬((j:Int)<x.fArgs.length) by omega]
 |y::Bl,j,A,hd,hA,hr=>by
  have hdr:=bI
  have hlen:x.fArgs.length=j+(Bl.length+1):=by
   have:=congrArg List.length hd
   rw[List.length_drop,lc] at this
   omega
  have hd2:x.fArgs.drop (j+1)=Bl:=by
   have:=congrArg (List.drop 1) hd
   rw[List.drop_drop] at this
   simpa[Nat.add_comm] using this
  have k0:decide (x.fOp=19)=false:=decide_eq_false h19
  rw[iG] at hr
  rw[rdA]
  simp only[k0,Bool.not_false,Bool.true_or] at hr ⊢
  obtain⟨b0,b1⟩:=hr y (by simp)
  have f1:=o9 so (r:=y) b0 b1
  have lid:(aP (dD so)).length=so.length:=by rw[bH,gP]
  have ih:=zw9 x so hm h19 hx a b Bl (j+1) (A++[ofZ so y]) hd2 (by simp[hA]) (fun z hz=>hr z (by simp[hz]))
  rw[zqc,zqc,show(((j+1:Nat)):Int)=(j:Int)+1 by omega] at ih
  rw[if_pos trivial]
  have p0:=q6 A y Bl (j:=(j:Int)) (by omega)
  have q0:=tQ A y (ofZ so y) Bl (j:=(j:Int)) (by omega)
  have l1:(aP (A++y::Bl)).length=j+(Bl.length+1):=by rw[bH];simp;omega
  simp only[List.cons_append,zqf] at ih
  simp only[Int.toNat_natCast] at p0 q0
  rw[←ih]
  clear ih
  simp only[rdH]
  generalize hz0:aP (A++y::Bl)=Z0 at *
  generalize hz1:aP (A++ofZ so y::Bl)=Z1 at *
  conv=>lhs;unfold loopW;arg 1;unfold eP
  simp -implicitDefEqProofs (disch:=first|assumption|omega|(simp only[aE,aF,aD,i64,sa,aB,lm,la,lc,ln];omega)) only[go_sem,simprocAttr,hdr,l1,p0,q0,f1,lid,show((j:Int)<x.fArgs.length) by omega]
set_option maxRecDepth 8000
set_option maxHeartbeats 16000000
theorem zVi{x:ZA}(h:x.fOp≠19):(hb x 4&& !decide (x.fOp=19))=hb x 4:=by simp[h]
theorem E4(x:ZA)(so:List Int)(hm:so.length≤250)(hx:ROk so.length x):evCW tab mX [xq' x (.ref (0,0) []),.d (.r (aP (dD so)))] (upd emp (0,0) (some (.s 1 (aP x.fArgs)))) 1=some ((bB so x).xo,upd emp (0,0) none):=by
 have hdr:=bI
 have lid:(aP (dD so)).length=so.length:=by rw[bH,gP]
 rw[bW Gs _ _ _ rfl,wL]
 by_cases c19:x.fOp=19
 ·have h32:hb x 32=true:=(zxG c19).2.2.2
  have h2:hb x 2=false:=(zxG c19).2.1
  have hl:=zZ7 x so hm c19 hx.len (x.fArgs.length / 3) x.fArgs 0 [] (by have:=hx.sel c19;omega) rfl (by omega) rfl (by omega) (fun y hy=>hx.u y (zxV h32 hy))
  simp only[rdH,zqf,show((0:Nat):Int)=0 from rfl] at hl
  simp only[bB,ZA.xo,h2,h32,c19,if_true,decide_true,Bool.not_true,Cc,Bool.false_eq_true,if_false]
  generalize aP (rdA x so 0 x.fArgs)=Z1 at *
  generalize aP (dD so)=Z2 at *
  simp only[c19] at hl
  simp -implicitDefEqProofs (disch:=first|assumption|omega|(simp only[aE,aF,aD,i64,sa,aB,lm,la,lc,ln];omega)) only[go_sem,simprocAttr,hdr,c19,hl]
 ·have a2:=bX x (65,2) (by simp)
  have a4:=bX x (66,4) (by simp)
  have hl:∀a b,loopW tab [1,2,4,73,74,75] eP {env:=upd (upd (upd (upd (upd (upd emp 75 (some (I 0))) 74 (some (I (x.fArgs.length:Int)))) 73 (some (.ref (1,0) [(0,6)]))) 4 (some (.ptr (1,1) [] 0 0))) 2 (some (.ptr (1,0) [] 0 0))) 1 (some (.d (.r (aP (dD so))))),heap:=rdH x a b x.fArgs,fr:=1,next:=2} =
    some (.ext 2,{env:=upd (upd emp 4 (some (.ptr (1,1) [] 0 0))) 2 (some (.ptr (1,0) [] 0 0)),heap:=rdH x a b (if hb x 32=true then rdA x so 0 x.fArgs else x.fArgs),fr:=1,next:=2}):=fun a b=>by
   have:=zw9 x so hm c19 hx.len a b x.fArgs 0 [] rfl rfl
   by_cases h32:hb x 32=true
   ·rw[if_pos h32]
    exact this (fun y hy=>hx.u y (zxV h32 hy))
   ·rw[if_neg h32]
    rw[hx.no h32] at this ⊢
    exact this (fun y hy=>by simp[iG] at hy)
  have hla:=fun h=>o9 so (hx.u _ (Nj (x:=x) h)).1 (hx.u _ (Nj h)).2
  have hlb:=fun h=>o9 so (hx.u _ (U3 (x:=x) h)).1 (hx.u _ (U3 h)).2
  have hba:=fun h=>hx.u _ (Nj (x:=x) h)
  have hbb:=fun h=>hx.u _ (U3 (x:=x) h)
  have hal:=bH x.fArgs
  simp only at a2 a4
  simp only[bB,ZA.xo,zVi c19] at hlb hbb ⊢
  simp only[rdH] at hl
  generalize (if hb x 32=true then rdA x so 0 x.fArgs else x.fArgs)=L at *
  generalize aP (dD so)=Z2 at *
  generalize aP x.fArgs=Z0 at *
  cases c2:hb x 2<;>cases c4:hb x 4<;>rw[c2] at a2 hla hba<;>rw[c4] at a4 hlb hbb
  ·simp -implicitDefEqProofs (disch:=first|assumption|omega|(simp only[aE,aF,aD,i64,sa,aB,lm,la,lc,ln];omega)) only[go_sem,simprocAttr,hdr,c19,a2,a4,hl,hal]
  ·have hlb:=hlb rfl
   obtain⟨hb0,hb1⟩:=hbb rfl
   simp -implicitDefEqProofs (disch:=first|assumption|omega|(simp only[aE,aF,aD,i64,sa,aB,lm,la,lc,ln];omega)) only[go_sem,simprocAttr,hdr,c19,a2,a4,hl,hal,hlb,lid]
  ·have hla:=hla rfl
   obtain⟨ha0,ha1⟩:=hba rfl
   simp -implicitDefEqProofs (disch:=first|assumption|omega|(simp only[aE,aF,aD,i64,sa,aB,lm,la,lc,ln];omega)) only[go_sem,simprocAttr,hdr,c19,a2,a4,hl,hal,hla,lid]
  ·have hla:=hla rfl
   obtain⟨ha0,ha1⟩:=hba rfl
   have hlb:=hlb rfl
   obtain⟨hb0,hb1⟩:=hbb rfl
   simp -implicitDefEqProofs (disch:=first|assumption|omega|(simp only[aE,aF,aD,i64,sa,aB,lm,la,lc,ln];omega)) only[go_sem,simprocAttr,hdr,c19,a2,a4,hl,hal,hla,hlb,lid]
set_option maxRecDepth 8000
set_option maxHeartbeats 16000000
def fgt(so:List Int)(r:Int):List Int:=(so.set r.toNat (-1)).map fun x=>if x=r then -1 else x
def fgI(r:Int):Int→List Int→List Int
 |_,[]=>[]
 |j,y::ys=>(if y=r then j else y)::fgI r (j+1) ys
def frI:Int→List Int→List Int
 |_,[]=>[]
 |j,_::ys=>j::frI (j+1) ys
theorem zjt(r:Int):∀(ys:List Int) (j:Int) (i:Nat),(fgI r j ys)[i]? = (ys[i]?).map fun y=>if y=r then j+i else y
 |[],j,i=>by simp[fgI]
 |y::ys,j,0=>by simp[fgI]
 |y::ys,j,i+1=>by
  rw[fgI,List.getElem?_cons_succ,List.getElem?_cons_succ,zjt r ys (j+1) i,show j+1+(i:Int)=j+((i+1:Nat):Int) by omega]
theorem zzD:∀(ys:List Int) (j:Int) (i:Nat),(frI j ys)[i]? = (ys[i]?).map fun y=>j+i
 |[],j,i=>by simp[frI]
 |y::ys,j,0=>by simp[frI]
 |y::ys,j,i+1=>by
  rw[frI,List.getElem?_cons_succ,List.getElem?_cons_succ,zzD ys (j+1) i,show j+1+(i:Int)=j+((i+1:Nat):Int) by omega]
theorem Ds(so:List Int)(i:Nat):(dD so)[i]? = (so[i]?).map fun v=>if 0≤v then v else(i:Int):=by
 rw[dD,List.getElem?_map]
 by_cases h:i<so.length
 ·rw[List.getElem?_range h,List.getElem?_eq_getElem h]
  simp[ofZ,gL,h]
 ·rw[List.getElem?_eq_none (by simp;omega),List.getElem?_eq_none (by omega)]
  rfl
theorem O4(so:List Int)(r:Int):(fgt so r).length=so.length:=by simp[fgt]
theorem zxE(so:List Int){r:Int}(h0:0≤r)(h1:r<so.length):fgI r 0 ((dD so).set r.toNat r)=dD (fgt so r):=by
 apply List.ext_getElem?
 intro i
 rw[zjt,Ds,fgt,List.getElem?_map,List.getElem?_set,List.getElem?_set,Ds,gP]
 by_cases e:r.toNat=i
 ·have h2:i<so.length:=by omega
  simp only[e,if_true,h2,oms]
  simp
 ·simp only[if_neg e]
  by_cases h:i<so.length
  ·rw[List.getElem?_eq_getElem h]
   simp only[oms]
   by_cases c:0≤so[i]
   ·simp only[if_pos c]
    by_cases c2:so[i]=r
    ·simp[c2]
    ·simp[c2,c]
   ·have c2:¬so[i]=r:=by omega
    have c3:¬(i:Int)=r:=by omega
    simp[c,c2,c3]
  ·rw[List.getElem?_eq_none (by omega)]
   rfl
theorem zJx(so:List Int){d a:Int}(h0:0≤d)(h1:d<so.length)(ha:0≤a):(dD so).set d.toNat a=dD (so.set d.toNat a):=by
 apply List.ext_getElem?
 intro i
 rw[Ds,List.getElem?_set,List.getElem?_set,Ds,gP]
 by_cases e:d.toNat=i
 ·have h2:i<so.length:=by omega
  simp[e,h2,ha]
 ·simp only[if_neg e]
theorem zY4(ys:List Int):frI 0 ys=dD (List.replicate ys.length (-1)):=by
 apply List.ext_getElem?
 intro i
 rw[zzD,Ds,List.getElem?_replicate]
 by_cases h:i<ys.length
 ·simp[h]
 ·simp[h]
theorem zy4(r:Int):∀(Bl:List Int) (j:Int) (A:List Int),A.length=j→A.length+Bl.length≤250 →
  loopW tab [0,1,10,11] gM {env:=upd (upd (upd (upd emp 11 (some (I j))) 10 (some (I ((A.length+Bl.length:Nat):Int)))) 1 (some (I r))) 0 (some (.ref (0,0) [])),heap:=upd emp (0,0) (some (.s 1 (aP (A++Bl)))),fr:=1,next:=0} =
  some (.ext 0,{env:=emp,heap:=upd emp (0,0) (some (.s 1 (aP (A++fgI r j Bl)))),fr:=1,next:=0})
 |[],j,A,hA,hl=>by
  have hdr:=bI
  simp only[fgI,zqe,ln,Nat.add_zero]
  unfold loopW
  conv=>lhs;arg 1;unfold gM
  simp -implicitDefEqProofs (disch:=first|assumption|omega|(simp only[aE,aF,aD,i64,sa,aB,lm,la,lc,ln];omega)) only[go_sem,simprocAttr,hdr,show ¬j<(A.length:Int) by omega]
 |y::Bl,j,A,hA,hl=>by
  have hdr:=bI
  have hl2:A.length+Bl.length+1≤250:=by rw[lc] at hl;omega
  have ih:=zy4 r Bl (j+1) (A++[if y=r then j else y]) (by simp;omega) (by simp;omega)
  rw[zqc,zqc,show((A++[if y=r then j else y]).length+Bl.length:Nat)=A.length+(y::Bl).length by simp;omega] at ih
  simp only[List.cons_append,zqf] at ih
  rw[fgI,←ih]
  clear ih
  have p0:=q6 A y Bl (j:=j) (by omega)
  have q0:=tQ A y j Bl (j:=j) (by omega)
  have l1:(aP (A++y::Bl)).length=A.length+(Bl.length+1):=by rw[bH];simp
  simp only[lc]
  generalize hz0:aP (A++y::Bl)=Z0 at *
  by_cases c:y=r
  ·rw[if_pos c]
   generalize hz1:aP (A++j::Bl)=Z1 at *
   conv=>lhs;unfold loopW;arg 1;unfold gM
   simp -implicitDefEqProofs (disch:=first|assumption|omega|(simp only[aE,aF,aD,i64,sa,aB,lm,la,lc,ln];omega)) only[go_sem,simprocAttr,hdr,l1,p0,q0,c,show j<((A.length+(Bl.length+1):Nat):Int) by omega]
  ·rw[if_neg c,hz0]
   conv=>lhs;unfold loopW;arg 1;unfold gM
   simp -implicitDefEqProofs (disch:=first|assumption|omega|(simp only[aE,aF,aD,i64,sa,aB,lm,la,lc,ln];omega)) only[go_sem,simprocAttr,hdr,l1,p0,c,show j<((A.length+(Bl.length+1):Nat):Int) by omega]
theorem Jo(so:List Int)(hm:so.length≤250)(r:Int)(h0:0≤r)(h1:r<so.length):evCW tab xV [.ref (0,0) [],I r] (upd emp (0,0) (some (.s 1 (aP (dD so))))) 1=some (.tup [],upd emp (0,0) (some (.s 1 (aP (dD (fgt so r)))))):=by
 have hdr:=bI
 have lid:(aP (dD so)).length=so.length:=by rw[bH,gP]
 have e1:=nG (dD so) r.toNat r
 have lid2:(aP ((dD so).set r.toNat r)).length=so.length:=by rw[bH,List.length_set,gP]
 obtain⟨v,hv⟩:∃v,(aP (dD so))[r.toNat]? = some [DI v]:=⟨_,o9 so h0 h1⟩
 have hl:=zy4 r ((dD so).set r.toNat r) 0 [] rfl (by simp[gP];omega)
 rw[zxE so h0 h1] at hl
 simp only[zqf,ln,Nat.zero_add,List.length_set,gP] at hl
 rw[bW K8 _ _ _ rfl,Al]
 generalize aP (dD (fgt so r))=Z2 at *
 generalize aP ((dD so).set r.toNat r)=Z1 at *
 generalize aP (dD so)=Z0 at *
 simp -implicitDefEqProofs (disch:=first|assumption|omega|(simp only[aE,aF,aD,i64,sa,aB,lm,la,lc,ln];omega)) only[go_sem,simprocAttr,hdr,lid,hv,e1,lid2,hl]
theorem zQd:∀(Bl:List Int) (j:Int) (A:List Int),A.length=j→A.length+Bl.length≤250 →
  loopW tab [0,4,5] lT {env:=upd (upd (upd emp 5 (some (I j))) 4 (some (I ((A.length+Bl.length:Nat):Int)))) 0 (some (.ref (0,0) [])),heap:=upd emp (0,0) (some (.s 1 (aP (A++Bl)))),fr:=1,next:=0} =
  some (.ext 0,{env:=emp,heap:=upd emp (0,0) (some (.s 1 (aP (A++frI j Bl)))),fr:=1,next:=0})
 |[],j,A,hA,hl=>by
  have hdr:=bI
  simp only[frI,zqe,ln,Nat.add_zero]
  unfold loopW
  conv=>lhs;arg 1;unfold lT
  simp -implicitDefEqProofs (disch:=first|assumption|omega|(simp only[aE,aF,aD,i64,sa,aB,lm,la,lc,ln];omega)) only[go_sem,simprocAttr,hdr,show ¬j<(A.length:Int) by omega]
 |y::Bl,j,A,hA,hl=>by
  have hdr:=bI
  have hl2:A.length+Bl.length+1≤250:=by rw[lc] at hl;omega
  have ih:=zQd Bl (j+1) (A++[j]) (by simp;omega) (by simp;omega)
  rw[zqc,zqc,show((A++[j]).length+Bl.length:Nat)=A.length+(y::Bl).length by simp;omega] at ih
  simp only[List.cons_append,zqf] at ih
  rw[frI,←ih]
  clear ih
  have p0:=q6 A y Bl (j:=j) (by omega)
  have q0:=tQ A y j Bl (j:=j) (by omega)
  have l1:(aP (A++y::Bl)).length=A.length+(Bl.length+1):=by rw[bH];simp
  simp only[lc]
  generalize hz0:aP (A++y::Bl)=Z0 at *
  generalize hz1:aP (A++j::Bl)=Z1 at *
  conv=>lhs;unfold loopW;arg 1;unfold lT
  simp -implicitDefEqProofs (disch:=first|assumption|omega|(simp only[aE,aF,aD,i64,sa,aB,lm,la,lc,ln];omega)) only[go_sem,simprocAttr,hdr,l1,p0,q0,show j<((A.length+(Bl.length+1):Nat):Int) by omega]
theorem Av(zs:List Int)(hm:zs.length≤250):evCW tab vS [.ref (0,0) []] (upd emp (0,0) (some (.s 1 (aP zs)))) 1=some (.tup [],upd emp (0,0) (some (.s 1 (aP (dD (List.replicate zs.length (-1))))))):=by
 have hdr:=bI
 have lid:(aP zs).length=zs.length:=bH zs
 have hl:=zQd zs 0 [] rfl (by simpa using hm)
 rw[zY4] at hl
 simp only[zqf,ln,Nat.zero_add] at hl
 rw[bW Pi _ _ _ rfl,Dh]
 generalize aP (dD (List.replicate zs.length (-1)))=Z2 at *
 generalize aP zs=Z0 at *
 simp -implicitDefEqProofs (disch:=first|assumption|omega|(simp only[aE,aF,aD,i64,sa,aB,lm,la,lc,ln];omega)) only[go_sem,simprocAttr,hdr,lid,hl]
set_option maxRecDepth 8000
set_option maxHeartbeats 16000000
abbrev fwH(u:ZB)(V:List (List D))(so:List Int)(T:D):Heap:=upd (upd (upd (upd emp (0,3) (some T)) (0,2) (some (.s 1 (aP so)))) (0,1) (some (eO u (.s 7 V)))) (0,0) (some pL)
theorem zxi(u:ZB)(V:List (List D))(T:D)(S:List Int)(k i r:Int)(hm:u.fRegs≤250)(hk:0≤k)(hk2:k<S.length)(hs:(aP S)[k.toNat]? = some [DI r]):∀(Bl:List Int) (j:Int) (A:List Int),(A.length:Int)=j→(A.length:Int)+Bl.length=u.fRegs →
  loopW tab [1,2,3,4,5,6,7,8,9] fU {env:=upd (upd (upd (upd (upd (upd (upd (upd (upd emp 9 (some (I j))) 8 (some (I k))) 7 (some (.d (.r (aP S))))) 6 (some (.ptr (0,3) [] 0 0))) 5 (some (I i))) 4 (some (.ref (0,2) []))) 3 (some (.ptr (0,1) [] 0 0))) 2 (some (.ptr (0,0) [] 0 0))) 1 (some (vpU u)),heap:=fwH u V (A++Bl) T,fr:=0,next:=4} =
  some (.ext 4,{env:=upd (upd (upd (upd (upd (upd (upd (upd emp 8 (some (I k))) 7 (some (.d (.r (aP S))))) 6 (some (.ptr (0,3) [] 0 0))) 5 (some (I i))) 4 (some (.ref (0,2) []))) 3 (some (.ptr (0,1) [] 0 0))) 2 (some (.ptr (0,0) [] 0 0))) 1 (some (vpU u)),heap:=fwH u V (A++Bl.map fun x=>if x=r then -1 else x) T,fr:=0,next:=4})
 |[],j,A,hA,hl=>by
  have hl2:(A.length:Int)=u.fRegs:=by simpa using hl
  simp only[mn,zqe]
  generalize aP S=Z at *
  generalize aP A=Y at *
  unfold loopW
  conv=>lhs;arg 1;unfold fU
  simp -implicitDefEqProofs (disch:=first|assumption|omega|(simp only[aE,aF,aD,i64,sa,aB,lm,la,lc,ln];omega)) only[go_sem,simprocAttr,show ¬j<u.fRegs by omega]
 |y::Bl,j,A,hA,hl=>by
  have hl2:(A.length:Int)+Bl.length+1=u.fRegs:=by rw[lc] at hl;omega
  have ih:=zxi u V T S k i r hm hk hk2 hs Bl (j+1) (A++[if y=r then -1 else y]) (by simp;omega) (by simp;omega)
  rw[zqc,zqc] at ih
  simp only[List.cons_append,zqf] at ih
  rw[mc,←ih]
  clear ih
  have p0:=q6 A y Bl (j:=j) (by omega)
  have q0:=tQ A y (-1) Bl (j:=j) (by omega)
  have l1:(aP (A++y::Bl)).length=A.length+(Bl.length+1):=by rw[bH];simp
  have l2:(aP S).length=S.length:=bH S
  simp only[fwH]
  generalize hz0:aP (A++y::Bl)=Z0 at *
  generalize aP S=Z at *
  by_cases c:y=r
  ·rw[if_pos c]
   generalize hz1:aP (A++(-1)::Bl)=Z1 at *
   conv=>lhs;unfold loopW;arg 1;unfold fU
   simp -implicitDefEqProofs (disch:=first|assumption|omega|(simp only[aE,aF,aD,i64,sa,aB,lm,la,lc,ln];omega)) only[go_sem,simprocAttr,l1,l2,hs,p0,q0,c,show j<u.fRegs by omega]
  ·rw[if_neg c,hz0]
   conv=>lhs;unfold loopW;arg 1;unfold fU
   simp -implicitDefEqProofs (disch:=first|assumption|omega|(simp only[aE,aF,aD,i64,sa,aB,lm,la,lc,ln];omega)) only[go_sem,simprocAttr,l1,l2,hs,p0,c,show j<u.fRegs by omega]
theorem zZl(u:ZB)(V:List (List D))(T:D)(S:List Int)(i:Int)(hm:u.fRegs≤250)(hS:S.length≤250):∀(Bl:List Int) (k:Int) (so:List Int),S.drop k.toNat=Bl→0≤k→(so.length:Int)=u.fRegs→(∀r∈Bl,0≤r∧r<u.fRegs) →
  loopW tab [1,2,3,4,5,6,7,8] jH {env:=upd (upd (upd (upd (upd (upd (upd (upd emp 8 (some (I k))) 7 (some (.d (.r (aP S))))) 6 (some (.ptr (0,3) [] 0 0))) 5 (some (I i))) 4 (some (.ref (0,2) []))) 3 (some (.ptr (0,1) [] 0 0))) 2 (some (.ptr (0,0) [] 0 0))) 1 (some (vpU u)),heap:=fwH u V so T,fr:=0,next:=4} =
  some (.ext 2,{env:=upd (upd (upd (upd (upd (upd emp 6 (some (.ptr (0,3) [] 0 0))) 5 (some (I i))) 4 (some (.ref (0,2) []))) 3 (some (.ptr (0,1) [] 0 0))) 2 (some (.ptr (0,0) [] 0 0))) 1 (some (vpU u)),heap:=fwH u V (Bl.foldl fgt so) T,fr:=0,next:=4})
 |[],k,so,hd,hk,hl,hr=>by
  have hh:=dR hd hk
  have l2:(aP S).length=S.length:=bH S
  simp only[List.foldl_nil]
  generalize aP S=Z at *
  generalize aP so=Y at *
  unfold loopW
  conv=>lhs;arg 1;unfold jH
  simp -implicitDefEqProofs (disch:=first|assumption|omega|(simp only[aE,aF,aD,i64,sa,aB,lm,la,lc,ln];omega)) only[go_sem,simprocAttr,hh,l2]
 |r::Bl,k,so,hd,hk,hl,hr=>by
  have hc:=cE hd hk
  have h2:=j4 (fun n=>[DI n]) hc.1
  have h4:=hc.2.1
  obtain⟨b0,b1⟩:=hr r (by simp)
  have ih:=zZl u V T S i hm hS Bl (k+1) (fgt so r) hc.2.2.1 (by omega) (by rw[O4];exact hl) (fun z hz=>hr z (by simp[hz]))
  have g0:=zxi u V T S k i r hm hk (by omega) h2 (so.set r.toNat (-1)) 0 [] rfl (by simp;omega)
  have l2:(aP S).length=S.length:=bH S
  have l3:(aP so).length=so.length:=bH so
  have p0:=(eQ (zs:=so) b0 (by omega)).1
  have q0:=nG so r.toNat (-1)
  rw[List.foldl_cons,←ih]
  clear ih
  simp only[zqf] at g0
  rw[←fgt] at g0
  simp only[fwH] at g0 ⊢
  generalize aP (fgt so r)=Z2 at *
  generalize aP (so.set r.toNat (-1))=Z1 at *
  generalize aP so=Z0 at *
  conv=>lhs;unfold loopW;arg 1;unfold jH
  simp -implicitDefEqProofs (disch:=first|assumption|omega|(simp only[aE,aF,aD,i64,sa,aB,lm,la,lc,ln];omega)) only[go_sem,simprocAttr,h2,h4,l2,l3,p0,q0,g0]
set_option maxRecDepth 8000
set_option maxHeartbeats 16000000
def Fa(m:Nat)(so:List Int)(t:ZA):List Int×ZA :=
 let so1:=if t.fOp=8 then List.replicate m (-1) else so
 let t2:=bB so1 t
 let so2:=(aY t2).foldl fgt so1
 (if t2.fOp=2∧t2.fD≠t2.fA then so2.set t2.fD.toNat t2.fA else so2,t2)
def yQ(m:Nat)(so:List Int):List ZA→List ZA
 |[]=>[]
 |t::ts=>(Fa m so t).2::yQ m (Fa m so t).1 ts
theorem cV:∀(L w:List Int),(L.foldl fgt w).length=w.length
 |[],_=>rfl
 |a::L,w=>by rw[List.foldl_cons,cV L _,O4]
abbrev sfS(u:ZB)(V:List (List D))(so:List Int)(j:Int):St:={env:=upd (upd (upd (upd (upd emp 5 (some (I j))) 4 (some (.ref (0,2) []))) 3 (some (.ptr (0,1) [] 0 0))) 2 (some (.ptr (0,0) [] 0 0))) 1 (some (vpU u)),heap:=upd (upd (upd emp (0,2) (some (.s 1 (aP so)))) (0,1) (some (eO u (.s 7 V)))) (0,0) (some pL),fr:=0,next:=3}
def cpS(t:ZA)(so:List Int):List Int:=if t.fOp=2∧t.fD≠t.fA then so.set t.fD.toNat t.fA else so
theorem zZu(u:ZB)(m:Nat)(hm:m≤250)(hr:u.fRegs=m)(so so1:List Int)(t t2:ZA)(S:List Int)(Z0:List (List D))(j:Int)(n:Nat)(h0:0≤j)(hj:j<n)(hn:n≤900)(l1:Z0.length=n)(p0:Z0[j.toNat]? = some t.o)(hs1:so1.length=m)
  (k8:t.fOp=8→so1=List.replicate m (-1)) (k9:t.fOp≠8→so1=so)
  (g1:evCW tab mU [xq' t (.ref (0,0) []),.d (.r (aP so1))] (upd emp (0,0) (some (.s 1 (aP t.fArgs)))) 1=some (t2.xo,upd emp (0,0) none))
  (g3:call tab kQ [xq t2 .u]=some (.d (.s 1 (aP S)))) (hS:S.length≤2) (hsr:∀r∈S,0≤r∧r<(m:Int)) (hcp:t2.fOp=2→0≤t2.fD∧t2.fD<(m:Int)) :
  loopW tab [1,2,3,4,5] d6 (sfS u Z0 so j)=loopW tab [1,2,3,4,5] d6 (sfS u (Z0.set j.toNat t2.o) (cpS t2 (S.foldl fgt so1)) (j+1)):=by
 have hjn:j.toNat<Z0.length:=by omega
 have gn:=zjz u.fRegs (by omega) (by omega)
 rw[hr,Int.toNat_natCast,←hr] at gn
 have pu:(Z0.set j.toNat [DI t.fOp,DI t.fD,DI t.fA,DI t.fB,DI t.fN,DS t.fS,D.u])[j.toNat]? = some [DI t.fOp,DI t.fD,DI t.fA,DI t.fB,DI t.fN,DS t.fS,D.u]:=by
  rw[List.getElem?_set]
  simp[hjn]
 have q1:(Z0.set j.toNat [DI t.fOp,DI t.fD,DI t.fA,DI t.fB,DI t.fN,DS t.fS,D.u]).set j.toNat t2.o=Z0.set j.toNat t2.o:=by
  rw[List.set_set]
 have lu:(Z0.set j.toNat [DI t.fOp,DI t.fD,DI t.fA,DI t.fB,DI t.fN,DS t.fS,D.u]).length=n:=by rw[List.length_set,l1]
 have g2:=fun V T=>zZl u V T S j (by omega) (by omega) S 0 so1 rfl (by omega) (by omega) (by rw[hr];exact hsr)
 have hnr:Hv [I t2.fOp,I t2.fD,I t2.fA,I t2.fB,I t2.fN,Str t2.fS,.d (.s 1 (aP t2.fArgs))]=true:=by simp[Hv,X.noRC,D.noR,pJ]
 have e1:=dK so1
 have e2:=dK S
 have l3:(aP (S.foldl fgt so1)).length=m:=by rw[bH,cV,hs1]
 have e3:=nG (S.foldl fgt so1) t2.fD.toNat t2.fA
 have p3:t2.fOp=2→∃v,(aP (S.foldl fgt so1))[t2.fD.toNat]? = some [DI v]:=fun h=>⟨_,(eQ (zs:=S.foldl fgt so1) (hcp h).1 (by rw[cV,hs1];exact(hcp h).2)).1⟩
 simp only[fwH,vpU,eO] at g2
 unfold cpS
 simp only[xq',xq,ZA.o,ZA.xo] at g1 g3 p0 q1 ⊢
 generalize hZU:(Z0.set j.toNat [DI t.fOp,DI t.fD,DI t.fA,DI t.fB,DI t.fN,DS t.fS,D.u])=ZU at *
 generalize aP S=ZS at *
 generalize S.foldl fgt so1=sF at *
 conv=>lhs;unfold loopW;arg 1;unfold d6
 by_cases c2:t2.fOp=2
 ·obtain⟨v,hv⟩:=p3 c2
  obtain⟨b0,b1⟩:=hcp c2
  rw[c2] at g1 g3 q1 hnr
  by_cases c3:t2.fD=t2.fA
  ·rw[if_neg (fun h=>h.2 c3)]
   simp only[c3] at g1 g3 q1 hnr
   by_cases c8:t.fOp=8
   ·rw[k8 c8] at g1 e1 g2
    simp only[c8] at g1 hZU pu
    simp -implicitDefEqProofs (disch:=first|assumption|omega|(simp only[aE,aF,aD,i64,sa,aB,lm,la,lc,ln];omega)) only[go_sem,simprocAttr,l1,p0,c8,gn,g1,hj,e1,hnr,hZU,pu,q1,lu,g3,e2,g2,c2,c3,l3]
   ·have e0:=k9 c8
    subst e0
    simp -implicitDefEqProofs (disch:=first|assumption|omega|(simp only[aE,aF,aD,i64,sa,aB,lm,la,lc,ln];omega)) only[go_sem,simprocAttr,l1,p0,c8,g1,hj,e1,hnr,hZU,pu,q1,lu,g3,e2,g2,c2,c3,l3]
  ·rw[if_pos ⟨c2,c3⟩]
   by_cases c8:t.fOp=8
   ·rw[k8 c8] at g1 e1 g2
    simp only[c8] at g1 hZU pu
    simp -implicitDefEqProofs (disch:=first|assumption|omega|(simp only[aE,aF,aD,i64,sa,aB,lm,la,lc,ln];omega)) only[go_sem,simprocAttr,l1,p0,c8,gn,g1,hj,e1,hnr,hZU,pu,q1,lu,g3,e2,g2,c2,c3,hv,e3,l3]
   ·have e0:=k9 c8
    subst e0
    simp -implicitDefEqProofs (disch:=first|assumption|omega|(simp only[aE,aF,aD,i64,sa,aB,lm,la,lc,ln];omega)) only[go_sem,simprocAttr,l1,p0,c8,g1,hj,e1,hnr,hZU,pu,q1,lu,g3,e2,g2,c2,c3,hv,e3,l3]
 ·rw[if_neg (fun h=>c2 h.1)]
  by_cases c8:t.fOp=8
  ·rw[k8 c8] at g1 e1 g2
   simp only[c8] at g1 hZU pu
   simp -implicitDefEqProofs (disch:=first|assumption|omega|(simp only[aE,aF,aD,i64,sa,aB,lm,la,lc,ln];omega)) only[go_sem,simprocAttr,l1,p0,c8,gn,g1,hj,e1,hnr,hZU,pu,q1,lu,g3,e2,g2,c2,l3]
  ·have e0:=k9 c8
   subst e0
   simp -implicitDefEqProofs (disch:=first|assumption|omega|(simp only[aE,aF,aD,i64,sa,aB,lm,la,lc,ln];omega)) only[go_sem,simprocAttr,l1,p0,c8,g1,hj,e1,hnr,hZU,pu,q1,lu,g3,e2,g2,c2,l3]
theorem zwQ(so t):aY (bB so t)=aY t:=by
 unfold aY
 by_cases c:t.fOp=19
 ·have c2:(bB so t).fOp=19:=c
  rw[if_pos c,if_pos c2]
  simp[bB,hb,c]
 ·have c2:¬(bB so t).fOp=19:=c
  rw[if_neg c,if_neg c2]
  rfl
theorem Ri{m:Nat}{so:List Int}(h:so.length=m)(t:ZA):(Fa m so t).1.length=m:=by
 have e:∀so1:List Int,so1.length=m→(if (bB so1 t).fOp=2∧(bB so1 t).fD≠(bB so1 t).fA then((aY (bB so1 t)).foldl fgt so1).set (bB so1 t).fD.toNat (bB so1 t).fA else(aY (bB so1 t)).foldl fgt so1).length=m:=fun so1 h1=>by
  split
  ·rw[List.length_set,cV,h1]
  ·rw[cV,h1]
 unfold Fa
 split
 ·exact e _ (by simp)
 ·exact e so h
theorem Qj{m:Nat}{so so1:List Int}{t:ZA}(h8:t.fOp=8→so1=List.replicate m (-1))(h9:t.fOp≠8→so1=so):Fa m so t=(cpS (bB so1 t) ((aY (bB so1 t)).foldl fgt so1),bB so1 t):=by
 unfold Fa
 by_cases c:t.fOp=8
 ·rw[if_pos c,←h8 c]
  rfl
 ·rw[if_neg c,←h9 c]
  rfl
theorem zJ5{m:Nat}{t:ZA}(hf:ROk m t)(so:List Int)(h:(bB so t).fOp=2):0≤(bB so t).fD∧(bB so t).fD<(m:Int):=by
 have:hb t 1=true:=wR (t:=t) h (by decide)
 exact hf.s t.fD (by simp[aY,this])
theorem zQu(u:ZB)(m:Nat)(hm:m≤250)(hr:u.fRegs=m):∀(Bl:List ZA) (j:Int) (A:List ZA) (so:List Int),(A.length:Int)=j→A.length+Bl.length≤900→so.length=m→(∀t∈Bl,ROk m t) →
  loopW tab [1,2,3,4,5] d6 (sfS u ((A++Bl).map ZA.o) so j) =
  some (.ext 0,{env:=upd (upd emp 3 (some (.ptr (0,1) [] 0 0))) 2 (some (.ptr (0,0) [] 0 0)),heap:=upd (upd emp (0,1) (some (eO u (.s 7 ((A++yQ m so Bl).map ZA.o))))) (0,0) (some pL),fr:=0,next:=2})
 |[],j,A,so,hA,hAB,hso,hf=>by
  simp only[yQ,zqe]
  have l1:(A.map ZA.o).length=A.length:=List.length_map _
  generalize A.map ZA.o=Y at *
  unfold loopW
  conv=>lhs;arg 1;unfold d6
  simp -implicitDefEqProofs (disch:=first|assumption|omega|(simp only[aE,aF,aD,i64,sa,aB,lm,la,lc,ln];omega)) only[go_sem,simprocAttr,l1,show ¬j<(A.length:Int) by omega]
 |t::Bl,j,A,so,hA,hAB,hso,hf=>by
  have hft:=hf t (by simp)
  rw[lc] at hAB
  have p0:((A++t::Bl).map ZA.o)[j.toNat]? = some t.o:=by
   rw[List.getElem?_map,List.getElem?_append_right (by omega),show j.toNat-A.length=0 by omega];rfl
  have l1:((A++t::Bl).map ZA.o).length=A.length+(Bl.length+1):=by simp
  have p1:∀t2:ZA,((A++t::Bl).map ZA.o).set j.toNat t2.o=(A++t2::Bl).map ZA.o:=fun t2=>by
   rw[List.map_append,List.map_append,List.set_append_right _ _ (by rw[lm];omega),lm,show j.toNat-A.length=0 by omega]
   rfl
  obtain⟨so1,hs1,k8,k9⟩:∃so1:List Int,so1.length=m∧(t.fOp=8→so1=List.replicate m (-1))∧(t.fOp≠8→so1=so):=by
   by_cases c:t.fOp=8
   ·exact⟨_,by simp,fun _=>rfl,fun h=>absurd c h⟩
   ·exact⟨so,hso,fun h=>absurd h c,fun _=>rfl⟩
  have e:=Qj (m:=m) k8 k9
  have st:=zZu u m hm hr so so1 t (bB so1 t) (aY (bB so1 t)) _ j _ (by omega) (by omega) (by omega) l1 p0 hs1 k8 k9 (E8 t so1 (by omega) (by rw[hs1];exact hft)) (Lp _) (Dv _) (fun r hr=>hft.s r (by rwa [zwQ] at hr)) (zJ5 hft so1)
  have ih:=zQu u m hm hr Bl (j+1) (A++[(Fa m so t).2]) (Fa m so t).1 (by simp;omega) (by simp;omega) (Ri hso t) (fun t ht=>hf t (by simp[ht]))
  simp only[zqc,List.cons_append,zqf] at ih
  rw[yQ,←ih,st,p1,e]
set_option maxRecDepth 8000
set_option maxHeartbeats 16000000
theorem Uv{u:ZB}(hu:lG u=true){t:ZA}(ht:t∈u.fCode):ROk u.fRegs.toNat t:=by
 have hr:=gB hu
 have hh:=zQ hr ht
 have hg:=hr.regs
 have ha:qY t=true:=by
  simp only[lG,bE] at hu
  obtain⟨k,hk⟩:=List.mem_iff_getElem?.1 ht
  have:=B4 u u.fCode 0 hu.1.2 k t hk
  simp only[yR,O9,bE] at this
  exact this.1.1.1.1.1.1.1.1.1.2
 refine⟨fun r h=> ?_,fun r h=> ?_,fun h=> ?_,fun h=> ?_,?_⟩
 ·have:=hh r (List.mem_append_right _ h);omega
 ·have:=hh r (List.mem_append_left _ h);omega
 ·rw[qY,if_pos h] at ha
  simp only[bE,Bool.or_eq_true,zqd] at ha
  omega
 ·have n19:t.fOp≠19:=fun e=>h (wR e (by decide))
  have n22:t.fOp≠22:=fun e=>h (wR e (by decide))
  have n11:t.fOp≠11:=fun e=>h (wR e (by decide))
  have n14:t.fOp≠14:=fun e=>h (wR e (by decide))
  rw[qY,if_neg n19,if_neg n22,if_neg (by omega)] at ha
  simp only[zqd] at ha
  exact List.eq_nil_of_length_eq_zero (by omega)
 ·unfold qY at ha
  split at ha
  ·simp only[bE,Bool.or_eq_true,zqd] at ha;omega
  ·split at ha
   ·simp only[zqd] at ha;omega
   ·split at ha
    ·simp only[zqd] at ha;omega
    ·simp only[zqd] at ha;omega
def Et(u:ZB):ZB:=if lG u=true then⟨u.fName,u.fParams,u.fRegs,yQ u.fRegs.toNat (List.replicate u.fRegs.toNat (-1)) u.fCode⟩ else u
theorem Gt(u:ZB)(hs:u.sm):call tab oQ [u.x]=some (Et u).xo:=by
 have g0:=gR u hs
 have g1:=l8 u hs
 by_cases hu:lG u=true
 ·have hr:=gB hu
  rw[hu] at g1
  obtain⟨r0,r1⟩:=hr.regs
  have gn:=zjz u.fRegs r0 (by omega)
  have g2:=zQu u u.fRegs.toNat (by omega) (by omega) u.fCode 0 [] (List.replicate u.fRegs.toNat (-1)) rfl (by have:=hr.len.2;simpa using this) (by simp) (fun t ht=>Uv hu ht)
  simp only[sfS,vpU,eO,zqf] at g2
  rw[Et,if_pos hu]
  simp only[ZB.xo]
  generalize (yQ u.fRegs.toNat (List.replicate u.fRegs.toNat (-1)) u.fCode).map ZA.o=Z at *
  rw[aQ xG _ rfl,pS]
  simp -implicitDefEqProofs (disch:=first|assumption|omega|(simp only[aE,aF,aD,i64,sa,aB,lm,la,lc,ln];omega)) only[go_sem,simprocAttr,g0,g1,gn,g2]
 ·rw[Bool.not_eq_true] at hu
  rw[hu] at g1
  rw[Et,if_neg (by rw[hu];simp),aQ xG _ rfl,pS]
  simp -implicitDefEqProofs (disch:=first|assumption|omega|(simp only[aE,aF,aD,i64,sa,aB,lm,la,lc,ln];omega)) only[go_sem,simprocAttr,g0,g1]
end Go.Ev.G
