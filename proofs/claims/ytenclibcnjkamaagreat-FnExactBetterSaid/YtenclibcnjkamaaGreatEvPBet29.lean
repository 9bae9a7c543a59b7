import Derived.Test.YtenclibcnjkamaaGreatEvPBet22
set_option linter.all false
namespace Go.Ev.G
set_option maxRecDepth 8000
set_option maxHeartbeats 16000000
theorem mL(all:List ZA)(t:ZA)(ts:List ZA):nC kT all (t::ts)=(if (!decide (t.fOp=8)||goG kT all t.fN)=true then [t] else [])++nC kT all ts:=rfl
theorem yV{fr:Nat}{h:Heap}{id:Id}{x:Option D}(hi:id.1<fr)(hh:bA fr h=h):bA fr (upd h id x)=upd h id x:=by
 funext k
 have e:=congrFun hh k
 simp only[bA,upd] at e ⊢
 by_cases c:k=id
 ·subst c
  simp[show ¬k.1=fr by omega]
 ·simp only[if_neg c]
  exact e
abbrev inS(L:List ZA)(V:List (List D))(j:Int):St:={env:=upd (upd (upd (upd (upd emp 10 (some (I j))) 9 (some (I (L.length:Int)))) 8 (some (.d (.r (L.map ZA.uu))))) 3 (some (.ref (0,0) []))) 0 (some (.d (.r (L.map ZA.uu)))),heap:=upd emp (0,0) (some (.s 7 V)),fr:=0,next:=1}
theorem zXM(L:List ZA)(hl:L.length≤900)(t:ZA)(Bl:List ZA)(j:Nat)(V:List (List D))(hd:L.drop j=t::Bl)(hV:V.length≤j) :
  loopW tab [0,3,8,9,10] cB (inS L V (j:Int))=loopW tab [0,3,8,9,10] cB (inS L (if (!decide (t.fOp=8)||goG kT L t.fN)=true then V++[t.uu] else V) ((j:Int)+1)):=by
 obtain⟨ht,hlen,hd2⟩:=eK hd
 have p0:(L.map ZA.uu)[j]? = some t.uu:=by rw[List.getElem?_map,ht];rfl
 have l0:(L.map ZA.uu).length=L.length:=List.length_map _
 have gk:∀n1:Nat,1≤n1→bA n1 (upd (upd emp (0,0) (some (.s 7 V))) (0,97) (some (.s 7 [t.uu])))=upd (upd emp (0,0) (some (.s 7 V))) (0,97) (some (.s 7 [t.uu])):=fun n1 h1=>yV h1 (yV h1 (kV _))
 have gc:=zXI l6 0 97 (zM t.fN) _ 1 (gk 1 (by omega)) (gk 2 (by omega)) (by omega) L hl (fun x _=>wK t x _ 0 97 .u _ 3 (gk 3 (by omega)) (by omega) (by simp[upd];rfl))
 rw[←Qr] at gc
 simp only[inS]
 generalize L.map ZA.uu=R at *
 simp only[ZA.uu] at p0 gc ⊢
 conv=>lhs;unfold loopW;arg 1;unfold cB
 by_cases c8:t.fOp=8
 ·simp only[c8,decide_true,Bool.not_true,Bool.false_or] at p0 ⊢
  simp only[c8] at gc
  cases g:goG kT L t.fN<;>rw[g] at gc<;>simp only[if_true,Bool.false_eq_true,if_false]<;>simp -implicitDefEqProofs (disch:=first|assumption|omega|(simp only[aE,aF,aD,i64,sa,aB,lm,la,lc,ln];omega)) only[go_sem,simprocAttr,p0,l0,c8,gc,show((j:Int)<L.length) by omega]
 ·simp only[c8,decide_false,Bool.not_false,Bool.true_or,if_true]
  simp -implicitDefEqProofs (disch:=first|assumption|omega|(simp only[aE,aF,aD,i64,sa,aB,lm,la,lc,ln];omega)) only[go_sem,simprocAttr,p0,l0,c8,show((j:Int)<L.length) by omega]
theorem zWQ(L:List ZA)(hl:L.length≤900):∀(Bl:List ZA) (j:Nat) (V:List (List D)),L.drop j=Bl→V.length≤j →
  loopW tab [0,3,8,9,10] cB (inS L V (j:Int))=some (.ext 0,{env:=upd emp 3 (some (.ref (0,0) [])),heap:=upd emp (0,0) (some (.s 7 (V++(nC kT L Bl).map ZA.uu))),fr:=0,next:=1})
 |[],j,V,hd,hV=>by
  have:=drop_nil hd
  simp only[nC,mn,zqe,inS]
  generalize L.map ZA.uu=R at *
  unfold loopW
  conv=>lhs;arg 1;unfold cB
  simp -implicitDefEqProofs (disch:=first|assumption|omega|(simp only[aE,aF,aD,i64,sa,aB,lm,la,lc,ln];omega)) only[go_sem,simprocAttr,show ¬((j:Int)<L.length) by omega]
 |t::Bl,j,V,hd,hV=>by
  rw[zXM L hl t Bl j V hd hV,mL]
  have ih:=fun V2 (h2:V2.length≤j+1)=>zWQ L hl Bl (j+1) V2 (eK hd).2.2 h2
  rw[show(((j+1:Nat)):Int)=(j:Int)+1 by omega] at ih
  by_cases c:(!decide (t.fOp=8)||goG kT L t.fN)=true
  ·rw[if_pos c,if_pos c,List.map_append,mc,mn,←List.append_assoc,←ih _ (by simp;omega)]
  ·rw[if_neg c,if_neg c,zqf,←ih _ (by omega)]
theorem Ps(L:List ZA)(hl:L.length≤900):call tab pT [.d (.r (L.map ZA.uu))]=some (.d (.s 7 ((nC kT L L).map ZA.uu))):=by
 have g:=zWQ L hl L 0 [] rfl (by simp)
 have l0:(L.map ZA.uu).length=L.length:=List.length_map _
 simp only[inS,zqf,show((0:Nat):Int)=0 from rfl] at g
 generalize (nC kT L L).map ZA.uu=V at *
 generalize L.map ZA.uu=R at *
 rw[aQ C1 _ rfl,uS]
 simp -implicitDefEqProofs (disch:=first|assumption|omega|(simp only[aE,aF,aD,i64,sa,aB,lm,la,lc,ln];omega)) only[go_sem,simprocAttr,g,l0]
theorem z9x(a b z a2 b2:Option D):upd (upd (upd (upd (upd emp (0,0) a) (1,0) b) (1,97) z) (0,0) a2) (1,97) b2=upd (upd (upd emp (0,0) a2) (1,0) b) (1,97) b2:=by
 funext k
 simp only[upd]
 by_cases h1:k=(1,97)
 ·simp only[if_pos h1]
 ·by_cases h2:k=(0,0)
  ·simp only[if_neg h1,if_pos h2]
   simp[h2]
  ·simp only[if_neg h1,if_neg h2]
abbrev zqo(Z V:List (List D))(n:Nat)(j:Int):St:={env:=upd (upd (upd (upd (upd emp 10 (some (I j))) 9 (some (I (n:Int)))) 8 (some (.ref (0,0) []))) 3 (some (.ref (1,0) []))) 0 (some (.ref (0,0) [])),heap:=upd (upd emp (0,0) (some (.s 7 Z))) (1,0) (some (.s 7 V)),fr:=1,next:=1}
theorem zVY(A B:List ZA)(i:Nat)(x:ZA)(h:(A++B)[i]? = some x):(A.map ZA.uu++B.map ZA.o)[i]? = some x.uu∨(A.map ZA.uu++B.map ZA.o)[i]? = some x.o:=by
 by_cases c:i<A.length
 ·left
  rw[List.getElem?_append_left (by simpa using c),List.getElem?_map]
  rw[List.getElem?_append_left c] at h
  rw[h];rfl
 ·right
  rw[List.getElem?_append_right (by rw[lm];omega),lm,List.getElem?_map]
  rw[List.getElem?_append_right (by omega)] at h
  rw[h];rfl
theorem zYz(A:List ZA)(t:ZA)(Bl:List ZA)(hl:A.length+Bl.length+1≤900)(V:List (List D))(hV:V.length≤A.length)(n:Nat)(hn:n=A.length+(Bl.length+1))(L:List ZA)(hL:L=A++t::Bl) :
  loopW tab [0,3,8,9,10] cB (zqo (A.map ZA.uu++(t::Bl).map ZA.o) V n (A.length:Int))=loopW tab [0,3,8,9,10] cB (zqo ((A++[t]).map ZA.uu++Bl.map ZA.o) (if (!decide (t.fOp=8)||goG kT L t.fN)=true then V++[t.o] else V) n ((A.length:Int)+1)):=by
 obtain⟨p0,q0,l0⟩:=K0 A t Bl
 have l1:((A++[t]).map ZA.uu++Bl.map ZA.o).length=A.length+(Bl.length+1):=by
  rw[la,lm,lm,la,zqa]
  omega
 have hdr:=bI
 have gk:∀n1:Nat,2≤n1→bA n1 (upd (upd (upd emp (0,0) (some (.s 7 ((A++[t]).map ZA.uu++Bl.map ZA.o)))) (1,0) (some (.s 7 V))) (1,97) (some (.s 7 [t.o])))=upd (upd (upd emp (0,0) (some (.s 7 ((A++[t]).map ZA.uu++Bl.map ZA.o)))) (1,0) (some (.s 7 V))) (1,97) (some (.s 7 [t.o])):=fun n1 h1=>yV h1 (yV h1 (yV (Nat.lt_of_lt_of_le (by decide) h1) (kV _)))
 have gc:=zY6 l6 1 97 (zM t.fN) _ 2 (gk 2 (by omega)) (gk 3 (by omega)) (by omega) L (by rw[hL];simp;omega) ((A++[t]).map ZA.uu++Bl.map ZA.o) (by rw[l1,hL];simp) (fun i x h=>zVY (A++[t]) Bl i x (by rw[zqc,List.singleton_append,←hL];exact h)) (by simp[upd]) (fun x _ c=>wK t x c 1 97 (.s 1 (aP t.fArgs)) _ 4 (gk 4 (by omega)) (by omega) (by simp[upd];rfl))
 rw[←Qr] at gc
 simp only[zqo]
 generalize A.map ZA.uu++(t::Bl).map ZA.o=R at *
 generalize (A++[t]).map ZA.uu++Bl.map ZA.o=R2 at *
 simp only[ZA.uu,ZA.o] at p0 q0 gc ⊢
 conv=>lhs;unfold loopW;arg 1;unfold cB
 by_cases c8:t.fOp=8
 ·simp only[c8,decide_true,Bool.not_true,Bool.false_or] at p0 q0 gc ⊢
  cases g:goG kT L t.fN<;>rw[g] at gc<;>simp only[if_true,Bool.false_eq_true,if_false]<;>simp -implicitDefEqProofs (disch:=first|assumption|omega|(simp only[aE,aF,aD,i64,sa,aB,lm,la,lc,ln];omega)) only[go_sem,simprocAttr,p0,q0,l0,l1,c8,gc,hdr,z9x,show((A.length:Int)<n) by omega]
 ·simp only[c8,decide_false,Bool.not_false,Bool.true_or,if_true]
  simp -implicitDefEqProofs (disch:=first|assumption|omega|(simp only[aE,aF,aD,i64,sa,aB,lm,la,lc,ln];omega)) only[go_sem,simprocAttr,p0,q0,l0,l1,c8,hdr,show((A.length:Int)<n) by omega]
theorem zYt(n:Nat)(hn:n≤900)(L:List ZA):∀(Bl A:List ZA) (V:List (List D)),L=A++Bl→n=A.length+Bl.length→V.length≤A.length →
  loopW tab [0,3,8,9,10] cB (zqo (A.map ZA.uu++Bl.map ZA.o) V n (A.length:Int))=some (.ext 0,{env:=upd emp 3 (some (.ref (1,0) [])),heap:=upd (upd emp (0,0) (some (.s 7 (L.map ZA.uu)))) (1,0) (some (.s 7 (V++(nC kT L Bl).map ZA.o))),fr:=1,next:=1})
 |[],A,V,hL,hA,hV=>by
  have hdr:=bI
  rw[ln] at hA
  rw[zqe] at hL
  subst hL
  simp only[nC,mn,zqe,zqo]
  generalize L.map ZA.uu=R at *
  unfold loopW
  conv=>lhs;arg 1;unfold cB
  simp -implicitDefEqProofs (disch:=first|assumption|omega|(simp only[aE,aF,aD,i64,sa,aB,lm,la,lc,ln];omega)) only[go_sem,simprocAttr,hdr,show ¬((L.length:Int)<n) by omega]
 |t::Bl,A,V,hL,hA,hV=>by
  rw[lc] at hA
  rw[zYz A t Bl (by omega) V hV n hA L hL,mL]
  have ih:=fun V2 (h2:V2.length≤A.length+1)=>zYt n hn L Bl (A++[t]) V2 (by rw[hL];simp) (by simp;omega) (by simpa using h2)
  rw[la,zqa,show(((A.length+1:Nat)):Int)=(A.length:Int)+1 by omega] at ih
  by_cases c:(!decide (t.fOp=8)||goG kT L t.fN)=true
  ·rw[if_pos c,if_pos c,List.map_append (l₁:=[t]),show([t]:List ZA).map ZA.o=[t.o] from rfl,←List.append_assoc V,←ih _ (by simp;omega)]
  ·rw[if_neg c,if_neg c,zqf,←ih _ (by omega)]
theorem Qb(L:List ZA)(hl:L.length≤900):evCW tab pT [.ref (0,0) []] (upd emp (0,0) (some (.s 7 (L.map ZA.o)))) 1=some (.d (.s 7 ((nC kT L L).map ZA.o)),upd emp (0,0) (some (.s 7 (L.map ZA.uu)))):=by
 have g:=zYt L.length hl L L [] [] rfl (by simp) (by simp)
 have l0:(L.map ZA.o).length=L.length:=List.length_map _
 have hdr:=bI
 simp only[zqo,zqf,mn,ln,show((0:Nat):Int)=0 from rfl] at g
 generalize (nC kT L L).map ZA.o=V at *
 generalize L.map ZA.uu=R2 at *
 generalize L.map ZA.o=R at *
 rw[bW C1 _ _ _ rfl,uS]
 simp -implicitDefEqProofs (disch:=first|assumption|omega|(simp only[aE,aF,aD,i64,sa,aB,lm,la,lc,ln];omega)) only[go_sem,simprocAttr,g,l0,hdr]
set_option maxRecDepth 8000
set_option maxHeartbeats 16000000
def ZA.q(x:ZA)(c:D):List D:=[DI x.fOp,DI x.fD,DI x.fA,DI x.fB,DI x.fN,DS x.fS,c]
structure RowOf (L:List ZA) (R:List (List D)):Prop where
 len:R.length=L.length
 at':∀(i:Nat) (x:ZA),L[i]? = some x→∃c,R[i]? = some (x.q c)
theorem RowOf.uu(L:List ZA):RowOf L (L.map ZA.uu):=⟨List.length_map _,fun i x h=>⟨.u,by rw[List.getElem?_map,h];rfl⟩⟩
theorem RowOf.o(L:List ZA):RowOf L (L.map ZA.o):=⟨List.length_map _,fun i x h=>⟨.s 1 (aP x.fArgs),by rw[List.getElem?_map,h];rfl⟩⟩
theorem zjc:∀(R:List (List D)) (i:Nat),(fzs R)[i]? = (R[i]?).map fzl
 |[],i=>by simp[Ev.fzs]
 |r::R,0=>by simp[Ev.fzs]
 |r::R,i+1=>by rw[Ev.fzs,List.getElem?_cons_succ,List.getElem?_cons_succ,zjc R i]
theorem qQ:∀(R:List (List D)),(fzs R).length=R.length
 |[]=>by simp[Ev.fzs]
 |r::R=>by rw[Ev.fzs,lc,lc,qQ R]
theorem RowOf.fz{L:List ZA}{R:List (List D)}(h:RowOf L R):RowOf L (fzs R):=by
 refine⟨by rw[qQ,h.len],fun i x hi=> ?_⟩
 obtain⟨c,hc⟩:=h.at' i x hi
 refine⟨c.fz,?_⟩
 rw[zjc,hc]
 simp only[oms,ZA.q,Ev.fzl,D.fz]
theorem zz9(L:List ZA)(hl:L.length≤900)(R:List (List D))(hR:RowOf L R)(n:Int):∀(Bl:List ZA) (j:Nat),L.drop j=Bl →
  loopW tab [0,1,5] cT {env:=upd (upd (upd emp 5 (some (I (j:Int)))) 1 (some (I n))) 0 (some (.d (.r R))),heap:=emp,fr:=0,next:=0} =
  if Bl.any (zM n)=true then some (.ret,{env:=upd emp 4 (some (B true)),heap:=emp,fr:=0,next:=0}) else some (.ext 0,{env:=emp,heap:=emp,fr:=0,next:=0})
 |[],j,hd=>by
  have:=drop_nil hd
  have l0:=hR.len
  simp only[List.any_nil,Bool.false_eq_true,if_false]
  unfold loopW
  conv=>lhs;arg 1;unfold cT
  simp -implicitDefEqProofs (disch:=first|assumption|omega|(simp only[aE,aF,aD,i64,sa,aB,lm,la,lc,ln];omega)) only[go_sem,simprocAttr,l0,show ¬((j:Int)<L.length) by omega]
 |t::Bl,j,hd=>by
  obtain⟨ht,hlen,hd2⟩:=eK hd
  have l0:=hR.len
  obtain⟨c,p0⟩:=hR.at' j t ht
  simp only[ZA.q] at p0
  have ih:=zz9 L hl R hR n Bl (j+1) hd2
  rw[show(((j+1:Nat)):Int)=(j:Int)+1 by omega] at ih
  rw[List.any_cons]
  unfold zM
  by_cases c9:t.fOp=9
  ·by_cases cn:t.fN=n
   ·simp only[c9,cn,decide_true,Bool.true_or,bat,if_true]
    conv=>lhs;unfold loopW;arg 1;unfold cT
    simp -implicitDefEqProofs (disch:=first|assumption|omega|(simp only[aE,aF,aD,i64,sa,aB,lm,la,lc,ln];omega)) only[go_sem,simprocAttr,p0,l0,c9,cn,show((j:Int)<L.length) by omega]
   ·simp only[c9,cn,decide_true,decide_false,Bool.true_or,Cc,Bool.false_or]
    rw[show(fun x:ZA=>(decide (x.fOp=9)||decide (x.fOp=10))&&decide (x.fN=n))=zM n from rfl,←ih]
    conv=>lhs;unfold loopW;arg 1;unfold cT
    simp -implicitDefEqProofs (disch:=first|assumption|omega|(simp only[aE,aF,aD,i64,sa,aB,lm,la,lc,ln];omega)) only[go_sem,simprocAttr,p0,l0,c9,cn,show((j:Int)<L.length) by omega]
  ·by_cases c10:t.fOp=10
   ·by_cases cn:t.fN=n
    ·simp only[c10,cn,decide_true,Bool.or_true,bat,Bool.true_or,if_true]
     conv=>lhs;unfold loopW;arg 1;unfold cT
     simp -implicitDefEqProofs (disch:=first|assumption|omega|(simp only[aE,aF,aD,i64,sa,aB,lm,la,lc,ln];omega)) only[go_sem,simprocAttr,p0,l0,c10,cn,show((j:Int)<L.length) by omega]
    ·simp only[c10,cn,decide_true,decide_false,Bool.or_true,Cc,Bool.false_or]
     rw[show(fun x:ZA=>(decide (x.fOp=9)||decide (x.fOp=10))&&decide (x.fN=n))=zM n from rfl,←ih]
     conv=>lhs;unfold loopW;arg 1;unfold cT
     simp -implicitDefEqProofs (disch:=first|assumption|omega|(simp only[aE,aF,aD,i64,sa,aB,lm,la,lc,ln];omega)) only[go_sem,simprocAttr,p0,l0,c10,cn,show((j:Int)<L.length) by omega]
   ·simp only[c9,c10,decide_false,Bool.or_false,bfa,Bool.false_or]
    rw[show(fun x:ZA=>(decide (x.fOp=9)||decide (x.fOp=10))&&decide (x.fN=n))=zM n from rfl,←ih]
    conv=>lhs;unfold loopW;arg 1;unfold cT
    simp -implicitDefEqProofs (disch:=first|assumption|omega|(simp only[aE,aF,aD,i64,sa,aB,lm,la,lc,ln];omega)) only[go_sem,simprocAttr,p0,l0,c9,c10,show((j:Int)<L.length) by omega]
theorem v6(L:List ZA)(hl:L.length≤900)(R:List (List D))(hR:RowOf L R)(n:Int):call tab uW [.d (.r R),I n]=some (B (goG kT L n)):=by
 have g:=zz9 L hl R hR n L 0 rfl
 rw[show((0:Nat):Int)=0 from rfl] at g
 rw[Qr,aQ Jz _ rfl,zL]
 cases e:L.any (zM n)<;>rw[e] at g<;>simp only[if_true,Bool.false_eq_true,if_false] at g<;>simp -implicitDefEqProofs (disch:=first|assumption|omega|(simp only[aE,aF,aD,i64,sa,aB,lm,la,lc,ln];omega)) only[go_sem,simprocAttr,g]
theorem wS(L:List ZA)(hl:L.length≤900)(R:List (List D))(hR:RowOf L R):call tab vJ [.d (.r R)]=some (B (wD kT L)):=by
 have l0:=hR.len
 rw[aQ Ib _ rfl,xA]
 unfold wD
 cases e:L.getLast? with
 |none =>
  rw[List.getLast?_eq_none_iff] at e
  subst e
  rw[ln] at l0
  simp -implicitDefEqProofs (disch:=first|assumption|omega|(simp only[aE,aF,aD,i64,sa,aB,lm,la,lc,ln];omega)) only[go_sem,simprocAttr,l0]
 |some t =>
  have hne:0<L.length:=by
   cases L with
   |nil=>simp at e
   |cons a l=>simp
  rw[List.getLast?_eq_getElem?] at e
  obtain⟨c,p0⟩:=hR.at' _ t e
  simp only[ZA.q] at p0
  have p1:R[((L.length:Int)-1).toNat]? = some [DI t.fOp,DI t.fD,DI t.fA,DI t.fB,DI t.fN,DS t.fS,c]:=by
   rw[show((L.length:Int)-1).toNat=L.length-1 by omega];exact p0
  simp only[kT,iJ]
  by_cases c1:t.fOp=12
  ·simp only[c1,decide_true,Bool.true_or] at p1 ⊢
   simp -implicitDefEqProofs (disch:=first|assumption|omega|(simp only[aE,aF,aD,i64,sa,aB,lm,la,lc,ln];omega)) only[go_sem,simprocAttr,l0,p1,c1,show((L.length:Int)>0) by omega,show(0<(L.length:Int)) by omega]
  ·by_cases c2:t.fOp=9
   ·simp only[c2,decide_true,Bool.true_or,Bool.or_true] at p1 ⊢
    simp -implicitDefEqProofs (disch:=first|assumption|omega|(simp only[aE,aF,aD,i64,sa,aB,lm,la,lc,ln];omega)) only[go_sem,simprocAttr,l0,p1,c2,show(0<(L.length:Int)) by omega]
   ·by_cases c3:t.fOp=28
    ·simp only[c3,decide_true,Bool.or_true] at p1 ⊢
     simp -implicitDefEqProofs (disch:=first|assumption|omega|(simp only[aE,aF,aD,i64,sa,aB,lm,la,lc,ln];omega)) only[go_sem,simprocAttr,l0,p1,c3,show(0<(L.length:Int)) by omega]
    ·simp only[c1,c2,c3,decide_false,Bool.or_false]
     simp -implicitDefEqProofs (disch:=first|assumption|omega|(simp only[aE,aF,aD,i64,sa,aB,lm,la,lc,ln];omega)) only[go_sem,simprocAttr,l0,p1,c1,c2,c3,show(0<(L.length:Int)) by omega]
set_option maxRecDepth 8000
set_option maxHeartbeats 16000000
abbrev s0S(L:List ZA)(V:List (List D))(o:Bool)(j:Int):St:={env:=upd (upd (upd (upd emp 5 (some (I j))) 4 (some (B (!o)))) 3 (some (.ref (0,0) []))) 0 (some (.d (.r (L.map ZA.uu)))),heap:=upd emp (0,0) (some (.s 7 V)),fr:=0,next:=1}
theorem z8c(L:List ZA)(hl:L.length≤900)(t:ZA)(Bl:List ZA)(j:Nat)(V:List (List D))(o:Bool)(hd:L.drop j=t::Bl)(hV:V.length≤j) :
  loopW tab [0,3,4,5] bN (s0S L V o (j:Int))=loopW tab [0,3,4,5] bN (s0S L (if nV o t=true then V++[t.uu] else V) (nV o t&& !iJ t.fOp) ((j:Int)+1)):=by
 obtain⟨ht,hlen,_⟩:=eK hd
 have p0:(L.map ZA.uu)[j]? = some t.uu:=by rw[List.getElem?_map,ht];rfl
 have l0:(L.map ZA.uu).length=L.length:=List.length_map _
 simp only[s0S]
 generalize L.map ZA.uu=R at *
 simp only[ZA.uu] at p0 ⊢
 unfold nV iJ
 conv=>lhs;unfold loopW;arg 1;unfold bN
 by_cases c8:t.fOp=8
 ·simp only[c8,decide_true,Bool.or_true,if_true] at p0 ⊢
  cases o<;>simp -implicitDefEqProofs (disch:=first|assumption|omega|(simp only[aE,aF,aD,i64,sa,aB,lm,la,lc,ln];omega)) only[go_sem,simprocAttr,p0,l0,c8,show((j:Int)<L.length) by omega]
 ·by_cases c9:t.fOp=9
  ·cases o<;>simp only[c9,decide_true,Bool.or_true,Bool.true_or,Bool.not_true,Cc] at p0 ⊢ <;> simp -implicitDefEqProofs (disch:=first|assumption|omega|(simp only[aE,aF,aD,i64,sa,aB,lm,la,lc,ln];omega)) only[go_sem,simprocAttr,p0,l0,c9,show((j:Int)<L.length) by omega]
  ·by_cases c12:t.fOp=12
   ·cases o<;>simp only[c12,decide_true,Bool.or_true,Bool.true_or,Bool.not_true,Cc] at p0 ⊢ <;> simp -implicitDefEqProofs (disch:=first|assumption|omega|(simp only[aE,aF,aD,i64,sa,aB,lm,la,lc,ln];omega)) only[go_sem,simprocAttr,p0,l0,c12,show((j:Int)<L.length) by omega]
   ·by_cases c28:t.fOp=28
    ·cases o<;>simp only[c28,decide_true,Bool.or_true,Bool.true_or,Bool.not_true,Cc] at p0 ⊢ <;> simp -implicitDefEqProofs (disch:=first|assumption|omega|(simp only[aE,aF,aD,i64,sa,aB,lm,la,lc,ln];omega)) only[go_sem,simprocAttr,p0,l0,c28,show((j:Int)<L.length) by omega]
    ·cases o<;>simp only[c8,c9,c12,c28,decide_false,Bool.or_false,Bool.false_eq_true,if_false,Bool.not_false,bat,if_true]<;>simp -implicitDefEqProofs (disch:=first|assumption|omega|(simp only[aE,aF,aD,i64,sa,aB,lm,la,lc,ln];omega)) only[go_sem,simprocAttr,p0,l0,c8,c9,c12,c28,show((j:Int)<L.length) by omega]
theorem z99(L:List ZA)(hl:L.length≤900):∀(Bl:List ZA) (j:Nat) (V:List (List D)) (o:Bool),L.drop j=Bl→V.length≤j →
  loopW tab [0,3,4,5] bN (s0S L V o (j:Int))=some (.ext 0,{env:=upd emp 3 (some (.ref (0,0) [])),heap:=upd emp (0,0) (some (.s 7 (V++(dC kT o Bl).map ZA.uu))),fr:=0,next:=1})
 |[],j,V,o,hd,hV=>by
  have:=drop_nil hd
  have l0:(L.map ZA.uu).length=L.length:=List.length_map _
  simp only[dC,mn,zqe,s0S]
  generalize L.map ZA.uu=R at *
  unfold loopW
  conv=>lhs;arg 1;unfold bN
  simp -implicitDefEqProofs (disch:=first|assumption|omega|(simp only[aE,aF,aD,i64,sa,aB,lm,la,lc,ln];omega)) only[go_sem,simprocAttr,l0,show ¬((j:Int)<L.length) by omega]
 |t::Bl,j,V,o,hd,hV=>by
  rw[z8c L hl t Bl j V o hd hV,mI]
  have ih:=fun V2 (h2:V2.length≤j+1)=>z99 L hl Bl (j+1) V2 (nV o t&& !iJ t.fOp) (eK hd).2.2 h2
  rw[show(((j+1:Nat)):Int)=(j:Int)+1 by omega] at ih
  by_cases c:nV o t=true
  ·rw[if_pos c,if_pos c,List.map_append,mc,mn,←List.append_assoc,←ih _ (by simp;omega)]
  ·rw[if_neg c,if_neg c,zqf,←ih _ (by omega)]
abbrev s1S(L:List ZA)(V:List (List D))(j:Int):St:={env:=upd (upd (upd emp 8 (some (I j))) 7 (some (.ref (0,1) []))) 3 (some (.ref (0,0) [])),heap:=upd (upd emp (0,1) (some (.s 7 V))) (0,0) (some (.s 7 (L.map ZA.uu))),fr:=0,next:=2}
theorem z98(L:List ZA)(hl:L.length≤900)(t:ZA)(Bl:List ZA)(j:Nat)(V:List (List D))(hd:L.drop j=t::Bl)(hV:V.length≤j) :
  loopW tab [3,7,8] bJ (s1S L V (j:Int))=loopW tab [3,7,8] bJ (s1S L (if lK kT t Bl=true then V else V++[t.uu]) ((j:Int)+1)):=by
 obtain⟨ht,hlen,hd2⟩:=eK hd
 have p0:(L.map ZA.uu)[j]? = some t.uu:=by rw[List.getElem?_map,ht];rfl
 have l0:(L.map ZA.uu).length=L.length:=List.length_map _
 have p1:∀(b:ZA) (Cl:List ZA),Bl=b::Cl→(L.map ZA.uu)[((j:Int)+1).toNat]? = some b.uu:=fun b Cl e=>by
  rw[show((j:Int)+1).toNat=j+1 by omega,List.getElem?_map,(eK (e ▸ hd2:L.drop (j+1)=b::Cl)).1];rfl
 simp only[s1S]
 generalize L.map ZA.uu=R at *
 simp only[ZA.uu] at p0 p1 ⊢
 conv=>lhs;unfold loopW;arg 1;unfold bJ
 by_cases c9:t.fOp=9
 ·cases Bl with
  |nil =>
   simp only[lK,Bool.false_eq_true,if_false]
   rw[ln] at hlen
   simp -implicitDefEqProofs (disch:=first|assumption|omega|(simp only[aE,aF,aD,i64,sa,aB,lm,la,lc,ln];omega)) only[go_sem,simprocAttr,p0,l0,c9,show((j:Int)<L.length) by omega,show ¬((j:Int)+1<L.length) by omega]
  |cons b Cl =>
   rw[lc] at hlen
   have p1:=p1 b Cl rfl
   simp only[lK,kT,c9,decide_true,bta]
   by_cases b8:b.fOp=8
   ·simp only[b8,decide_true,bta]
    by_cases bn:b.fN=t.fN
    ·simp only[bn,decide_true,if_true]
     simp -implicitDefEqProofs (disch:=first|assumption|omega|(simp only[aE,aF,aD,i64,sa,aB,lm,la,lc,ln];omega)) only[go_sem,simprocAttr,p0,l0,c9,p1,b8,bn,show((j:Int)<L.length) by omega,show((j:Int)+1<L.length) by omega]
    ·simp only[bn,decide_false,Bool.false_eq_true,if_false]
     simp -implicitDefEqProofs (disch:=first|assumption|omega|(simp only[aE,aF,aD,i64,sa,aB,lm,la,lc,ln];omega)) only[go_sem,simprocAttr,p0,l0,c9,p1,b8,bn,show((j:Int)<L.length) by omega,show((j:Int)+1<L.length) by omega]
   ·simp only[b8,decide_false,bfa,Bool.false_eq_true,if_false]
    simp -implicitDefEqProofs (disch:=first|assumption|omega|(simp only[aE,aF,aD,i64,sa,aB,lm,la,lc,ln];omega)) only[go_sem,simprocAttr,p0,l0,c9,p1,b8,show((j:Int)<L.length) by omega,show((j:Int)+1<L.length) by omega]
 ·have e:lK kT t Bl=false:=by cases Bl<;>simp[lK,kT,c9]
  rw[e]
  simp only[Bool.false_eq_true,if_false]
  simp -implicitDefEqProofs (disch:=first|assumption|omega|(simp only[aE,aF,aD,i64,sa,aB,lm,la,lc,ln];omega)) only[go_sem,simprocAttr,p0,l0,c9,show((j:Int)<L.length) by omega]
theorem z90(L:List ZA)(hl:L.length≤900):∀(Bl:List ZA) (j:Nat) (V:List (List D)),L.drop j=Bl→V.length≤j →
  loopW tab [3,7,8] bJ (s1S L V (j:Int))=some (.ext 2,{env:=upd emp 7 (some (.ref (0,0) [])),heap:=upd emp (0,0) (some (.s 7 (V++(fL kT Bl).map ZA.uu))),fr:=0,next:=1})
 |[],j,V,hd,hV=>by
  have:=drop_nil hd
  have l0:(L.map ZA.uu).length=L.length:=List.length_map _
  simp only[fL,mn,zqe,s1S]
  generalize L.map ZA.uu=R at *
  unfold loopW
  conv=>lhs;arg 1;unfold bJ
  simp -implicitDefEqProofs (disch:=first|assumption|omega|(simp only[aE,aF,aD,i64,sa,aB,lm,la,lc,ln];omega)) only[go_sem,simprocAttr,l0,show ¬((j:Int)<L.length) by omega]
 |t::Bl,j,V,hd,hV=>by
  rw[z98 L hl t Bl j V hd hV,mQ]
  have ih:=fun V2 (h2:V2.length≤j+1)=>z90 L hl Bl (j+1) V2 (eK hd).2.2 h2
  rw[show(((j+1:Nat)):Int)=(j:Int)+1 by omega] at ih
  by_cases c:lK kT t Bl=true
  ·rw[if_pos c,if_pos c,zqf,←ih _ (by omega)]
  ·rw[if_neg c,if_neg c,List.map_append,mc,mn,←List.append_assoc,←ih _ (by simp;omega)]
abbrev s2S(L:List ZA)(V:List (List D))(j:Int):St:={env:=upd (upd (upd emp 11 (some (I j))) 10 (some (.ref (0,1) []))) 7 (some (.ref (0,0) [])),heap:=upd (upd emp (0,1) (some (.s 7 V))) (0,0) (some (.s 7 (L.map ZA.uu))),fr:=0,next:=2}
theorem z9E(L:List ZA)(hl:L.length≤900)(t:ZA)(Bl:List ZA)(j:Nat)(V:List (List D))(hd:L.drop j=t::Bl)(hV:V.length≤j) :
  loopW tab [7,10,11] bL (s2S L V (j:Int))=loopW tab [7,10,11] bL (s2S L (if (!decide (t.fOp=8)||goG kT L t.fN)=true then V++[t.uu] else V) ((j:Int)+1)):=by
 obtain⟨ht,hlen,hd2⟩:=eK hd
 have p0:(L.map ZA.uu)[j]? = some t.uu:=by rw[List.getElem?_map,ht];rfl
 have l0:(L.map ZA.uu).length=L.length:=List.length_map _
 have gg:=v6 L hl _ (RowOf.uu L).fz t.fN
 simp only[s2S]
 generalize L.map ZA.uu=R at *
 simp only[ZA.uu] at p0 ⊢
 conv=>lhs;unfold loopW;arg 1;unfold bL
 by_cases c8:t.fOp=8
 ·simp only[c8,decide_true,Bool.not_true,Bool.false_or] at p0 ⊢
  cases g:goG kT L t.fN<;>rw[g] at gg<;>simp only[if_true,Bool.false_eq_true,if_false]<;>simp -implicitDefEqProofs (disch:=first|assumption|omega|(simp only[aE,aF,aD,i64,sa,aB,lm,la,lc,ln];omega)) only[go_sem,simprocAttr,p0,l0,c8,gg,show((j:Int)<L.length) by omega]
 ·simp only[c8,decide_false,Bool.not_false,Bool.true_or,if_true]
  simp -implicitDefEqProofs (disch:=first|assumption|omega|(simp only[aE,aF,aD,i64,sa,aB,lm,la,lc,ln];omega)) only[go_sem,simprocAttr,p0,l0,c8,show((j:Int)<L.length) by omega]
theorem z9z(L:List ZA)(hl:L.length≤900):∀(Bl:List ZA) (j:Nat) (V:List (List D)),L.drop j=Bl→V.length≤j →
  loopW tab [7,10,11] bL (s2S L V (j:Int))=some (.ext 4,{env:=upd emp 10 (some (.ref (0,0) [])),heap:=upd emp (0,0) (some (.s 7 (V++(nC kT L Bl).map ZA.uu))),fr:=0,next:=1})
 |[],j,V,hd,hV=>by
  have:=drop_nil hd
  have l0:(L.map ZA.uu).length=L.length:=List.length_map _
  simp only[nC,mn,zqe,s2S]
  generalize L.map ZA.uu=R at *
  unfold loopW
  conv=>lhs;arg 1;unfold bL
  simp -implicitDefEqProofs (disch:=first|assumption|omega|(simp only[aE,aF,aD,i64,sa,aB,lm,la,lc,ln];omega)) only[go_sem,simprocAttr,l0,show ¬((j:Int)<L.length) by omega]
 |t::Bl,j,V,hd,hV=>by
  rw[z9E L hl t Bl j V hd hV,mL]
  have ih:=fun V2 (h2:V2.length≤j+1)=>z9z L hl Bl (j+1) V2 (eK hd).2.2 h2
  rw[show(((j+1:Nat)):Int)=(j:Int)+1 by omega] at ih
  by_cases c:(!decide (t.fOp=8)||goG kT L t.fN)=true
  ·rw[if_pos c,if_pos c,List.map_append,mc,mn,←List.append_assoc,←ih _ (by simp;omega)]
  ·rw[if_neg c,if_neg c,zqf,←ih _ (by omega)]
theorem tN:∀(L:List ZA) (o:Bool),(dC kT o L).length≤L.length
 |[],o=>by simp[dC]
 |t::L,o=>by
  have:=tN L (nV o t&& !iJ t.fOp)
  rw[mI,la,lc]
  split<;>simp<;>omega
theorem s9:∀(L:List ZA),(fL kT L).length≤L.length
 |[]=>by simp[fL]
 |t::L=>by
  have:=s9 L
  rw[mQ,la,lc]
  split<;>simp<;>omega
theorem Ui(all:List ZA):∀(L:List ZA),(nC kT all L).length≤L.length
 |[]=>by simp[nC]
 |t::L=>by
  have:=Ui all L
  rw[mL,la,lc]
  split<;>simp<;>omega
theorem oV(L:List ZA):(cF kT L).length≤L.length:=by
 have h1:=tN L true
 have h2:=s9 (dC kT true L)
 have h3:=Ui (fL kT (dC kT true L)) (fL kT (dC kT true L))
 unfold cF
 omega
theorem H8(L:List ZA)(hl:L.length≤900):call tab lU [.d (.r (L.map ZA.uu))]=some (.d (.s 7 ((cF kT L).map ZA.uu))):=by
 have h1:=tN L true
 have h2:=s9 (dC kT true L)
 have g0:=z99 L hl L 0 [] true rfl (by simp)
 have g1:=z90 (dC kT true L) (by omega) (dC kT true L) 0 [] rfl (by simp)
 have g2:=z9z (fL kT (dC kT true L)) (by omega) (fL kT (dC kT true L)) 0 [] rfl (by simp)
 simp only[s0S,s1S,s2S,zqf,Bool.not_true,show((0:Nat):Int)=0 from rfl] at g0 g1 g2
 rw[←cF] at g2
 generalize (cF kT L).map ZA.uu=Z3 at *
 generalize (fL kT (dC kT true L)).map ZA.uu=Z2 at *
 generalize (dC kT true L).map ZA.uu=Z1 at *
 generalize L.map ZA.uu=R at *
 rw[aQ xB _ rfl,pM]
 simp -implicitDefEqProofs (disch:=first|assumption|omega|(simp only[aE,aF,aD,i64,sa,aB,lm,la,lc,ln];omega)) only[go_sem,simprocAttr,g0,g1,g2]
set_option maxRecDepth 8000
set_option maxHeartbeats 16000000
abbrev s0L(Z V:List (List D))(o:Bool)(j:Int):St:={env:=upd (upd (upd (upd emp 5 (some (I j))) 4 (some (B (!o)))) 3 (some (.ref (1,0) []))) 0 (some (.ref (0,0) [])),heap:=upd (upd emp (0,0) (some (.s 7 Z))) (1,0) (some (.s 7 V)),fr:=1,next:=1}
theorem z9L(A:List ZA)(t:ZA)(Bl:List ZA)(hl:A.length+Bl.length+1≤900)(V:List (List D))(o:Bool)(hV:V.length≤A.length) :
  loopW tab [0,3,4,5] bN (s0L (A.map ZA.uu++(t::Bl).map ZA.o) V o (A.length:Int))=loopW tab [0,3,4,5] bN (s0L ((A++[t]).map ZA.uu++Bl.map ZA.o) (if nV o t=true then V++[t.o] else V) (nV o t&& !iJ t.fOp) ((A.length:Int)+1)):=by
 obtain⟨p0,q0,l0⟩:=K0 A t Bl
 have hdr:=bI
 have hj:(A.length:Int)<((A.length+(Bl.length+1):Nat):Int):=by omega
 simp only[s0L]
 generalize A.map ZA.uu++(t::Bl).map ZA.o=R at *
 generalize (A++[t]).map ZA.uu++Bl.map ZA.o=R2 at *
 simp only[ZA.uu,ZA.o] at p0 q0 ⊢
 unfold nV iJ
 conv=>lhs;unfold loopW;arg 1;unfold bN
 by_cases c8:t.fOp=8
 ·simp only[c8,decide_true,Bool.or_true,if_true] at p0 q0 ⊢
  cases o<;>simp -implicitDefEqProofs (disch:=first|assumption|omega|(simp only[aE,aF,aD,i64,sa,aB,lm,la,lc,ln];omega)) only[go_sem,simprocAttr,p0,q0,l0,c8,hdr,hj]
 ·by_cases c9:t.fOp=9
  ·cases o<;>simp only[c9,decide_true,Bool.or_true,Bool.true_or,Bool.not_true,Cc] at p0 q0 ⊢ <;> simp -implicitDefEqProofs (disch:=first|assumption|omega|(simp only[aE,aF,aD,i64,sa,aB,lm,la,lc,ln];omega)) only[go_sem,simprocAttr,p0,q0,l0,c9,hdr,hj]
  ·by_cases c12:t.fOp=12
   ·cases o<;>simp only[c12,decide_true,Bool.or_true,Bool.true_or,Bool.not_true,Cc] at p0 q0 ⊢ <;> simp -implicitDefEqProofs (disch:=first|assumption|omega|(simp only[aE,aF,aD,i64,sa,aB,lm,la,lc,ln];omega)) only[go_sem,simprocAttr,p0,q0,l0,c12,hdr,hj]
   ·by_cases c28:t.fOp=28
    ·cases o<;>simp only[c28,decide_true,Bool.or_true,Bool.true_or,Bool.not_true,Cc] at p0 q0 ⊢ <;> simp -implicitDefEqProofs (disch:=first|assumption|omega|(simp only[aE,aF,aD,i64,sa,aB,lm,la,lc,ln];omega)) only[go_sem,simprocAttr,p0,q0,l0,c28,hdr,hj]
    ·cases o<;>simp only[c8,c9,c12,c28,decide_false,Bool.or_false,Bool.false_eq_true,if_false,Bool.not_false,bat,if_true]<;>simp -implicitDefEqProofs (disch:=first|assumption|omega|(simp only[aE,aF,aD,i64,sa,aB,lm,la,lc,ln];omega)) only[go_sem,simprocAttr,p0,q0,l0,c8,c9,c12,c28,hdr,hj]
theorem z9r:∀(Bl A:List ZA) (V:List (List D)) (o:Bool),A.length+Bl.length≤900→V.length≤A.length →
  loopW tab [0,3,4,5] bN (s0L (A.map ZA.uu++Bl.map ZA.o) V o (A.length:Int))=some (.ext 0,{env:=upd emp 3 (some (.ref (1,0) [])),heap:=upd (upd emp (0,0) (some (.s 7 ((A++Bl).map ZA.uu)))) (1,0) (some (.s 7 (V++(dC kT o Bl).map ZA.o))),fr:=1,next:=1})
 |[],A,V,o,hA,hV=>by
  have hdr:=bI
  have l0:(A.map ZA.uu).length=A.length:=List.length_map _
  simp only[dC,mn,zqe,s0L]
  generalize A.map ZA.uu=R at *
  unfold loopW
  conv=>lhs;arg 1;unfold bN
  simp -implicitDefEqProofs (disch:=first|assumption|omega|(simp only[aE,aF,aD,i64,sa,aB,lm,la,lc,ln];omega)) only[go_sem,simprocAttr,hdr,l0,show ¬((A.length:Int)<A.length) by omega]
 |t::Bl,A,V,o,hA,hV=>by
  rw[lc] at hA
  rw[z9L A t Bl (by omega) V o hV,mI]
  have ih:=fun V2 (h2:V2.length≤A.length+1)=>z9r Bl (A++[t]) V2 (nV o t&& !iJ t.fOp) (by simp;omega) (by simpa using h2)
  rw[la,zqa,show(((A.length+1:Nat)):Int)=(A.length:Int)+1 by omega,zqc,List.singleton_append] at ih
  by_cases c:nV o t=true
  ·rw[if_pos c,if_pos c,List.map_append (l₁:=[t]),show([t]:List ZA).map ZA.o=[t.o] from rfl,←List.append_assoc V,←ih _ (by simp;omega)]
  ·rw[if_neg c,if_neg c,zqf,←ih _ (by omega)]
abbrev s1L(W Z V:List (List D))(j:Int):St:={env:=upd (upd (upd emp 8 (some (I j))) 7 (some (.ref (1,1) []))) 3 (some (.ref (1,0) [])),heap:=upd (upd (upd emp (0,0) (some (.s 7 W))) (1,1) (some (.s 7 V))) (1,0) (some (.s 7 Z)),fr:=1,next:=2}
theorem z96(W:List (List D))(A:List ZA)(t:ZA)(Bl:List ZA)(hl:A.length+Bl.length+1≤900)(V:List (List D))(hV:V.length≤A.length) :
  loopW tab [3,7,8] bJ (s1L W (A.map ZA.uu++(t::Bl).map ZA.o) V (A.length:Int))=loopW tab [3,7,8] bJ (s1L W ((A++[t]).map ZA.uu++Bl.map ZA.o) (if lK kT t Bl=true then V else V++[t.o]) ((A.length:Int)+1)):=by
 obtain⟨p0,q0,l0⟩:=K0 A t Bl
 have l1:((A++[t]).map ZA.uu++Bl.map ZA.o).length=A.length+(Bl.length+1):=by
  rw[la,lm,lm,la,zqa]
  omega
 have p1:∀(b:ZA) (Cl:List ZA),Bl=b::Cl→((A++[t]).map ZA.uu++Bl.map ZA.o)[((A.length:Int)+1).toNat]? = some b.o:=fun b Cl e=>by
  rw[e,show((A.length:Int)+1).toNat=(A++[t]).length by simp]
  exact(K0 (A++[t]) b Cl).1
 have hdr:=bI
 have hj:(A.length:Int)<((A.length+(Bl.length+1):Nat):Int):=by omega
 simp only[s1L]
 generalize A.map ZA.uu++(t::Bl).map ZA.o=R at *
 generalize (A++[t]).map ZA.uu++Bl.map ZA.o=R2 at *
 simp only[ZA.uu,ZA.o] at p0 q0 p1 ⊢
 conv=>lhs;unfold loopW;arg 1;unfold bJ
 by_cases c9:t.fOp=9
 ·simp only[c9] at q0
  cases Bl with
  |nil =>
   simp only[lK,Bool.false_eq_true,if_false]
   rw[ln] at l0 l1 hj
   simp -implicitDefEqProofs (disch:=first|assumption|omega|(simp only[aE,aF,aD,i64,sa,aB,lm,la,lc,ln];omega)) only[go_sem,simprocAttr,p0,q0,l0,l1,c9,hdr,hj]
  |cons b Cl =>
   rw[lc] at l0 l1 hj
   have p1:=p1 b Cl rfl
   simp only[lK,kT,c9,decide_true,bta]
   by_cases b8:b.fOp=8
   ·simp only[b8,decide_true,bta]
    by_cases bn:b.fN=t.fN
    ·simp only[bn,decide_true,if_true]
     simp -implicitDefEqProofs (disch:=first|assumption|omega|(simp only[aE,aF,aD,i64,sa,aB,lm,la,lc,ln];omega)) only[go_sem,simprocAttr,p0,q0,l0,l1,c9,p1,b8,bn,hdr,hj]
    ·simp only[bn,decide_false,Bool.false_eq_true,if_false]
     simp -implicitDefEqProofs (disch:=first|assumption|omega|(simp only[aE,aF,aD,i64,sa,aB,lm,la,lc,ln];omega)) only[go_sem,simprocAttr,p0,q0,l0,l1,c9,p1,b8,bn,hdr,hj]
   ·simp only[b8,decide_false,bfa,Bool.false_eq_true,if_false]
    simp -implicitDefEqProofs (disch:=first|assumption|omega|(simp only[aE,aF,aD,i64,sa,aB,lm,la,lc,ln];omega)) only[go_sem,simprocAttr,p0,q0,l0,l1,c9,p1,b8,hdr,hj]
 ·have e:lK kT t Bl=false:=by cases Bl<;>simp[lK,kT,c9]
  rw[e]
  simp only[Bool.false_eq_true,if_false]
  simp -implicitDefEqProofs (disch:=first|assumption|omega|(simp only[aE,aF,aD,i64,sa,aB,lm,la,lc,ln];omega)) only[go_sem,simprocAttr,p0,q0,l0,l1,c9,hdr,hj]
theorem z8h(W:List (List D)):∀(Bl A:List ZA) (V:List (List D)),A.length+Bl.length≤900→V.length≤A.length →
  loopW tab [3,7,8] bJ (s1L W (A.map ZA.uu++Bl.map ZA.o) V (A.length:Int))=some (.ext 2,{env:=upd emp 7 (some (.ref (1,0) [])),heap:=upd (upd emp (0,0) (some (.s 7 W))) (1,0) (some (.s 7 (V++(fL kT Bl).map ZA.o))),fr:=1,next:=1})
 |[],A,V,hA,hV=>by
  have hdr:=bI
  have l0:(A.map ZA.uu).length=A.length:=List.length_map _
  simp only[fL,mn,zqe,s1L]
  generalize A.map ZA.uu=R at *
  unfold loopW
  conv=>lhs;arg 1;unfold bJ
  simp -implicitDefEqProofs (disch:=first|assumption|omega|(simp only[aE,aF,aD,i64,sa,aB,lm,la,lc,ln];omega)) only[go_sem,simprocAttr,hdr,l0,show ¬((A.length:Int)<A.length) by omega]
 |t::Bl,A,V,hA,hV=>by
  rw[lc] at hA
  rw[z96 W A t Bl (by omega) V hV,mQ]
  have ih:=fun V2 (h2:V2.length≤A.length+1)=>z8h W Bl (A++[t]) V2 (by simp;omega) (by simpa using h2)
  rw[la,zqa,show(((A.length+1:Nat)):Int)=(A.length:Int)+1 by omega] at ih
  by_cases c:lK kT t Bl=true
  ·rw[if_pos c,if_pos c,zqf,←ih _ (by omega)]
  ·rw[if_neg c,if_neg c,List.map_append (l₁:=[t]),show([t]:List ZA).map ZA.o=[t.o] from rfl,←List.append_assoc V,←ih _ (by simp;omega)]
abbrev s2L(W Z V:List (List D))(j:Int):St:={env:=upd (upd (upd emp 11 (some (I j))) 10 (some (.ref (1,1) []))) 7 (some (.ref (1,0) [])),heap:=upd (upd (upd emp (0,0) (some (.s 7 W))) (1,1) (some (.s 7 V))) (1,0) (some (.s 7 Z)),fr:=1,next:=2}
theorem z9V(W:List (List D))(L:List ZA)(hl:L.length≤900)(t:ZA)(Bl:List ZA)(j:Nat)(V R:List (List D))(hd:L.drop j=t::Bl)(hV:V.length≤j)(hR:RowOf L R)(p0:R[j]? = some t.o) :
  loopW tab [7,10,11] bL (s2L W R V (j:Int))=loopW tab [7,10,11] bL (if (!decide (t.fOp=8)||goG kT L t.fN)=true then s2L W (R.set j t.uu) (V++[t.o]) ((j:Int)+1) else s2L W R V ((j:Int)+1)):=by
 obtain⟨ht,hlen,hd2⟩:=eK hd
 have l0:=hR.len
 have gg:=v6 L hl _ hR.fz t.fN
 have hdr:=bI
 have hj:(j:Int)<(L.length:Int):=by omega
 simp only[s2L]
 simp only[ZA.uu,ZA.o] at p0 ⊢
 conv=>lhs;unfold loopW;arg 1;unfold bL
 by_cases c8:t.fOp=8
 ·simp only[c8,decide_true,Bool.not_true,Bool.false_or] at p0 ⊢
  cases g:goG kT L t.fN<;>rw[g] at gg<;>simp only[if_true,Bool.false_eq_true,if_false]<;>simp -implicitDefEqProofs (disch:=first|assumption|omega|(simp only[aE,aF,aD,i64,sa,aB,lm,la,lc,ln];omega)) only[go_sem,simprocAttr,p0,l0,c8,gg,hdr,hj]
 ·simp only[c8,decide_false,Bool.not_false,Bool.true_or,if_true]
  simp -implicitDefEqProofs (disch:=first|assumption|omega|(simp only[aE,aF,aD,i64,sa,aB,lm,la,lc,ln];omega)) only[go_sem,simprocAttr,p0,l0,c8,hdr,hj]
theorem RowOf.set{L:List ZA}{R:List (List D)}(h:RowOf L R){j:Nat}{t:ZA}(ht:L[j]? = some t)(c:D):RowOf L (R.set j (t.q c)):=by
 refine⟨by rw[List.length_set,h.len],fun i x hi=> ?_⟩
 have hl:=(List.getElem?_eq_some_iff.1 hi).1
 by_cases e:i=j
 ·subst e
  rw[ht] at hi
  cases hi
  exact⟨c,by rw[List.getElem?_set,if_pos rfl,if_pos (by rw[h.len];exact hl)]⟩
 ·rw[List.getElem?_set,if_neg (fun e2=>e e2.symm)]
  exact h.at' i x hi
theorem z9Z(W:List (List D))(L:List ZA)(hl:L.length≤900):∀(Bl:List ZA) (j:Nat) (V R:List (List D)),L.drop j=Bl→V.length≤j→RowOf L R→(∀i,j≤i→R[i]? = (L[i]?).map ZA.o) →
  loopW tab [7,10,11] bL (s2L W R V (j:Int))=some (.ext 4,{env:=upd emp 10 (some (.ref (1,0) [])),heap:=upd (upd emp (0,0) (some (.s 7 W))) (1,0) (some (.s 7 (V++(nC kT L Bl).map ZA.o))),fr:=1,next:=1})
 |[],j,V,R,hd,hV,hR,hi=>by
  have:=drop_nil hd
  have l0:=hR.len
  have hdr:=bI
  simp only[nC,mn,zqe,s2L]
  unfold loopW
  conv=>lhs;arg 1;unfold bL
  simp -implicitDefEqProofs (disch:=first|assumption|omega|(simp only[aE,aF,aD,i64,sa,aB,lm,la,lc,ln];omega)) only[go_sem,simprocAttr,l0,hdr,show ¬((j:Int)<L.length) by omega]
 |t::Bl,j,V,R,hd,hV,hR,hi=>by
  obtain⟨ht,hlen,hd2⟩:=eK hd
  rw[z9V W L hl t Bl j V R hd hV hR (by rw[hi j (Nat.le_refl _),ht];rfl),mL]
  have ih:=fun V2 R2 (h2:V2.length≤j+1)=>z9Z W L hl Bl (j+1) V2 R2 hd2 h2
  rw[show(((j+1:Nat)):Int)=(j:Int)+1 by omega] at ih
  by_cases c:(!decide (t.fOp=8)||goG kT L t.fN)=true
  ·rw[if_pos c,if_pos c,List.map_append,mc,mn,←List.append_assoc,←ih _ (R.set j t.uu) (by simp;omega) (hR.set ht .u) (fun i h2=>by rw[List.getElem?_set,if_neg (by omega)];exact hi i (by omega))]
  ·rw[if_neg c,if_neg c,zqf,←ih _ R (by omega) hR (fun i h2=>hi i (by omega))]
theorem Jh(L:List ZA)(hl:L.length≤900):evCW tab lU [.ref (0,0) []] (upd emp (0,0) (some (.s 7 (L.map ZA.o)))) 1=some (.d (.s 7 ((cF kT L).map ZA.o)),upd emp (0,0) (some (.s 7 (L.map ZA.uu)))):=by
 have h1:=tN L true
 have h2:=s9 (dC kT true L)
 have hdr:=bI
 have g0:=z9r L [] [] true (by simpa using hl) (by simp)
 have g1:=z8h (L.map ZA.uu) (dC kT true L) [] [] (by simp;omega) (by simp)
 have g2:=z9Z (L.map ZA.uu) (fL kT (dC kT true L)) (by omega) (fL kT (dC kT true L)) 0 [] ((fL kT (dC kT true L)).map ZA.o) rfl (by simp) (RowOf.o _) (fun i _=>List.getElem?_map ..)
 simp only[s0L,s1L,s2L,zqf,mn,ln,Bool.not_true,show((0:Nat):Int)=0 from rfl] at g0 g1 g2
 rw[←cF] at g2
 generalize (cF kT L).map ZA.o=Z3 at *
 generalize (fL kT (dC kT true L)).map ZA.o=Z2 at *
 generalize (dC kT true L).map ZA.o=Z1 at *
 generalize L.map ZA.uu=Q at *
 generalize L.map ZA.o=R at *
 rw[bW xB _ _ _ rfl,pM]
 simp -implicitDefEqProofs (disch:=first|assumption|omega|(simp only[aE,aF,aD,i64,sa,aB,lm,la,lc,ln];omega)) only[go_sem,simprocAttr,g0,g1,g2,hdr]
set_option maxRecDepth 8000
set_option maxHeartbeats 16000000
def mO:Nat→List ZA→List ZA
 |0,L=>L
 |k+1,L=>if lV kT L=true then L else mO k (cF kT L)
def mJ(u:ZB):ZB:=if lG u=true then⟨u.fName,u.fParams,u.fRegs,mO u.fCode.length u.fCode⟩ else u
theorem zXl(L:List ZA):lV opN (L.map ZA.o)=lV kT L:=zqg (k:=kT) (k':=opN) (f:=ZA.o) (fun x=>rfl) L
theorem C8(u:ZB)(L:List ZA):zwd 3 (eH u (.s 7 (L.map ZA.o)))=lV kT L:=by
 rw[←zXl]
 rfl
theorem Cu{L:List ZA}(h:¬lV kT L=true):(cF kT L).length<L.length∧wD kT (cF kT L)=true:=by
 have h1:=oV L
 simp only[lV,Bool.or_eq_true,zqd,Bool.not_eq_true',not_or,Bool.not_eq_false] at h
 exact⟨by omega,h.2⟩
theorem zqD{L:List ZA}{t:ZA}(h:L[L.length-1]? = some t):wD kT L=iJ t.fOp:=by
 rw[←List.getLast?_eq_getElem?] at h
 rw[wD,h]
 rfl
theorem zKC(L:List ZA):((L.map ZA.r).map fun el=>el.map D.du)=L.map ZA.uu:=by
 rw[List.map_map]
 exact List.map_congr_left fun t _=>rfl
theorem Ox(L:List ZA):D.noR.noRss (L.map ZA.uu)=true:=kX _ (fun x=>by simp[ZA.uu,D.noR.noRs,D.noR]) L
theorem zzX(L:List ZA):fzs (L.map ZA.uu)=L.map ZA.uu:=oO _ _ (fun x=>by simp only[ZA.uu,Ev.fzl,D.fz]) L
theorem zjo{L:List ZA}(h:L.length≠0):∃t,L[L.length-1]? = some t∧wD kT L=iJ t.fOp∧(L.map ZA.uu)[((L.length:Int)-1).toNat]? = some t.uu∧(L.map ZA.o)[((L.length:Int)-1).toNat]? = some t.o:=by
 have hl:L.length-1<L.length:=by omega
 have e:L[L.length-1]? = some L[L.length-1]:=List.getElem?_eq_getElem hl
 refine⟨_,e,zqD e,?_,?_⟩<;>rw[show((L.length:Int)-1).toNat=L.length-1 by omega,List.getElem?_map,e]<;>rfl
theorem V9(u:ZB)(L:List ZA)(hl:L.length≤900)(c:lV kT L=true):loopW tab [2,3] d9 (eH u (.s 7 (L.map ZA.o))) =
  some (.ret,{env:=upd emp 2 (some (.ptr (0,0) [] 0 0)),heap:=upd emp (0,0) (some (eO u (.s 7 (L.map ZA.o)))),fr:=0,next:=1}):=by
 have hq:=C8 u L
 have h1:=tN L true
 have h2:=s9 (dC kT true L)
 have h3:=oV L
 have l0:(L.map ZA.o).length=L.length:=List.length_map _
 rw[c] at hq
 have g0:=Yg L hl
 have g1:=L4 (dC kT true L) (by omega)
 have g2:=Ps (fL kT (dC kT true L)) (by omega)
 rw[←cF] at g2
 have e0:=ZA.fzs L
 have e1:=zKC L
 have n1:=Ox (dC kT true L)
 have n2:=Ox (fL kT (dC kT true L))
 have n3:=Ox (cF kT L)
 have f1:=zzX (dC kT true L)
 have f2:=zzX (fL kT (dC kT true L))
 have f3:=zzX (cF kT L)
 have l3:((cF kT L).map ZA.uu).length=(cF kT L).length:=List.length_map _
 simp only[eH] at hq ⊢
 simp only[lV,Bool.or_eq_true,zqd,Bool.not_eq_true'] at c
 unfold loopW
 conv=>lhs;arg 1;unfold d9
 by_cases d1:(cF kT L).length=L.length
 ·simp -implicitDefEqProofs (disch:=first|assumption|omega|(simp only[aE,aF,aD,i64,sa,aB,lm,la,lc,ln];omega)) only[go_sem,simprocAttr,hq,g0,g1,g2,e0,e1,n1,n2,n3,f1,f2,f3,l3,l0,d1]
 ·by_cases d2:(cF kT L).length=0
  ·simp -implicitDefEqProofs (disch:=first|assumption|omega|(simp only[aE,aF,aD,i64,sa,aB,lm,la,lc,ln];omega)) only[go_sem,simprocAttr,hq,g0,g1,g2,e0,e1,n1,n2,n3,f1,f2,f3,l3,l0,d1,d2,show ¬(0=L.length) by omega]
  ·obtain⟨t,ht,he,pu,_⟩:=zjo d2
   have ge:=Cj t.fOp
   rw[←he,c.resolve_left d1] at ge
   simp only[ZA.uu] at pu
   simp -implicitDefEqProofs (disch:=first|assumption|omega|(simp only[aE,aF,aD,i64,sa,aB,lm,la,lc,ln];omega)) only[go_sem,simprocAttr,hq,g0,g1,g2,e0,e1,n1,n2,n3,f1,f2,f3,l3,l0,d1,d2,pu,ge]
theorem zZr(u:ZB)(L:List ZA)(hl:L.length≤900)(c:¬lV kT L=true):loopW tab [2,3] d9 (eH u (.s 7 (L.map ZA.o)))=loopW tab [2,3] d9 (eH u (.s 7 ((cF kT L).map ZA.o))):=by
 have hq:=C8 u L
 have h1:=tN L true
 have h2:=s9 (dC kT true L)
 have h3:=oV L
 have l0:(L.map ZA.uu).length=L.length:=List.length_map _
 obtain⟨d1,d3⟩:=Cu c
 rw[Bool.not_eq_true] at c
 rw[c] at hq
 have g0:=Wx L hl
 have g1:=Md (dC kT true L) (by omega)
 have g2:=Qb (fL kT (dC kT true L)) (by omega)
 rw[←cF] at g2
 have n1:=ZA.noR (dC kT true L)
 have n2:=ZA.noR (fL kT (dC kT true L))
 have n3:=ZA.noR (cF kT L)
 have l3:((cF kT L).map ZA.o).length=(cF kT L).length:=List.length_map _
 have d2:(cF kT L).length≠0:=fun e=>by
  rw[List.eq_nil_of_length_eq_zero e] at d3
  simp[wD] at d3
 obtain⟨t,ht,he,_,pu⟩:=zjo d2
 have ge:=Cj t.fOp
 rw[←he,d3] at ge
 simp only[eH] at hq ⊢
 simp only[ZA.o] at pu
 conv=>lhs;unfold loopW;arg 1;unfold d9
 simp -implicitDefEqProofs (disch:=first|assumption|omega|(simp only[aE,aF,aD,i64,sa,aB,lm,la,lc,ln];omega)) only[go_sem,simprocAttr,hq,g0,g1,g2,n1,n2,n3,l3,l0,show ¬(cF kT L).length=L.length by omega,d2,pu,ge]
theorem zwL(u:ZB):∀(k:Nat) (L:List ZA),L.length≤k→L.length≤900→loopW tab [2,3] d9 (eH u (.s 7 (L.map ZA.o))) =
  some (.ret,{env:=upd emp 2 (some (.ptr (0,0) [] 0 0)),heap:=upd emp (0,0) (some (eO u (.s 7 ((mO k L).map ZA.o)))),fr:=0,next:=1})
 |0,L,hk,hl=>by
  have e:L=[]:=List.eq_nil_of_length_eq_zero (by omega)
  subst e
  exact V9 u [] hl rfl
 |k+1,L,hk,hl=>by
  rw[mO]
  by_cases c:lV kT L=true
  ·rw[if_pos c]
   exact V9 u L hl c
  ·rw[if_neg c,zZr u L hl c]
   have:=(Cu c).1
   exact zwL u k (cF kT L) (by omega) (by omega)
theorem Mk(u:ZB)(hs:u.sm):call tab vR [u.x]=some (mJ u).xo:=by
 have g0:=fI u hs
 have g1:=lZ u hs
 by_cases hu:lG u=true
 ·have hr:=gB hu
  rw[hu] at g1
  have g2:=zwL u u.fCode.length u.fCode (Nat.le_refl _) hr.len.2
  simp only[eH,eO] at g2
  rw[mJ,if_pos hu]
  simp only[ZB.xo] at g0 ⊢
  generalize (mO u.fCode.length u.fCode).map ZA.o=Z at *
  rw[aQ C4 _ rfl,uC]
  simp -implicitDefEqProofs (disch:=first|assumption|omega|(simp only[aE,aF,aD,i64,sa,aB,lm,la,lc,ln];omega)) only[go_sem,simprocAttr,g0,g1,g2]
 ·rw[Bool.not_eq_true] at hu
  rw[hu] at g1
  rw[mJ,if_neg (by rw[hu];simp),aQ C4 _ rfl,uC]
  simp -implicitDefEqProofs (disch:=first|assumption|omega|(simp only[aE,aF,aD,i64,sa,aB,lm,la,lc,ln];omega)) only[go_sem,simprocAttr,g0,g1]
theorem V5(u:ZB)(L:List ZA)(hl:L.length≤900)(c:lV kT L=true):loopW tab [2,3] eA (eH u (.s 7 (L.map ZA.o))) =
  some (.ret,{env:=upd emp 2 (some (.ptr (0,0) [] 0 0)),heap:=upd emp (0,0) (some (eO u (.s 7 (L.map ZA.o)))),fr:=0,next:=1}):=by
 have hq:=C8 u L
 have h3:=oV L
 have l0:(L.map ZA.o).length=L.length:=List.length_map _
 rw[c] at hq
 have g0:=H8 L hl
 have e0:=ZA.fzs L
 have e1:=zKC L
 have n3:=Ox (cF kT L)
 have f3:=zzX (cF kT L)
 have l3:((cF kT L).map ZA.uu).length=(cF kT L).length:=List.length_map _
 have ge:=wS (cF kT L) (by omega) _ (RowOf.uu _)
 simp only[eH] at hq ⊢
 simp only[lV,Bool.or_eq_true,zqd,Bool.not_eq_true'] at c
 unfold loopW
 conv=>lhs;arg 1;unfold eA
 by_cases d1:(cF kT L).length=L.length
 ·simp -implicitDefEqProofs (disch:=first|assumption|omega|(simp only[aE,aF,aD,i64,sa,aB,lm,la,lc,ln];omega)) only[go_sem,simprocAttr,hq,g0,e0,e1,n3,f3,l3,l0,d1]
 ·rw[c.resolve_left d1] at ge
  simp -implicitDefEqProofs (disch:=first|assumption|omega|(simp only[aE,aF,aD,i64,sa,aB,lm,la,lc,ln];omega)) only[go_sem,simprocAttr,hq,g0,e0,e1,n3,f3,l3,l0,d1,ge]
theorem zQn(u:ZB)(L:List ZA)(hl:L.length≤900)(c:¬lV kT L=true):loopW tab [2,3] eA (eH u (.s 7 (L.map ZA.o)))=loopW tab [2,3] eA (eH u (.s 7 ((cF kT L).map ZA.o))):=by
 have hq:=C8 u L
 have h3:=oV L
 have l0:(L.map ZA.uu).length=L.length:=List.length_map _
 obtain⟨d1,d3⟩:=Cu c
 rw[Bool.not_eq_true] at c
 rw[c] at hq
 have g0:=Jh L hl
 have n3:=ZA.noR (cF kT L)
 have l3:((cF kT L).map ZA.o).length=(cF kT L).length:=List.length_map _
 have ge:=wS (cF kT L) (by omega) _ (RowOf.o _).fz
 rw[d3] at ge
 simp only[eH] at hq ⊢
 conv=>lhs;unfold loopW;arg 1;unfold eA
 simp -implicitDefEqProofs (disch:=first|assumption|omega|(simp only[aE,aF,aD,i64,sa,aB,lm,la,lc,ln];omega)) only[go_sem,simprocAttr,hq,g0,n3,l3,l0,show ¬(cF kT L).length=L.length by omega,ge]
theorem zZs(u:ZB):∀(k:Nat) (L:List ZA),L.length≤k→L.length≤900→loopW tab [2,3] eA (eH u (.s 7 (L.map ZA.o))) =
  some (.ret,{env:=upd emp 2 (some (.ptr (0,0) [] 0 0)),heap:=upd emp (0,0) (some (eO u (.s 7 ((mO k L).map ZA.o)))),fr:=0,next:=1})
 |0,L,hk,hl=>by
  have e:L=[]:=List.eq_nil_of_length_eq_zero (by omega)
  subst e
  exact V5 u [] hl rfl
 |k+1,L,hk,hl=>by
  rw[mO]
  by_cases c:lV kT L=true
  ·rw[if_pos c]
   exact V5 u L hl c
  ·rw[if_neg c,zQn u L hl c]
   have:=(Cu c).1
   exact zZs u k (cF kT L) (by omega) (by omega)
theorem Ma(u:ZB)(hs:u.sm):call tab uY [u.x]=some (mJ u).xo:=by
 have g0:=gR u hs
 have g1:=l8 u hs
 by_cases hu:lG u=true
 ·have hr:=gB hu
  rw[hu] at g1
  have g2:=zZs u u.fCode.length u.fCode (Nat.le_refl _) hr.len.2
  simp only[eH,eO] at g2
  rw[mJ,if_pos hu]
  simp only[ZB.xo] at g0 ⊢
  generalize (mO u.fCode.length u.fCode).map ZA.o=Z at *
  rw[aQ D6 _ rfl,uR]
  simp -implicitDefEqProofs (disch:=first|assumption|omega|(simp only[aE,aF,aD,i64,sa,aB,lm,la,lc,ln];omega)) only[go_sem,simprocAttr,g0,g1,g2]
 ·rw[Bool.not_eq_true] at hu
  rw[hu] at g1
  rw[mJ,if_neg (by rw[hu];simp),aQ D6 _ rfl,uR]
  simp -implicitDefEqProofs (disch:=first|assumption|omega|(simp only[aE,aF,aD,i64,sa,aB,lm,la,lc,ln];omega)) only[go_sem,simprocAttr,g0,g1]
set_option maxRecDepth 8000
set_option maxHeartbeats 16000000
theorem zJk(K:BL)(W:List Int)(t:ZA)(h:t.sm):(eB K W t).2.1.1.sm:=by
 have h0:∀d n,(M2 d n).sm:=fun d n=>⟨Nat.zero_le 1048576,by simp[M2]⟩
 have h1:∀n,(Yp n).sm:=fun n=>⟨Nat.zero_le 1048576,by simp[Yp]⟩
 unfold eB
 repeat' split
 all_goals first|exact h|exact h0 _ _|exact h1 _
theorem Wb:∀(ts:List ZA) (K:BL) (W:List Int),(∀t∈ts,t.sm)→∀p∈jU K W ts,p.1.sm
 |[],K,W,h,p,hp=>by simp[jU] at hp
 |t::ts,K,W,h,p,hp=>by
  rw[jU,List.mem_append] at hp
  rcases hp with hp|hp
  ·split at hp
   ·rw[List.mem_singleton] at hp
    rw[hp]
    exact zJk K W t (h t (by simp))
   ·simp at hp
  ·exact Wb ts _ _ (fun t ht=>h t (by simp[ht])) p hp
theorem Hx{u:ZB}(h:u.sm):(tB u).sm:=by
 unfold tB
 split
 ·refine⟨h.1,?_,fun t ht=> ?_⟩
  ·have:=Oa u.fCode (List.replicate u.fRegs.toNat false) (List.replicate u.fRegs.toNat 0)
   rw[lm]
   exact Nat.le_trans this h.2.1
  ·obtain⟨p,hp,rfl⟩:=List.mem_map.1 ht
   exact Wb u.fCode _ _ h.2.2 p hp
 ·exact h
theorem zvq{so:List Int}{t:ZA}(h:t.sm):(bB so t).sm:=by
 refine⟨h.1,?_⟩
 simp only[bB]
 split
 ·rw[Rc];exact h.2
 ·exact h.2
theorem zKO{m:Nat}{so:List Int}{t:ZA}(h:t.sm):(Fa m so t).2.sm:=by
 rw[Ja]
 exact zvq h
theorem V6(m:Nat):∀(ts:List ZA) (so:List Int),(yQ m so ts).length=ts.length
 |[],so=>rfl
 |t::ts,so=>by rw[yQ,lc,V6 m ts,lc]
theorem zzK(m:Nat):∀(ts:List ZA) (so:List Int),(∀t∈ts,t.sm)→∀t∈yQ m so ts,t.sm
 |[],so,h,t,ht=>by simp[yQ] at ht
 |x::ts,so,h,t,ht=>by
  rw[yQ] at ht
  rcases List.mem_cons.1 ht with ht|ht
  ·rw[ht];exact zKO (h x (by simp))
  ·exact zzK m ts _ (fun t ht=>h t (by simp[ht])) t ht
theorem Qo{u:ZB}(h:u.sm):(Et u).sm:=by
 unfold Et
 split
 ·exact⟨h.1,by rw[V6];exact h.2.1,zzK _ _ _ h.2.2⟩
 ·exact h
theorem Tj:∀(k:Nat) (u:ZB),u.sm→(deadR k u).sm
 |0,u,h=>h
 |k+1,u,h=>by
  rw[deadR]
  split
  ·exact h
  ·exact Tj k (deadI u) (Pl h)
theorem Kr{u:ZB}(h:u.sm):(deadU u).sm:=by
 unfold deadU
 split
 ·exact Tj _ _ h
 ·exact h
theorem Rh:∀(L:List ZA) (o:Bool) (t:ZA),t∈dC kT o L→t∈L
 |[],o,t,h=>by simp[dC] at h
 |x::L,o,t,h=>by
  rw[mI,List.mem_append] at h
  rcases h with h|h
  ·split at h
   ·simp at h;simp[h]
   ·simp at h
  ·exact List.mem_cons_of_mem _ (Rh L _ t h)
theorem Ua:∀(L:List ZA) (t:ZA),t∈fL kT L→t∈L
 |[],t,h=>by simp[fL] at h
 |x::L,t,h=>by
  rw[mQ,List.mem_append] at h
  rcases h with h|h
  ·split at h
   ·simp at h
   ·simp at h;simp[h]
  ·exact List.mem_cons_of_mem _ (Ua L t h)
theorem Tp(all:List ZA):∀(L:List ZA) (t:ZA),t∈nC kT all L→t∈L
 |[],t,h=>by simp[nC] at h
 |x::L,t,h=>by
  rw[mL,List.mem_append] at h
  rcases h with h|h
  ·split at h
   ·simp at h;simp[h]
   ·simp at h
  ·exact List.mem_cons_of_mem _ (Tp all L t h)
theorem H3:∀(k:Nat) (L:List ZA),(mO k L).length≤L.length∧∀t∈mO k L,t∈L
 |0,L=>⟨Nat.le_refl _,fun t h=>h⟩
 |k+1,L=>by
  rw[mO]
  split
  ·exact⟨Nat.le_refl _,fun t h=>h⟩
  ·obtain⟨h1,h2⟩:=H3 k (cF kT L)
   exact⟨Nat.le_trans h1 (oV L),fun t h=>Rh _ _ t (Ua _ t (Tp _ _ t (h2 t h)))⟩
theorem zjI{u:ZB}(h:u.sm):(mJ u).sm:=by
 unfold mJ
 split
 ·obtain⟨h1,h2⟩:=H3 u.fCode.length u.fCode
  exact⟨h.1,Nat.le_trans h1 h.2.1,fun t ht=>h.2.2 t (h2 t ht)⟩
 ·exact h
noncomputable def roundU (u:ZB):ZB:=mJ (deadU (Et (tB u)))
noncomputable def betU (u:ZB):ZB:=roundU (roundU (roundU u))
theorem mN{u:ZB}(h:u.sm):(roundU u).sm:=zjI (Kr (Qo (Hx h)))
abbrev beS(w:ZB)(c:D)(i:Int):St:={env:=upd (upd (upd emp 6 (some (I i))) 3 (some (.ptr (0,1) [] 0 0))) 2 (some (.ptr (0,0) [] 0 0)),heap:=upd (upd emp (0,1) (some (eO w c))) (0,0) (some pL),fr:=0,next:=2}
theorem z8w(w:ZB)(c:D)(i:Int)(b:Option X):qEq 6 2 {env:=upd (upd (upd (upd emp 6 (some (I i))) 3 (some (.ptr (0,1) [] 0 0))) 2 (some (.ptr (0,0) [] 0 0))) 7 b,heap:=upd (upd emp (0,1) (some (eO w c))) (0,0) (some pL),fr:=0,next:=34}=decide (i=2):=rfl
theorem Hz(w:ZB)(hs:w.sm)(i:Int)(h0:0≤i)(h3:i<3):loopW tab [2,3,6] dO (beS w (.r (w.fCode.map ZA.r)) i)=loopW tab [2,3,6] dO (beS (roundU w) (if i=2 then .s 7 ((roundU w).fCode.map ZA.o) else .r ((roundU w).fCode.map ZA.r)) (i+1)):=by
 obtain⟨r1,g1,e1⟩:=Qk w hs
 have s1:=Hx hs
 have g2:=G5 _ s1
 have s2:=Qo s1
 obtain⟨r3,g3,e3⟩:=P4 _ s2
 have s3:=Kr s2
 have g4:=Mk _ s3
 unfold roundU
 generalize tB w=w1 at *
 generalize Et w1=w2 at *
 generalize deadU w2=w3 at *
 generalize mJ w3=w4 at *
 have e2:fzs (w2.fCode.map ZA.o)=w2.fCode.map ZA.r:=ZA.fzs w2.fCode
 have e4:fzs (w4.fCode.map ZA.o)=w4.fCode.map ZA.r:=ZA.fzs w4.fCode
 have n4:=ZA.noR w4.fCode
 have hq:=z8w w (.r (w.fCode.map ZA.r)) i
 simp only[beS]
 conv=>lhs;unfold loopW;arg 1;unfold dO
 by_cases c:i=2
 ·subst c
  simp only[if_true]
  simp -implicitDefEqProofs (disch:=first|assumption|omega|(simp only[aE,aF,aD,i64,sa,aB,lm,la,lc,ln];omega)) only[go_sem,simprocAttr,hq,g1,e1,g2,e2,g3,e3,g4,e4,n4]
 ·rw[if_neg c]
  simp -implicitDefEqProofs (disch:=first|assumption|omega|(simp only[aE,aF,aD,i64,sa,aB,lm,la,lc,ln];omega)) only[go_sem,simprocAttr,hq,c,g1,e1,g2,e2,g3,e3,g4,e4,n4]
theorem zQ1(w:ZB)(c:D):loopW tab [2,3,6] dO (beS w c 3)=some (.ext 0,eH w c):=by
 simp only[beS,eH]
 unfold loopW
 conv=>lhs;arg 1;unfold dO
 simp -implicitDefEqProofs (disch:=first|assumption|omega|(simp only[aE,aF,aD,i64,sa,aB,lm,la,lc,ln];omega)) only[go_sem,simprocAttr]
theorem zXi(u:ZB)(hs:u.sm):loopW tab [2,3,6] dO (beS u (.r (u.fCode.map ZA.r)) 0)=some (.ext 0,eH (betU u) (.s 7 ((betU u).fCode.map ZA.o))):=by
 have s1:=mN hs
 rw[Hz u hs 0 (by omega) (by omega),if_neg (by omega),Hz _ s1 (0+1) (by omega) (by omega),if_neg (by omega),Hz _ (mN s1) (0+1+1) (by omega) (by omega),if_pos (by omega)]
 exact zQ1 _ _
theorem Jp(u:ZB)(hs:u.sm):call tab qR [u.x]=some (betU u).xo:=by
 have g0:=fI u hs
 have g1:=zXi u hs
 have e0:=ZA.fzs u.fCode
 simp only[beS,eH,eO] at g1
 simp only[ZB.xo] at g0 ⊢
 generalize betU u=w at *
 rw[aQ La _ rfl,Bd]
 simp -implicitDefEqProofs (disch:=first|assumption|omega|(simp only[aE,aF,aD,i64,sa,aB,lm,la,lc,ln];omega)) only[go_sem,simprocAttr,g0,g1,e0]
abbrev sbS(w:ZB)(c:D)(i:Int):St:={env:=upd (upd (upd emp 4 (some (I i))) 3 (some (.ptr (0,1) [] 0 0))) 2 (some (.ptr (0,0) [] 0 0)),heap:=upd (upd emp (0,1) (some (eO w c))) (0,0) (some pL),fr:=0,next:=2}
theorem z8s(w:ZB)(c:D)(i:Int)(a b:Option X)(n:Nat):qEq 4 2 {env:=upd (upd (upd (upd (upd emp 4 (some (I i))) 3 (some (.ptr (0,1) [] 0 0))) 2 (some (.ptr (0,0) [] 0 0))) 7 a) 8 b,heap:=upd (upd emp (0,1) (some (eO w c))) (0,0) (some pL),fr:=0,next:=n}=decide (i=2):=rfl
theorem Hy(w:ZB)(hs:w.sm)(i:Int)(h0:0≤i)(h3:i<3):loopW tab [2,3,4] dQ (sbS w (.r (w.fCode.map ZA.r)) i)=loopW tab [2,3,4] dQ (sbS (roundU w) (if i=2 then .s 7 ((roundU w).fCode.map ZA.o) else .r ((roundU w).fCode.map ZA.r)) (i+1)):=by
 obtain⟨r1,g1,e1⟩:=Q7 w hs
 have s1:=Hx hs
 have g2:=Gt _ s1
 have s2:=Qo s1
 obtain⟨r3,g3,e3⟩:=Or _ s2
 have s3:=Kr s2
 have g4:=Ma _ s3
 unfold roundU
 generalize tB w=w1 at *
 generalize Et w1=w2 at *
 generalize deadU w2=w3 at *
 generalize mJ w3=w4 at *
 have e2:fzs (w2.fCode.map ZA.o)=w2.fCode.map ZA.r:=ZA.fzs w2.fCode
 have e4:fzs (w4.fCode.map ZA.o)=w4.fCode.map ZA.r:=ZA.fzs w4.fCode
 have n4:=ZA.noR w4.fCode
 have hq:=z8s w (.r (w.fCode.map ZA.r)) i
 simp only[sbS]
 conv=>lhs;unfold loopW;arg 1;unfold dQ
 by_cases c:i=2
 ·subst c
  simp only[if_true]
  simp -implicitDefEqProofs (disch:=first|assumption|omega|(simp only[aE,aF,aD,i64,sa,aB,lm,la,lc,ln];omega)) only[go_sem,simprocAttr,hq,g1,e1,g2,e2,g3,e3,g4,e4,n4]
 ·rw[if_neg c]
  simp -implicitDefEqProofs (disch:=first|assumption|omega|(simp only[aE,aF,aD,i64,sa,aB,lm,la,lc,ln];omega)) only[go_sem,simprocAttr,hq,c,g1,e1,g2,e2,g3,e3,g4,e4,n4]
theorem zKV(w:ZB)(c:D):loopW tab [2,3,4] dQ (sbS w c 3)=some (.ext 0,eH w c):=by
 simp only[sbS,eH]
 unfold loopW
 conv=>lhs;arg 1;unfold dQ
 simp -implicitDefEqProofs (disch:=first|assumption|omega|(simp only[aE,aF,aD,i64,sa,aB,lm,la,lc,ln];omega)) only[go_sem,simprocAttr]
theorem zYN(u:ZB)(hs:u.sm):loopW tab [2,3,4] dQ (sbS u (.r (u.fCode.map ZA.r)) 0)=some (.ext 0,eH (betU u) (.s 7 ((betU u).fCode.map ZA.o))):=by
 have s1:=mN hs
 rw[Hy u hs 0 (by omega) (by omega),if_neg (by omega),Hy _ s1 (0+1) (by omega) (by omega),if_neg (by omega),Hy _ (mN s1) (0+1+1) (by omega) (by omega),if_pos (by omega)]
 exact zKV _ _
theorem Ik(u:ZB)(hs:u.sm):call tab y9 [u.x]=some (betU u).xo:=by
 have g0:=gR u hs
 have g1:=zYN u hs
 have e0:=ZA.fzs u.fCode
 simp only[sbS,eH,eO] at g1
 simp only[ZB.xo] at g0 ⊢
 generalize betU u=w at *
 rw[aQ L6 _ rfl,Az]
 simp -implicitDefEqProofs (disch:=first|assumption|omega|(simp only[aE,aF,aD,i64,sa,aB,lm,la,lc,ln];omega)) only[go_sem,simprocAttr,g0,g1,e0]
set_option maxRecDepth 8000
set_option maxHeartbeats 16000000
theorem C2(A B:List ZA):ZA.cts (A++B)=ZA.cts A+ZA.cts B:=by
 induction A with
 |nil=>simp[ZA.cts]
 |cons a A ih=>rw[List.cons_append,ZA.cts,ZA.cts,ih];omega
theorem Xo(p:Prop)[Decidable p](t:ZA):ZA.cts (if p then [t] else [])≤t.ct:=by
 split
 ·simp[ZA.cts]
 ·have:=t.ct_nn;simp[ZA.cts];omega
theorem zK1(p:Prop)[Decidable p](t:ZA):ZA.cts (if p then [] else [t])≤t.ct:=by
 split
 ·have:=t.ct_nn;simp[ZA.cts];omega
 ·simp[ZA.cts]
theorem zxT(K:BL)(W:List Int)(t:ZA):(eB K W t).2.1.1.ct≤t.ct:=by
 have h0:∀d n,(M2 d n).ct≤t.ct:=fun d n=>by simp[ZA.ct,M2];omega
 have h1:∀n,(Yp n).ct≤t.ct:=fun n=>by simp[ZA.ct,Yp];omega
 unfold eB
 repeat' split
 all_goals first|exact Int.le_refl _|exact h0 _ _|exact h1 _
theorem N0:∀(ts:List ZA) (K:BL) (W:List Int),ZA.cts ((jU K W ts).map fun p=>p.1)≤ZA.cts ts
 |[],K,W=>by simp[jU,ZA.cts]
 |t::ts,K,W=>by
  have ih:=N0 ts (eB K W t).1.1 (eB K W t).1.2
  have h0:=zxT K W t
  have h1:=t.ct_nn
  rw[jU,List.map_append,C2,ZA.cts]
  split
  ·simp only[mc,mn,ZA.cts];omega
  ·simp only[mn,ZA.cts];omega
theorem Rv(m:Nat):∀(ts:List ZA) (so:List Int),ZA.cts (yQ m so ts)=ZA.cts ts
 |[],so=>rfl
 |t::ts,so=>by
  have h:(Fa m so t).2.ct=t.ct:=by
   rw[Ja]
   simp only[ZA.ct,bB]
   split
   ·rw[Rc]
   ·rfl
  rw[yQ,ZA.cts,ZA.cts,Rv m ts,h]
theorem Nh(M:List BL):∀(ts:List ZA) (k:Nat),ZA.cts (bV M k ts)≤ZA.cts ts
 |[],k=>by simp[bV,ZA.cts]
 |t::ts,k=>by
  have ih:=Nh M ts (k+1)
  have h:=Xo (Dk M k t=true) t
  rw[bV,C2,ZA.cts]
  omega
theorem N1:∀(k:Nat) (u:ZB),ZA.cts (deadR k u).fCode≤ZA.cts u.fCode
 |0,u=>Int.le_refl _
 |k+1,u=>by
  rw[deadR]
  split
  ·exact Int.le_refl _
  ·exact Int.le_trans (N1 k (deadI u)) (Nh _ _ _)
theorem Sb:∀(L:List ZA) (o:Bool),ZA.cts (dC kT o L)≤ZA.cts L
 |[],o=>by simp[dC,ZA.cts]
 |t::L,o=>by
  have ih:=Sb L (nV o t&& !iJ t.fOp)
  have h:=Xo (nV o t=true) t
  rw[mI,C2,ZA.cts]
  omega
theorem Wc:∀(L:List ZA),ZA.cts (fL kT L)≤ZA.cts L
 |[]=>by simp[fL,ZA.cts]
 |t::L=>by
  have ih:=Wc L
  have h:=zK1 (lK kT t L=true) t
  rw[mQ,C2,ZA.cts]
  omega
theorem S7(all:List ZA):∀(L:List ZA),ZA.cts (nC kT all L)≤ZA.cts L
 |[]=>by simp[nC,ZA.cts]
 |t::L=>by
  have ih:=S7 all L
  have h:=Xo ((!decide (t.fOp=8)||goG kT all t.fN)=true) t
  rw[mL,C2,ZA.cts]
  omega
theorem Ju:∀(k:Nat) (L:List ZA),ZA.cts (mO k L)≤ZA.cts L
 |0,L=>Int.le_refl _
 |k+1,L=>by
  rw[mO]
  split
  ·exact Int.le_refl _
  ·exact Int.le_trans (Ju k (cF kT L)) (Int.le_trans (S7 _ _) (Int.le_trans (Wc _) (Sb _ _)))
theorem Ew(u:ZB):(roundU u).ctv≤u.ctv:=by
 have h1:∀u:ZB,(tB u).ctv≤u.ctv:=fun u=>by
  unfold tB ZB.ctv
  split
  ·exact N0 _ _ _
  ·exact Int.le_refl _
 have h2:∀u:ZB,(Et u).ctv≤u.ctv:=fun u=>by
  unfold Et ZB.ctv
  split
  ·exact Int.le_of_eq (Rv _ _ _)
  ·exact Int.le_refl _
 have h3:∀u:ZB,(deadU u).ctv≤u.ctv:=fun u=>by
  unfold deadU ZB.ctv
  split
  ·exact N1 _ _
  ·exact Int.le_refl _
 have h4:∀u:ZB,(mJ u).ctv≤u.ctv:=fun u=>by
  unfold mJ ZB.ctv
  split
  ·exact Ju _ _
  ·exact Int.le_refl _
 exact Int.le_trans (h4 _) (Int.le_trans (h3 _) (Int.le_trans (h2 _) (h1 _)))
theorem zVq(u:ZB):(betU u).ctv≤u.ctv:=Int.le_trans (Ew _) (Int.le_trans (Ew _) (Ew _))
theorem zVV{u:ZB}(h:u.sm):(betU u).sm:=mN (mN (mN h))
theorem C0(u:ZB)(hU:u.ok):call tab kP [u.x]=some (B true):=by
 have g0:=I3 u 1048576 (by omega) hU
 rw[aQ yZ _ rfl,nJ]
 by_cases h0:(1048576:Int)<u.sz
 ·rw[if_pos h0] at g0
  simp -implicitDefEqProofs (disch:=first|assumption|omega|(simp only[aE,aF,aD,i64,sa,aB,lm,la,lc,ln];omega)) only[go_sem,simprocAttr,g0]
 ·rw[if_neg h0] at g0
  have r1:=ZB.sm_of (by omega:u.sz≤1048576)
  have r2:=zVV r1
  have g1:=Jl u r1
  have e1:=Jp u r1
  have e2:=Ik u r1
  have n3:=zVq u
  have n1:=u.ctv_le
  have g4:=wW u r1
  have g5:=tY u 1 (by omega) (by omega)
  have hz0:0≤u.ctv:=by have:=ZA.cts_nn u.fCode;unfold ZB.ctv;omega
  generalize betU u=R at *
  have hz1:0≤R.ctv:=by have:=ZA.cts_nn R.fCode;unfold ZB.ctv;omega
  have g6:=wW R r2
  have g7:=tY R 1 (by omega) (by omega)
  have g8:=Ey R 1 (by omega) (by omega)
  simp only[ZB.mkv] at g8
  have hn:Hv [Str R.fName,I R.fParams,I R.fRegs,.d (.s 7 (R.fCode.map ZA.o))]=true:=by simp[Hv,X.noRC,D.noR,ZA.noR]
  have hz:¬1048576-u.sz<0:=by omega
  generalize 1048576-u.sz=z at *
  simp -implicitDefEqProofs (disch:=first|assumption|omega|(simp only[aE,aF,aD,i64,sa,aB,lm,la,lc,ln];omega)) only[go_sem,simprocAttr,hn,g0,g1,e1,e2,g4,g5,g6,g7,g8,hz,ZA.fzs,ZA.fzr,ZA.noR]
theorem pure_FnExactBetter(xs:List X)(h:zzJ [(true,[.s,.i .i64,.i .i64,.l 80 [.i .i64,.i .i64,.i .i64,.i .i64,.i .i64,.s,.l 8 [.i .i64]]])] xs):call tab kP xs=some (.d (.v (.bool true))):=by
 simp only[zzJ,zYP] at h
 obtain⟨x0,r0,rfl,⟨d0,rfl,hf0⟩,rfl⟩:=h
 obtain⟨y0,rfl,hy0⟩:=ZB.fit hf0
 exact C0 y0 hy0
end Go.Ev.G
