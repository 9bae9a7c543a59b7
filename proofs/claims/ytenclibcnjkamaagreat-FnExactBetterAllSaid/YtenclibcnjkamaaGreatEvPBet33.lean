import Derived.Test.YtenclibcnjkamaaGreatEvPBet22
import Derived.Test.YtenclibcnjkamaaGreatEvPNeed
import Derived.Test.YtenclibcnjkamaaGreatEvQUnit2
set_option linter.all false
namespace Go.Ev.G
set_option maxRecDepth 8000
set_option maxHeartbeats 16000000
theorem nP(all:List ZA)(t:ZA)(ts:List ZA):oM kT all (t::ts)=(if (!decide (t.fOp=8)||goG kT all t.fN)=true then [t] else [])++oM kT all ts:=rfl
theorem z8{fr:Nat}{h:Heap}{id:Id}{x:Option D}(hi:id.1<fr)(hh:a8 fr h=h):a8 fr (upd h id x)=upd h id x:=by
 funext k
 have e:=congrFun hh k
 simp only[a8,upd] at e ⊢
 by_cases c:k=id
 ·subst c
  simp[show ¬k.1=fr by omega]
 ·simp only[if_neg c]
  exact e
abbrev inS(L:List ZA)(V:List (List D))(j:Int):St:={env:=upd (upd (upd (upd (upd emp 10 (some (I j))) 9 (some (I (L.length:Int)))) 8 (some (.d (.r (L.map ZA.uu))))) 3 (some (.ref (0,0) []))) 0 (some (.d (.r (L.map ZA.uu)))),heap:=upd emp (0,0) (some (.s 7 V)),fr:=0,next:=1}
theorem z86(L:List ZA)(hl:L.length≤900)(t:ZA)(Bl:List ZA)(j:Nat)(V:List (List D))(hd:L.drop j=t::Bl)(hV:V.length≤j) :
  loopW tab [0,3,8,9,10] cE (inS L V (j:Int))=loopW tab [0,3,8,9,10] cE (inS L (if (!decide (t.fOp=8)||goG kT L t.fN)=true then V++[t.uu] else V) ((j:Int)+1)):=by
 obtain⟨ht,hlen,hd2⟩:=c7 hd
 have p0:(L.map ZA.uu)[j]? = some t.uu:=by rw[List.getElem?_map,ht];rfl
 have l0:(L.map ZA.uu).length=L.length:=List.length_map _
 have gk:∀n1:Nat,1≤n1→a8 n1 (upd (upd emp (0,0) (some (.s 7 V))) (0,97) (some (.s 7 [t.uu])))=upd (upd emp (0,0) (some (.s 7 V))) (0,97) (some (.s 7 [t.uu])):=fun n1 h1=>z8 h1 (z8 h1 (iW _))
 have gc:=z8E mP 0 97 (zW t.fN) _ 1 (gk 1 (by omega)) (gk 2 (by omega)) (by omega) L hl (fun x _=>yH t x _ 0 97 .u _ 3 (gk 3 (by omega)) (by omega) (by simp[upd];rfl))
 rw[←Tr] at gc
 simp only[inS]
 generalize L.map ZA.uu=R at *
 simp only[ZA.uu] at p0 gc ⊢
 conv=>lhs;unfold loopW;arg 1;unfold cE
 by_cases c8:t.fOp=8
 ·simp only[c8,decide_true,Bool.not_true,Bool.false_or] at p0 ⊢
  simp only[c8] at gc
  cases g:goG kT L t.fN<;>rw[g] at gc<;>simp only[if_true,Bool.false_eq_true,if_false]<;>simp -implicitDefEqProofs (disch:=first|assumption|omega|(simp only[aE,aF,aD,i64,sa,aB,lm,la,lc,ln];omega)) only[go_sem,simprocAttr,p0,l0,c8,gc,show((j:Int)<L.length) by omega]
 ·simp only[c8,decide_false,Bool.not_false,Bool.true_or,if_true]
  simp -implicitDefEqProofs (disch:=first|assumption|omega|(simp only[aE,aF,aD,i64,sa,aB,lm,la,lc,ln];omega)) only[go_sem,simprocAttr,p0,l0,c8,show((j:Int)<L.length) by omega]
theorem z9f(L:List ZA)(hl:L.length≤900):∀(Bl:List ZA) (j:Nat) (V:List (List D)),L.drop j=Bl→V.length≤j →
  loopW tab [0,3,8,9,10] cE (inS L V (j:Int))=some (.ext 0,{env:=upd emp 3 (some (.ref (0,0) [])),heap:=upd emp (0,0) (some (.s 7 (V++(oM kT L Bl).map ZA.uu))),fr:=0,next:=1})
 |[],j,V,hd,hV=>by
  have:=drop_nil hd
  simp only[oM,mn,zqe,inS]
  generalize L.map ZA.uu=R at *
  unfold loopW
  conv=>lhs;arg 1;unfold cE
  simp -implicitDefEqProofs (disch:=first|assumption|omega|(simp only[aE,aF,aD,i64,sa,aB,lm,la,lc,ln];omega)) only[go_sem,simprocAttr,show ¬((j:Int)<L.length) by omega]
 |t::Bl,j,V,hd,hV=>by
  rw[z86 L hl t Bl j V hd hV,nP]
  have ih:=fun V2 (h2:V2.length≤j+1)=>z9f L hl Bl (j+1) V2 (c7 hd).2.2 h2
  rw[show(((j+1:Nat)):Int)=(j:Int)+1 by omega] at ih
  by_cases c:(!decide (t.fOp=8)||goG kT L t.fN)=true
  ·rw[if_pos c,if_pos c,List.map_append,mc,mn,←List.append_assoc,←ih _ (by simp;omega)]
  ·rw[if_neg c,if_neg c,zqf,←ih _ (by omega)]
theorem Tq(L:List ZA)(hl:L.length≤900):call tab rK [.d (.r (L.map ZA.uu))]=some (.d (.s 7 ((oM kT L L).map ZA.uu))):=by
 have g:=z9f L hl L 0 [] rfl (by simp)
 have l0:(L.map ZA.uu).length=L.length:=List.length_map _
 simp only[inS,zqf,show((0:Nat):Int)=0 from rfl] at g
 generalize (oM kT L L).map ZA.uu=V at *
 generalize L.map ZA.uu=R at *
 rw[aQ F5 _ rfl,wX]
 simp -implicitDefEqProofs (disch:=first|assumption|omega|(simp only[aE,aF,aD,i64,sa,aB,lm,la,lc,ln];omega)) only[go_sem,simprocAttr,g,l0]
theorem z7T(a b z a2 b2:Option D):upd (upd (upd (upd (upd emp (0,0) a) (1,0) b) (1,97) z) (0,0) a2) (1,97) b2=upd (upd (upd emp (0,0) a2) (1,0) b) (1,97) b2:=by
 funext k
 simp only[upd]
 by_cases h1:k=(1,97)
 ·simp only[if_pos h1]
 ·by_cases h2:k=(0,0)
  ·simp only[if_neg h1,if_pos h2]
   simp[h2]
  ·simp only[if_neg h1,if_neg h2]
abbrev zkA(Z V:List (List D))(n:Nat)(j:Int):St:={env:=upd (upd (upd (upd (upd emp 10 (some (I j))) 9 (some (I (n:Int)))) 8 (some (.ref (0,0) []))) 3 (some (.ref (1,0) []))) 0 (some (.ref (0,0) [])),heap:=upd (upd emp (0,0) (some (.s 7 Z))) (1,0) (some (.s 7 V)),fr:=1,next:=1}
theorem zW9(A B:List ZA)(i:Nat)(x:ZA)(h:(A++B)[i]? = some x):(A.map ZA.uu++B.map ZA.o)[i]? = some x.uu∨(A.map ZA.uu++B.map ZA.o)[i]? = some x.o:=by
 by_cases c:i<A.length
 ·left
  rw[List.getElem?_append_left (by simpa using c),List.getElem?_map]
  rw[List.getElem?_append_left c] at h
  rw[h];rfl
 ·right
  rw[List.getElem?_append_right (by rw[lm];omega),lm,List.getElem?_map]
  rw[List.getElem?_append_right (by omega)] at h
  rw[h];rfl
theorem z8n(A:List ZA)(t:ZA)(Bl:List ZA)(hl:A.length+Bl.length+1≤900)(V:List (List D))(hV:V.length≤A.length)(n:Nat)(hn:n=A.length+(Bl.length+1))(L:List ZA)(hL:L=A++t::Bl) :
  loopW tab [0,3,8,9,10] cE (zkA (A.map ZA.uu++(t::Bl).map ZA.o) V n (A.length:Int))=loopW tab [0,3,8,9,10] cE (zkA ((A++[t]).map ZA.uu++Bl.map ZA.o) (if (!decide (t.fOp=8)||goG kT L t.fN)=true then V++[t.o] else V) n ((A.length:Int)+1)):=by
 obtain⟨p0,q0,l0⟩:=Nw A t Bl
 have l1:((A++[t]).map ZA.uu++Bl.map ZA.o).length=A.length+(Bl.length+1):=by
  rw[la,lm,lm,la,zqa]
  omega
 have hdr:=bQ
 have gk:∀n1:Nat,2≤n1→a8 n1 (upd (upd (upd emp (0,0) (some (.s 7 ((A++[t]).map ZA.uu++Bl.map ZA.o)))) (1,0) (some (.s 7 V))) (1,97) (some (.s 7 [t.o])))=upd (upd (upd emp (0,0) (some (.s 7 ((A++[t]).map ZA.uu++Bl.map ZA.o)))) (1,0) (some (.s 7 V))) (1,97) (some (.s 7 [t.o])):=fun n1 h1=>z8 h1 (z8 h1 (z8 (Nat.lt_of_lt_of_le (by decide) h1) (iW _)))
 have gc:=z9N mP 1 97 (zW t.fN) _ 2 (gk 2 (by omega)) (gk 3 (by omega)) (by omega) L (by rw[hL];simp;omega) ((A++[t]).map ZA.uu++Bl.map ZA.o) (by rw[l1,hL];simp) (fun i x h=>zW9 (A++[t]) Bl i x (by rw[zqc,List.singleton_append,←hL];exact h)) (by simp[upd]) (fun x _ c=>yH t x c 1 97 (.s 1 (aP t.fArgs)) _ 4 (gk 4 (by omega)) (by omega) (by simp[upd];rfl))
 rw[←Tr] at gc
 simp only[zkA]
 generalize A.map ZA.uu++(t::Bl).map ZA.o=R at *
 generalize (A++[t]).map ZA.uu++Bl.map ZA.o=R2 at *
 simp only[ZA.uu,ZA.o] at p0 q0 gc ⊢
 conv=>lhs;unfold loopW;arg 1;unfold cE
 by_cases c8:t.fOp=8
 ·simp only[c8,decide_true,Bool.not_true,Bool.false_or] at p0 q0 gc ⊢
  cases g:goG kT L t.fN<;>rw[g] at gc<;>simp only[if_true,Bool.false_eq_true,if_false]<;>simp -implicitDefEqProofs (disch:=first|assumption|omega|(simp only[aE,aF,aD,i64,sa,aB,lm,la,lc,ln];omega)) only[go_sem,simprocAttr,p0,q0,l0,l1,c8,gc,hdr,z7T,show((A.length:Int)<n) by omega]
 ·simp only[c8,decide_false,Bool.not_false,Bool.true_or,if_true]
  simp -implicitDefEqProofs (disch:=first|assumption|omega|(simp only[aE,aF,aD,i64,sa,aB,lm,la,lc,ln];omega)) only[go_sem,simprocAttr,p0,q0,l0,l1,c8,hdr,show((A.length:Int)<n) by omega]
theorem zX7(n:Nat)(hn:n≤900)(L:List ZA):∀(Bl A:List ZA) (V:List (List D)),L=A++Bl→n=A.length+Bl.length→V.length≤A.length →
  loopW tab [0,3,8,9,10] cE (zkA (A.map ZA.uu++Bl.map ZA.o) V n (A.length:Int))=some (.ext 0,{env:=upd emp 3 (some (.ref (1,0) [])),heap:=upd (upd emp (0,0) (some (.s 7 (L.map ZA.uu)))) (1,0) (some (.s 7 (V++(oM kT L Bl).map ZA.o))),fr:=1,next:=1})
 |[],A,V,hL,hA,hV=>by
  have hdr:=bQ
  rw[ln] at hA
  rw[zqe] at hL
  subst hL
  simp only[oM,mn,zqe,zkA]
  generalize L.map ZA.uu=R at *
  unfold loopW
  conv=>lhs;arg 1;unfold cE
  simp -implicitDefEqProofs (disch:=first|assumption|omega|(simp only[aE,aF,aD,i64,sa,aB,lm,la,lc,ln];omega)) only[go_sem,simprocAttr,hdr,show ¬((L.length:Int)<n) by omega]
 |t::Bl,A,V,hL,hA,hV=>by
  rw[lc] at hA
  rw[z8n A t Bl (by omega) V hV n hA L hL,nP]
  have ih:=fun V2 (h2:V2.length≤A.length+1)=>zX7 n hn L Bl (A++[t]) V2 (by rw[hL];simp) (by simp;omega) (by simpa using h2)
  rw[la,zqa,show(((A.length+1:Nat)):Int)=(A.length:Int)+1 by omega] at ih
  by_cases c:(!decide (t.fOp=8)||goG kT L t.fN)=true
  ·rw[if_pos c,if_pos c,List.map_append (l₁:=[t]),show([t]:List ZA).map ZA.o=[t.o] from rfl,←List.append_assoc V,←ih _ (by simp;omega)]
  ·rw[if_neg c,if_neg c,zqf,←ih _ (by omega)]
theorem Tm(L:List ZA)(hl:L.length≤900):evCW tab rK [.ref (0,0) []] (upd emp (0,0) (some (.s 7 (L.map ZA.o)))) 1=some (.d (.s 7 ((oM kT L L).map ZA.o)),upd emp (0,0) (some (.s 7 (L.map ZA.uu)))):=by
 have g:=zX7 L.length hl L L [] [] rfl (by simp) (by simp)
 have l0:(L.map ZA.o).length=L.length:=List.length_map _
 have hdr:=bQ
 simp only[zkA,zqf,mn,ln,show((0:Nat):Int)=0 from rfl] at g
 generalize (oM kT L L).map ZA.o=V at *
 generalize L.map ZA.uu=R2 at *
 generalize L.map ZA.o=R at *
 rw[bU F5 _ _ _ rfl,wX]
 simp -implicitDefEqProofs (disch:=first|assumption|omega|(simp only[aE,aF,aD,i64,sa,aB,lm,la,lc,ln];omega)) only[go_sem,simprocAttr,g,l0,hdr]
set_option maxRecDepth 8000
set_option maxHeartbeats 16000000
def ZA.q(x:ZA)(c:D):List D:=[DI x.fOp,DI x.fD,DI x.fA,DI x.fB,DI x.fN,DS x.fS,c]
structure RowOf (L:List ZA) (R:List (List D)):Prop where
 len:R.length=L.length
 at':∀(i:Nat) (x:ZA),L[i]? = some x→∃c,R[i]? = some (x.q c)
theorem RowOf.uu(L:List ZA):RowOf L (L.map ZA.uu):=⟨List.length_map _,fun i x h=>⟨.u,by rw[List.getElem?_map,h];rfl⟩⟩
theorem RowOf.o(L:List ZA):RowOf L (L.map ZA.o):=⟨List.length_map _,fun i x h=>⟨.s 1 (aP x.fArgs),by rw[List.getElem?_map,h];rfl⟩⟩
theorem zq9:∀(R:List (List D)) (i:Nat),(fzs R)[i]? = (R[i]?).map fzl
 |[],i=>by simp[Ev.fzs]
 |r::R,0=>by simp[Ev.fzs]
 |r::R,i+1=>by rw[Ev.fzs,List.getElem?_cons_succ,List.getElem?_cons_succ,zq9 R i]
theorem r8:∀(R:List (List D)),(fzs R).length=R.length
 |[]=>by simp[Ev.fzs]
 |r::R=>by rw[Ev.fzs,lc,lc,r8 R]
theorem RowOf.fz{L:List ZA}{R:List (List D)}(h:RowOf L R):RowOf L (fzs R):=by
 refine⟨by rw[r8,h.len],fun i x hi=> ?_⟩
 obtain⟨c,hc⟩:=h.at' i x hi
 refine⟨c.fz,?_⟩
 rw[zq9,hc]
 simp only[oms,ZA.q,Ev.fzl,D.fz]
theorem zq2(L:List ZA)(hl:L.length≤900)(R:List (List D))(hR:RowOf L R)(n:Int):∀(Bl:List ZA) (j:Nat),L.drop j=Bl →
  loopW tab [0,1,5] cZ {env:=upd (upd (upd emp 5 (some (I (j:Int)))) 1 (some (I n))) 0 (some (.d (.r R))),heap:=emp,fr:=0,next:=0} =
  if Bl.any (zW n)=true then some (.ret,{env:=upd emp 4 (some (B true)),heap:=emp,fr:=0,next:=0}) else some (.ext 0,{env:=emp,heap:=emp,fr:=0,next:=0})
 |[],j,hd=>by
  have:=drop_nil hd
  have l0:=hR.len
  simp only[List.any_nil,Bool.false_eq_true,if_false]
  unfold loopW
  conv=>lhs;arg 1;unfold cZ
  simp -implicitDefEqProofs (disch:=first|assumption|omega|(simp only[aE,aF,aD,i64,sa,aB,lm,la,lc,ln];omega)) only[go_sem,simprocAttr,l0,show ¬((j:Int)<L.length) by omega]
 |t::Bl,j,hd=>by
  obtain⟨ht,hlen,hd2⟩:=c7 hd
  have l0:=hR.len
  obtain⟨c,p0⟩:=hR.at' j t ht
  simp only[ZA.q] at p0
  have ih:=zq2 L hl R hR n Bl (j+1) hd2
  rw[show(((j+1:Nat)):Int)=(j:Int)+1 by omega] at ih
  rw[List.any_cons]
  unfold zW
  by_cases c9:t.fOp=9
  ·by_cases cn:t.fN=n
   ·simp only[c9,cn,decide_true,Bool.true_or,bat,if_true]
    conv=>lhs;unfold loopW;arg 1;unfold cZ
    simp -implicitDefEqProofs (disch:=first|assumption|omega|(simp only[aE,aF,aD,i64,sa,aB,lm,la,lc,ln];omega)) only[go_sem,simprocAttr,p0,l0,c9,cn,show((j:Int)<L.length) by omega]
   ·simp only[c9,cn,decide_true,decide_false,Bool.true_or,uH,Bool.false_or]
    rw[show(fun x:ZA=>(decide (x.fOp=9)||decide (x.fOp=10))&&decide (x.fN=n))=zW n from rfl,←ih]
    conv=>lhs;unfold loopW;arg 1;unfold cZ
    simp -implicitDefEqProofs (disch:=first|assumption|omega|(simp only[aE,aF,aD,i64,sa,aB,lm,la,lc,ln];omega)) only[go_sem,simprocAttr,p0,l0,c9,cn,show((j:Int)<L.length) by omega]
  ·by_cases c10:t.fOp=10
   ·by_cases cn:t.fN=n
    ·simp only[c10,cn,decide_true,Bool.or_true,bat,Bool.true_or,if_true]
     conv=>lhs;unfold loopW;arg 1;unfold cZ
     simp -implicitDefEqProofs (disch:=first|assumption|omega|(simp only[aE,aF,aD,i64,sa,aB,lm,la,lc,ln];omega)) only[go_sem,simprocAttr,p0,l0,c10,cn,show((j:Int)<L.length) by omega]
    ·simp only[c10,cn,decide_true,decide_false,Bool.or_true,uH,Bool.false_or]
     rw[show(fun x:ZA=>(decide (x.fOp=9)||decide (x.fOp=10))&&decide (x.fN=n))=zW n from rfl,←ih]
     conv=>lhs;unfold loopW;arg 1;unfold cZ
     simp -implicitDefEqProofs (disch:=first|assumption|omega|(simp only[aE,aF,aD,i64,sa,aB,lm,la,lc,ln];omega)) only[go_sem,simprocAttr,p0,l0,c10,cn,show((j:Int)<L.length) by omega]
   ·simp only[c9,c10,decide_false,Bool.or_false,bfa,Bool.false_or]
    rw[show(fun x:ZA=>(decide (x.fOp=9)||decide (x.fOp=10))&&decide (x.fN=n))=zW n from rfl,←ih]
    conv=>lhs;unfold loopW;arg 1;unfold cZ
    simp -implicitDefEqProofs (disch:=first|assumption|omega|(simp only[aE,aF,aD,i64,sa,aB,lm,la,lc,ln];omega)) only[go_sem,simprocAttr,p0,l0,c9,c10,show((j:Int)<L.length) by omega]
theorem yI(L:List ZA)(hl:L.length≤900)(R:List (List D))(hR:RowOf L R)(n:Int):call tab w6 [.d (.r R),I n]=some (B (goG kT L n)):=by
 have g:=zq2 L hl R hR n L 0 rfl
 rw[show((0:Nat):Int)=0 from rfl] at g
 rw[Tr,aQ Na _ rfl,Bf]
 cases e:L.any (zW n)<;>rw[e] at g<;>simp only[if_true,Bool.false_eq_true,if_false] at g<;>simp -implicitDefEqProofs (disch:=first|assumption|omega|(simp only[aE,aF,aD,i64,sa,aB,lm,la,lc,ln];omega)) only[go_sem,simprocAttr,g]
theorem x4(L:List ZA)(hl:L.length≤900)(R:List (List D))(hR:RowOf L R):call tab xS [.d (.r R)]=some (B (xZ kT L)):=by
 have l0:=hR.len
 rw[aQ L7 _ rfl,B0]
 unfold xZ
 cases e:L.getLast? with
 |none =>
  rw[List.getLast?_eq_none_iff] at e
  subst e
  rw[ln] at l0
  simp -implicitDefEqProofs (disch:=first|assumption|omega|(simp only[aE,aF,aD,i64,sa,aB,lm,la,lc,ln];omega)) only[go_sem,simprocAttr,l0]
 |some t =>
  have hne:0<L.length:=by
   cases L with
   |nil=>simp at e
   |cons a l=>simp
  rw[List.getLast?_eq_getElem?] at e
  obtain⟨c,p0⟩:=hR.at' _ t e
  simp only[ZA.q] at p0
  have p1:R[((L.length:Int)-1).toNat]? = some [DI t.fOp,DI t.fD,DI t.fA,DI t.fB,DI t.fN,DS t.fS,c]:=by
   rw[show((L.length:Int)-1).toNat=L.length-1 by omega];exact p0
  simp only[kT,jJ]
  by_cases c1:t.fOp=12
  ·simp only[c1,decide_true,Bool.true_or] at p1 ⊢
   simp -implicitDefEqProofs (disch:=first|assumption|omega|(simp only[aE,aF,aD,i64,sa,aB,lm,la,lc,ln];omega)) only[go_sem,simprocAttr,l0,p1,c1,show((L.length:Int)>0) by omega,show(0<(L.length:Int)) by omega]
  ·by_cases c2:t.fOp=9
   ·simp only[c2,decide_true,Bool.true_or,Bool.or_true] at p1 ⊢
    simp -implicitDefEqProofs (disch:=first|assumption|omega|(simp only[aE,aF,aD,i64,sa,aB,lm,la,lc,ln];omega)) only[go_sem,simprocAttr,l0,p1,c2,show(0<(L.length:Int)) by omega]
   ·by_cases c3:t.fOp=28
    ·simp only[c3,decide_true,Bool.or_true] at p1 ⊢
     simp -implicitDefEqProofs (disch:=first|assumption|omega|(simp only[aE,aF,aD,i64,sa,aB,lm,la,lc,ln];omega)) only[go_sem,simprocAttr,l0,p1,c3,show(0<(L.length:Int)) by omega]
    ·simp only[c1,c2,c3,decide_false,Bool.or_false]
     simp -implicitDefEqProofs (disch:=first|assumption|omega|(simp only[aE,aF,aD,i64,sa,aB,lm,la,lc,ln];omega)) only[go_sem,simprocAttr,l0,p1,c1,c2,c3,show(0<(L.length:Int)) by omega]
set_option maxRecDepth 8000
set_option maxHeartbeats 16000000
abbrev s0S(L:List ZA)(V:List (List D))(o:Bool)(j:Int):St:={env:=upd (upd (upd (upd emp 5 (some (I j))) 4 (some (B (!o)))) 3 (some (.ref (0,0) []))) 0 (some (.d (.r (L.map ZA.uu)))),heap:=upd emp (0,0) (some (.s 7 V)),fr:=0,next:=1}
theorem z7u(L:List ZA)(hl:L.length≤900)(t:ZA)(Bl:List ZA)(j:Nat)(V:List (List D))(o:Bool)(hd:L.drop j=t::Bl)(hV:V.length≤j) :
  loopW tab [0,3,4,5] bK (s0S L V o (j:Int))=loopW tab [0,3,4,5] bK (s0S L (if pC o t=true then V++[t.uu] else V) (pC o t&& !jJ t.fOp) ((j:Int)+1)):=by
 obtain⟨ht,hlen,_⟩:=c7 hd
 have p0:(L.map ZA.uu)[j]? = some t.uu:=by rw[List.getElem?_map,ht];rfl
 have l0:(L.map ZA.uu).length=L.length:=List.length_map _
 simp only[s0S]
 generalize L.map ZA.uu=R at *
 simp only[ZA.uu] at p0 ⊢
 unfold pC jJ
 conv=>lhs;unfold loopW;arg 1;unfold bK
 by_cases c8:t.fOp=8
 ·simp only[c8,decide_true,Bool.or_true,if_true] at p0 ⊢
  cases o<;>simp -implicitDefEqProofs (disch:=first|assumption|omega|(simp only[aE,aF,aD,i64,sa,aB,lm,la,lc,ln];omega)) only[go_sem,simprocAttr,p0,l0,c8,show((j:Int)<L.length) by omega]
 ·by_cases c9:t.fOp=9
  ·cases o<;>simp only[c9,decide_true,Bool.or_true,Bool.true_or,Bool.not_true,uH] at p0 ⊢ <;> simp -implicitDefEqProofs (disch:=first|assumption|omega|(simp only[aE,aF,aD,i64,sa,aB,lm,la,lc,ln];omega)) only[go_sem,simprocAttr,p0,l0,c9,show((j:Int)<L.length) by omega]
  ·by_cases c12:t.fOp=12
   ·cases o<;>simp only[c12,decide_true,Bool.or_true,Bool.true_or,Bool.not_true,uH] at p0 ⊢ <;> simp -implicitDefEqProofs (disch:=first|assumption|omega|(simp only[aE,aF,aD,i64,sa,aB,lm,la,lc,ln];omega)) only[go_sem,simprocAttr,p0,l0,c12,show((j:Int)<L.length) by omega]
   ·by_cases c28:t.fOp=28
    ·cases o<;>simp only[c28,decide_true,Bool.or_true,Bool.true_or,Bool.not_true,uH] at p0 ⊢ <;> simp -implicitDefEqProofs (disch:=first|assumption|omega|(simp only[aE,aF,aD,i64,sa,aB,lm,la,lc,ln];omega)) only[go_sem,simprocAttr,p0,l0,c28,show((j:Int)<L.length) by omega]
    ·cases o<;>simp only[c8,c9,c12,c28,decide_false,Bool.or_false,Bool.false_eq_true,if_false,Bool.not_false,bat,if_true]<;>simp -implicitDefEqProofs (disch:=first|assumption|omega|(simp only[aE,aF,aD,i64,sa,aB,lm,la,lc,ln];omega)) only[go_sem,simprocAttr,p0,l0,c8,c9,c12,c28,show((j:Int)<L.length) by omega]
theorem z6k(L:List ZA)(hl:L.length≤900):∀(Bl:List ZA) (j:Nat) (V:List (List D)) (o:Bool),L.drop j=Bl→V.length≤j →
  loopW tab [0,3,4,5] bK (s0S L V o (j:Int))=some (.ext 0,{env:=upd emp 3 (some (.ref (0,0) [])),heap:=upd emp (0,0) (some (.s 7 (V++(dI kT o Bl).map ZA.uu))),fr:=0,next:=1})
 |[],j,V,o,hd,hV=>by
  have:=drop_nil hd
  have l0:(L.map ZA.uu).length=L.length:=List.length_map _
  simp only[dI,mn,zqe,s0S]
  generalize L.map ZA.uu=R at *
  unfold loopW
  conv=>lhs;arg 1;unfold bK
  simp -implicitDefEqProofs (disch:=first|assumption|omega|(simp only[aE,aF,aD,i64,sa,aB,lm,la,lc,ln];omega)) only[go_sem,simprocAttr,l0,show ¬((j:Int)<L.length) by omega]
 |t::Bl,j,V,o,hd,hV=>by
  rw[z7u L hl t Bl j V o hd hV,nC]
  have ih:=fun V2 (h2:V2.length≤j+1)=>z6k L hl Bl (j+1) V2 (pC o t&& !jJ t.fOp) (c7 hd).2.2 h2
  rw[show(((j+1:Nat)):Int)=(j:Int)+1 by omega] at ih
  by_cases c:pC o t=true
  ·rw[if_pos c,if_pos c,List.map_append,mc,mn,←List.append_assoc,←ih _ (by simp;omega)]
  ·rw[if_neg c,if_neg c,zqf,←ih _ (by omega)]
abbrev s1S(L:List ZA)(V:List (List D))(j:Int):St:={env:=upd (upd (upd emp 8 (some (I j))) 7 (some (.ref (0,1) []))) 3 (some (.ref (0,0) [])),heap:=upd (upd emp (0,1) (some (.s 7 V))) (0,0) (some (.s 7 (L.map ZA.uu))),fr:=0,next:=2}
theorem z6f(L:List ZA)(hl:L.length≤900)(t:ZA)(Bl:List ZA)(j:Nat)(V:List (List D))(hd:L.drop j=t::Bl)(hV:V.length≤j) :
  loopW tab [3,7,8] bP (s1S L V (j:Int))=loopW tab [3,7,8] bP (s1S L (if mH kT t Bl=true then V else V++[t.uu]) ((j:Int)+1)):=by
 obtain⟨ht,hlen,hd2⟩:=c7 hd
 have p0:(L.map ZA.uu)[j]? = some t.uu:=by rw[List.getElem?_map,ht];rfl
 have l0:(L.map ZA.uu).length=L.length:=List.length_map _
 have p1:∀(b:ZA) (Cl:List ZA),Bl=b::Cl→(L.map ZA.uu)[((j:Int)+1).toNat]? = some b.uu:=fun b Cl e=>by
  rw[show((j:Int)+1).toNat=j+1 by omega,List.getElem?_map,(c7 (e ▸ hd2:L.drop (j+1)=b::Cl)).1];rfl
 simp only[s1S]
 generalize L.map ZA.uu=R at *
 simp only[ZA.uu] at p0 p1 ⊢
 conv=>lhs;unfold loopW;arg 1;unfold bP
 by_cases c9:t.fOp=9
 ·cases Bl with
  |nil =>
   simp only[mH,Bool.false_eq_true,if_false]
   rw[ln] at hlen
   simp -implicitDefEqProofs (disch:=first|assumption|omega|(simp only[aE,aF,aD,i64,sa,aB,lm,la,lc,ln];omega)) only[go_sem,simprocAttr,p0,l0,c9,show((j:Int)<L.length) by omega,show ¬((j:Int)+1<L.length) by omega]
  |cons b Cl =>
   rw[lc] at hlen
   have p1:=p1 b Cl rfl
   simp only[mH,kT,c9,decide_true,bta]
   by_cases b8:b.fOp=8
   ·simp only[b8,decide_true,bta]
    by_cases bn:b.fN=t.fN
    ·simp only[bn,decide_true,if_true]
     simp -implicitDefEqProofs (disch:=first|assumption|omega|(simp only[aE,aF,aD,i64,sa,aB,lm,la,lc,ln];omega)) only[go_sem,simprocAttr,p0,l0,c9,p1,b8,bn,show((j:Int)<L.length) by omega,show((j:Int)+1<L.length) by omega]
    ·simp only[bn,decide_false,Bool.false_eq_true,if_false]
     simp -implicitDefEqProofs (disch:=first|assumption|omega|(simp only[aE,aF,aD,i64,sa,aB,lm,la,lc,ln];omega)) only[go_sem,simprocAttr,p0,l0,c9,p1,b8,bn,show((j:Int)<L.length) by omega,show((j:Int)+1<L.length) by omega]
   ·simp only[b8,decide_false,bfa,Bool.false_eq_true,if_false]
    simp -implicitDefEqProofs (disch:=first|assumption|omega|(simp only[aE,aF,aD,i64,sa,aB,lm,la,lc,ln];omega)) only[go_sem,simprocAttr,p0,l0,c9,p1,b8,show((j:Int)<L.length) by omega,show((j:Int)+1<L.length) by omega]
 ·have e:mH kT t Bl=false:=by cases Bl<;>simp[mH,kT,c9]
  rw[e]
  simp only[Bool.false_eq_true,if_false]
  simp -implicitDefEqProofs (disch:=first|assumption|omega|(simp only[aE,aF,aD,i64,sa,aB,lm,la,lc,ln];omega)) only[go_sem,simprocAttr,p0,l0,c9,show((j:Int)<L.length) by omega]
theorem z6a(L:List ZA)(hl:L.length≤900):∀(Bl:List ZA) (j:Nat) (V:List (List D)),L.drop j=Bl→V.length≤j →
  loopW tab [3,7,8] bP (s1S L V (j:Int))=some (.ext 2,{env:=upd emp 7 (some (.ref (0,0) [])),heap:=upd emp (0,0) (some (.s 7 (V++(gH kT Bl).map ZA.uu))),fr:=0,next:=1})
 |[],j,V,hd,hV=>by
  have:=drop_nil hd
  have l0:(L.map ZA.uu).length=L.length:=List.length_map _
  simp only[gH,mn,zqe,s1S]
  generalize L.map ZA.uu=R at *
  unfold loopW
  conv=>lhs;arg 1;unfold bP
  simp -implicitDefEqProofs (disch:=first|assumption|omega|(simp only[aE,aF,aD,i64,sa,aB,lm,la,lc,ln];omega)) only[go_sem,simprocAttr,l0,show ¬((j:Int)<L.length) by omega]
 |t::Bl,j,V,hd,hV=>by
  rw[z6f L hl t Bl j V hd hV,nQ]
  have ih:=fun V2 (h2:V2.length≤j+1)=>z6a L hl Bl (j+1) V2 (c7 hd).2.2 h2
  rw[show(((j+1:Nat)):Int)=(j:Int)+1 by omega] at ih
  by_cases c:mH kT t Bl=true
  ·rw[if_pos c,if_pos c,zqf,←ih _ (by omega)]
  ·rw[if_neg c,if_neg c,List.map_append,mc,mn,←List.append_assoc,←ih _ (by simp;omega)]
abbrev s2S(L:List ZA)(V:List (List D))(j:Int):St:={env:=upd (upd (upd emp 11 (some (I j))) 10 (some (.ref (0,1) []))) 7 (some (.ref (0,0) [])),heap:=upd (upd emp (0,1) (some (.s 7 V))) (0,0) (some (.s 7 (L.map ZA.uu))),fr:=0,next:=2}
theorem z7z(L:List ZA)(hl:L.length≤900)(t:ZA)(Bl:List ZA)(j:Nat)(V:List (List D))(hd:L.drop j=t::Bl)(hV:V.length≤j) :
  loopW tab [7,10,11] bL (s2S L V (j:Int))=loopW tab [7,10,11] bL (s2S L (if (!decide (t.fOp=8)||goG kT L t.fN)=true then V++[t.uu] else V) ((j:Int)+1)):=by
 obtain⟨ht,hlen,hd2⟩:=c7 hd
 have p0:(L.map ZA.uu)[j]? = some t.uu:=by rw[List.getElem?_map,ht];rfl
 have l0:(L.map ZA.uu).length=L.length:=List.length_map _
 have gg:=yI L hl _ (RowOf.uu L).fz t.fN
 simp only[s2S]
 generalize L.map ZA.uu=R at *
 simp only[ZA.uu] at p0 ⊢
 conv=>lhs;unfold loopW;arg 1;unfold bL
 by_cases c8:t.fOp=8
 ·simp only[c8,decide_true,Bool.not_true,Bool.false_or] at p0 ⊢
  cases g:goG kT L t.fN<;>rw[g] at gg<;>simp only[if_true,Bool.false_eq_true,if_false]<;>simp -implicitDefEqProofs (disch:=first|assumption|omega|(simp only[aE,aF,aD,i64,sa,aB,lm,la,lc,ln];omega)) only[go_sem,simprocAttr,p0,l0,c8,gg,show((j:Int)<L.length) by omega]
 ·simp only[c8,decide_false,Bool.not_false,Bool.true_or,if_true]
  simp -implicitDefEqProofs (disch:=first|assumption|omega|(simp only[aE,aF,aD,i64,sa,aB,lm,la,lc,ln];omega)) only[go_sem,simprocAttr,p0,l0,c8,show((j:Int)<L.length) by omega]
theorem z7A(L:List ZA)(hl:L.length≤900):∀(Bl:List ZA) (j:Nat) (V:List (List D)),L.drop j=Bl→V.length≤j →
  loopW tab [7,10,11] bL (s2S L V (j:Int))=some (.ext 4,{env:=upd emp 10 (some (.ref (0,0) [])),heap:=upd emp (0,0) (some (.s 7 (V++(oM kT L Bl).map ZA.uu))),fr:=0,next:=1})
 |[],j,V,hd,hV=>by
  have:=drop_nil hd
  have l0:(L.map ZA.uu).length=L.length:=List.length_map _
  simp only[oM,mn,zqe,s2S]
  generalize L.map ZA.uu=R at *
  unfold loopW
  conv=>lhs;arg 1;unfold bL
  simp -implicitDefEqProofs (disch:=first|assumption|omega|(simp only[aE,aF,aD,i64,sa,aB,lm,la,lc,ln];omega)) only[go_sem,simprocAttr,l0,show ¬((j:Int)<L.length) by omega]
 |t::Bl,j,V,hd,hV=>by
  rw[z7z L hl t Bl j V hd hV,nP]
  have ih:=fun V2 (h2:V2.length≤j+1)=>z7A L hl Bl (j+1) V2 (c7 hd).2.2 h2
  rw[show(((j+1:Nat)):Int)=(j:Int)+1 by omega] at ih
  by_cases c:(!decide (t.fOp=8)||goG kT L t.fN)=true
  ·rw[if_pos c,if_pos c,List.map_append,mc,mn,←List.append_assoc,←ih _ (by simp;omega)]
  ·rw[if_neg c,if_neg c,zqf,←ih _ (by omega)]
theorem uO:∀(L:List ZA) (o:Bool),(dI kT o L).length≤L.length
 |[],o=>by simp[dI]
 |t::L,o=>by
  have:=uO L (pC o t&& !jJ t.fOp)
  rw[nC,la,lc]
  split<;>simp<;>omega
theorem vA:∀(L:List ZA),(gH kT L).length≤L.length
 |[]=>by simp[gH]
 |t::L=>by
  have:=vA L
  rw[nQ,la,lc]
  split<;>simp<;>omega
theorem Wl(all:List ZA):∀(L:List ZA),(oM kT all L).length≤L.length
 |[]=>by simp[oM]
 |t::L=>by
  have:=Wl all L
  rw[nP,la,lc]
  split<;>simp<;>omega
theorem pY(L:List ZA):(cJ kT L).length≤L.length:=by
 have h1:=uO L true
 have h2:=vA (dI kT true L)
 have h3:=Wl (gH kT (dI kT true L)) (gH kT (dI kT true L))
 unfold cJ
 omega
theorem Ke(L:List ZA)(hl:L.length≤900):call tab mO [.d (.r (L.map ZA.uu))]=some (.d (.s 7 ((cJ kT L).map ZA.uu))):=by
 have h1:=uO L true
 have h2:=vA (dI kT true L)
 have g0:=z6k L hl L 0 [] true rfl (by simp)
 have g1:=z6a (dI kT true L) (by omega) (dI kT true L) 0 [] rfl (by simp)
 have g2:=z7A (gH kT (dI kT true L)) (by omega) (gH kT (dI kT true L)) 0 [] rfl (by simp)
 simp only[s0S,s1S,s2S,zqf,Bool.not_true,show((0:Nat):Int)=0 from rfl] at g0 g1 g2
 rw[←cJ] at g2
 generalize (cJ kT L).map ZA.uu=Z3 at *
 generalize (gH kT (dI kT true L)).map ZA.uu=Z2 at *
 generalize (dI kT true L).map ZA.uu=Z1 at *
 generalize L.map ZA.uu=R at *
 rw[aQ zY _ rfl,qH]
 simp -implicitDefEqProofs (disch:=first|assumption|omega|(simp only[aE,aF,aD,i64,sa,aB,lm,la,lc,ln];omega)) only[go_sem,simprocAttr,g0,g1,g2]
set_option maxRecDepth 8000
set_option maxHeartbeats 16000000
abbrev s0L(Z V:List (List D))(o:Bool)(j:Int):St:={env:=upd (upd (upd (upd emp 5 (some (I j))) 4 (some (B (!o)))) 3 (some (.ref (1,0) []))) 0 (some (.ref (0,0) [])),heap:=upd (upd emp (0,0) (some (.s 7 Z))) (1,0) (some (.s 7 V)),fr:=1,next:=1}
theorem z7I(A:List ZA)(t:ZA)(Bl:List ZA)(hl:A.length+Bl.length+1≤900)(V:List (List D))(o:Bool)(hV:V.length≤A.length) :
  loopW tab [0,3,4,5] bK (s0L (A.map ZA.uu++(t::Bl).map ZA.o) V o (A.length:Int))=loopW tab [0,3,4,5] bK (s0L ((A++[t]).map ZA.uu++Bl.map ZA.o) (if pC o t=true then V++[t.o] else V) (pC o t&& !jJ t.fOp) ((A.length:Int)+1)):=by
 obtain⟨p0,q0,l0⟩:=Nw A t Bl
 have hdr:=bQ
 have hj:(A.length:Int)<((A.length+(Bl.length+1):Nat):Int):=by omega
 simp only[s0L]
 generalize A.map ZA.uu++(t::Bl).map ZA.o=R at *
 generalize (A++[t]).map ZA.uu++Bl.map ZA.o=R2 at *
 simp only[ZA.uu,ZA.o] at p0 q0 ⊢
 unfold pC jJ
 conv=>lhs;unfold loopW;arg 1;unfold bK
 by_cases c8:t.fOp=8
 ·simp only[c8,decide_true,Bool.or_true,if_true] at p0 q0 ⊢
  cases o<;>simp -implicitDefEqProofs (disch:=first|assumption|omega|(simp only[aE,aF,aD,i64,sa,aB,lm,la,lc,ln];omega)) only[go_sem,simprocAttr,p0,q0,l0,c8,hdr,hj]
 ·by_cases c9:t.fOp=9
  ·cases o<;>simp only[c9,decide_true,Bool.or_true,Bool.true_or,Bool.not_true,uH] at p0 q0 ⊢ <;> simp -implicitDefEqProofs (disch:=first|assumption|omega|(simp only[aE,aF,aD,i64,sa,aB,lm,la,lc,ln];omega)) only[go_sem,simprocAttr,p0,q0,l0,c9,hdr,hj]
  ·by_cases c12:t.fOp=12
   ·cases o<;>simp only[c12,decide_true,Bool.or_true,Bool.true_or,Bool.not_true,uH] at p0 q0 ⊢ <;> simp -implicitDefEqProofs (disch:=first|assumption|omega|(simp only[aE,aF,aD,i64,sa,aB,lm,la,lc,ln];omega)) only[go_sem,simprocAttr,p0,q0,l0,c12,hdr,hj]
   ·by_cases c28:t.fOp=28
    ·cases o<;>simp only[c28,decide_true,Bool.or_true,Bool.true_or,Bool.not_true,uH] at p0 q0 ⊢ <;> simp -implicitDefEqProofs (disch:=first|assumption|omega|(simp only[aE,aF,aD,i64,sa,aB,lm,la,lc,ln];omega)) only[go_sem,simprocAttr,p0,q0,l0,c28,hdr,hj]
    ·cases o<;>simp only[c8,c9,c12,c28,decide_false,Bool.or_false,Bool.false_eq_true,if_false,Bool.not_false,bat,if_true]<;>simp -implicitDefEqProofs (disch:=first|assumption|omega|(simp only[aE,aF,aD,i64,sa,aB,lm,la,lc,ln];omega)) only[go_sem,simprocAttr,p0,q0,l0,c8,c9,c12,c28,hdr,hj]
theorem z7Y:∀(Bl A:List ZA) (V:List (List D)) (o:Bool),A.length+Bl.length≤900→V.length≤A.length →
  loopW tab [0,3,4,5] bK (s0L (A.map ZA.uu++Bl.map ZA.o) V o (A.length:Int))=some (.ext 0,{env:=upd emp 3 (some (.ref (1,0) [])),heap:=upd (upd emp (0,0) (some (.s 7 ((A++Bl).map ZA.uu)))) (1,0) (some (.s 7 (V++(dI kT o Bl).map ZA.o))),fr:=1,next:=1})
 |[],A,V,o,hA,hV=>by
  have hdr:=bQ
  have l0:(A.map ZA.uu).length=A.length:=List.length_map _
  simp only[dI,mn,zqe,s0L]
  generalize A.map ZA.uu=R at *
  unfold loopW
  conv=>lhs;arg 1;unfold bK
  simp -implicitDefEqProofs (disch:=first|assumption|omega|(simp only[aE,aF,aD,i64,sa,aB,lm,la,lc,ln];omega)) only[go_sem,simprocAttr,hdr,l0,show ¬((A.length:Int)<A.length) by omega]
 |t::Bl,A,V,o,hA,hV=>by
  rw[lc] at hA
  rw[z7I A t Bl (by omega) V o hV,nC]
  have ih:=fun V2 (h2:V2.length≤A.length+1)=>z7Y Bl (A++[t]) V2 (pC o t&& !jJ t.fOp) (by simp;omega) (by simpa using h2)
  rw[la,zqa,show(((A.length+1:Nat)):Int)=(A.length:Int)+1 by omega,zqc,List.singleton_append] at ih
  by_cases c:pC o t=true
  ·rw[if_pos c,if_pos c,List.map_append (l₁:=[t]),show([t]:List ZA).map ZA.o=[t.o] from rfl,←List.append_assoc V,←ih _ (by simp;omega)]
  ·rw[if_neg c,if_neg c,zqf,←ih _ (by omega)]
abbrev s1L(W Z V:List (List D))(j:Int):St:={env:=upd (upd (upd emp 8 (some (I j))) 7 (some (.ref (1,1) []))) 3 (some (.ref (1,0) [])),heap:=upd (upd (upd emp (0,0) (some (.s 7 W))) (1,1) (some (.s 7 V))) (1,0) (some (.s 7 Z)),fr:=1,next:=2}
theorem z7K(W:List (List D))(A:List ZA)(t:ZA)(Bl:List ZA)(hl:A.length+Bl.length+1≤900)(V:List (List D))(hV:V.length≤A.length) :
  loopW tab [3,7,8] bP (s1L W (A.map ZA.uu++(t::Bl).map ZA.o) V (A.length:Int))=loopW tab [3,7,8] bP (s1L W ((A++[t]).map ZA.uu++Bl.map ZA.o) (if mH kT t Bl=true then V else V++[t.o]) ((A.length:Int)+1)):=by
 obtain⟨p0,q0,l0⟩:=Nw A t Bl
 have l1:((A++[t]).map ZA.uu++Bl.map ZA.o).length=A.length+(Bl.length+1):=by
  rw[la,lm,lm,la,zqa]
  omega
 have p1:∀(b:ZA) (Cl:List ZA),Bl=b::Cl→((A++[t]).map ZA.uu++Bl.map ZA.o)[((A.length:Int)+1).toNat]? = some b.o:=fun b Cl e=>by
  rw[e,show((A.length:Int)+1).toNat=(A++[t]).length by simp]
  exact(Nw (A++[t]) b Cl).1
 have hdr:=bQ
 have hj:(A.length:Int)<((A.length+(Bl.length+1):Nat):Int):=by omega
 simp only[s1L]
 generalize A.map ZA.uu++(t::Bl).map ZA.o=R at *
 generalize (A++[t]).map ZA.uu++Bl.map ZA.o=R2 at *
 simp only[ZA.uu,ZA.o] at p0 q0 p1 ⊢
 conv=>lhs;unfold loopW;arg 1;unfold bP
 by_cases c9:t.fOp=9
 ·simp only[c9] at q0
  cases Bl with
  |nil =>
   simp only[mH,Bool.false_eq_true,if_false]
   rw[ln] at l0 l1 hj
   simp -implicitDefEqProofs (disch:=first|assumption|omega|(simp only[aE,aF,aD,i64,sa,aB,lm,la,lc,ln];omega)) only[go_sem,simprocAttr,p0,q0,l0,l1,c9,hdr,hj]
  |cons b Cl =>
   rw[lc] at l0 l1 hj
   have p1:=p1 b Cl rfl
   simp only[mH,kT,c9,decide_true,bta]
   by_cases b8:b.fOp=8
   ·simp only[b8,decide_true,bta]
    by_cases bn:b.fN=t.fN
    ·simp only[bn,decide_true,if_true]
     simp -implicitDefEqProofs (disch:=first|assumption|omega|(simp only[aE,aF,aD,i64,sa,aB,lm,la,lc,ln];omega)) only[go_sem,simprocAttr,p0,q0,l0,l1,c9,p1,b8,bn,hdr,hj]
    ·simp only[bn,decide_false,Bool.false_eq_true,if_false]
     simp -implicitDefEqProofs (disch:=first|assumption|omega|(simp only[aE,aF,aD,i64,sa,aB,lm,la,lc,ln];omega)) only[go_sem,simprocAttr,p0,q0,l0,l1,c9,p1,b8,bn,hdr,hj]
   ·simp only[b8,decide_false,bfa,Bool.false_eq_true,if_false]
    simp -implicitDefEqProofs (disch:=first|assumption|omega|(simp only[aE,aF,aD,i64,sa,aB,lm,la,lc,ln];omega)) only[go_sem,simprocAttr,p0,q0,l0,l1,c9,p1,b8,hdr,hj]
 ·have e:mH kT t Bl=false:=by cases Bl<;>simp[mH,kT,c9]
  rw[e]
  simp only[Bool.false_eq_true,if_false]
  simp -implicitDefEqProofs (disch:=first|assumption|omega|(simp only[aE,aF,aD,i64,sa,aB,lm,la,lc,ln];omega)) only[go_sem,simprocAttr,p0,q0,l0,l1,c9,hdr,hj]
theorem z6g(W:List (List D)):∀(Bl A:List ZA) (V:List (List D)),A.length+Bl.length≤900→V.length≤A.length →
  loopW tab [3,7,8] bP (s1L W (A.map ZA.uu++Bl.map ZA.o) V (A.length:Int))=some (.ext 2,{env:=upd emp 7 (some (.ref (1,0) [])),heap:=upd (upd emp (0,0) (some (.s 7 W))) (1,0) (some (.s 7 (V++(gH kT Bl).map ZA.o))),fr:=1,next:=1})
 |[],A,V,hA,hV=>by
  have hdr:=bQ
  have l0:(A.map ZA.uu).length=A.length:=List.length_map _
  simp only[gH,mn,zqe,s1L]
  generalize A.map ZA.uu=R at *
  unfold loopW
  conv=>lhs;arg 1;unfold bP
  simp -implicitDefEqProofs (disch:=first|assumption|omega|(simp only[aE,aF,aD,i64,sa,aB,lm,la,lc,ln];omega)) only[go_sem,simprocAttr,hdr,l0,show ¬((A.length:Int)<A.length) by omega]
 |t::Bl,A,V,hA,hV=>by
  rw[lc] at hA
  rw[z7K W A t Bl (by omega) V hV,nQ]
  have ih:=fun V2 (h2:V2.length≤A.length+1)=>z6g W Bl (A++[t]) V2 (by simp;omega) (by simpa using h2)
  rw[la,zqa,show(((A.length+1:Nat)):Int)=(A.length:Int)+1 by omega] at ih
  by_cases c:mH kT t Bl=true
  ·rw[if_pos c,if_pos c,zqf,←ih _ (by omega)]
  ·rw[if_neg c,if_neg c,List.map_append (l₁:=[t]),show([t]:List ZA).map ZA.o=[t.o] from rfl,←List.append_assoc V,←ih _ (by simp;omega)]
abbrev s2L(W Z V:List (List D))(j:Int):St:={env:=upd (upd (upd emp 11 (some (I j))) 10 (some (.ref (1,1) []))) 7 (some (.ref (1,0) [])),heap:=upd (upd (upd emp (0,0) (some (.s 7 W))) (1,1) (some (.s 7 V))) (1,0) (some (.s 7 Z)),fr:=1,next:=2}
theorem z70(W:List (List D))(L:List ZA)(hl:L.length≤900)(t:ZA)(Bl:List ZA)(j:Nat)(V R:List (List D))(hd:L.drop j=t::Bl)(hV:V.length≤j)(hR:RowOf L R)(p0:R[j]? = some t.o) :
  loopW tab [7,10,11] bL (s2L W R V (j:Int))=loopW tab [7,10,11] bL (if (!decide (t.fOp=8)||goG kT L t.fN)=true then s2L W (R.set j t.uu) (V++[t.o]) ((j:Int)+1) else s2L W R V ((j:Int)+1)):=by
 obtain⟨ht,hlen,hd2⟩:=c7 hd
 have l0:=hR.len
 have gg:=yI L hl _ hR.fz t.fN
 have hdr:=bQ
 have hj:(j:Int)<(L.length:Int):=by omega
 simp only[s2L]
 simp only[ZA.uu,ZA.o] at p0 ⊢
 conv=>lhs;unfold loopW;arg 1;unfold bL
 by_cases c8:t.fOp=8
 ·simp only[c8,decide_true,Bool.not_true,Bool.false_or] at p0 ⊢
  cases g:goG kT L t.fN<;>rw[g] at gg<;>simp only[if_true,Bool.false_eq_true,if_false]<;>simp -implicitDefEqProofs (disch:=first|assumption|omega|(simp only[aE,aF,aD,i64,sa,aB,lm,la,lc,ln];omega)) only[go_sem,simprocAttr,p0,l0,c8,gg,hdr,hj]
 ·simp only[c8,decide_false,Bool.not_false,Bool.true_or,if_true]
  simp -implicitDefEqProofs (disch:=first|assumption|omega|(simp only[aE,aF,aD,i64,sa,aB,lm,la,lc,ln];omega)) only[go_sem,simprocAttr,p0,l0,c8,hdr,hj]
theorem RowOf.set{L:List ZA}{R:List (List D)}(h:RowOf L R){j:Nat}{t:ZA}(ht:L[j]? = some t)(c:D):RowOf L (R.set j (t.q c)):=by
 refine⟨by rw[List.length_set,h.len],fun i x hi=> ?_⟩
 have hl:=(List.getElem?_eq_some_iff.1 hi).1
 by_cases e:i=j
 ·subst e
  rw[ht] at hi
  cases hi
  exact⟨c,by rw[List.getElem?_set,if_pos rfl,if_pos (by rw[h.len];exact hl)]⟩
 ·rw[List.getElem?_set,if_neg (fun e2=>e e2.symm)]
  exact h.at' i x hi
theorem z7G(W:List (List D))(L:List ZA)(hl:L.length≤900):∀(Bl:List ZA) (j:Nat) (V R:List (List D)),L.drop j=Bl→V.length≤j→RowOf L R→(∀i,j≤i→R[i]? = (L[i]?).map ZA.o) →
  loopW tab [7,10,11] bL (s2L W R V (j:Int))=some (.ext 4,{env:=upd emp 10 (some (.ref (1,0) [])),heap:=upd (upd emp (0,0) (some (.s 7 W))) (1,0) (some (.s 7 (V++(oM kT L Bl).map ZA.o))),fr:=1,next:=1})
 |[],j,V,R,hd,hV,hR,hi=>by
  have:=drop_nil hd
  have l0:=hR.len
  have hdr:=bQ
  simp only[oM,mn,zqe,s2L]
  unfold loopW
  conv=>lhs;arg 1;unfold bL
  simp -implicitDefEqProofs (disch:=first|assumption|omega|(simp only[aE,aF,aD,i64,sa,aB,lm,la,lc,ln];omega)) only[go_sem,simprocAttr,l0,hdr,show ¬((j:Int)<L.length) by omega]
 |t::Bl,j,V,R,hd,hV,hR,hi=>by
  obtain⟨ht,hlen,hd2⟩:=c7 hd
  rw[z70 W L hl t Bl j V R hd hV hR (by rw[hi j (Nat.le_refl _),ht];rfl),nP]
  have ih:=fun V2 R2 (h2:V2.length≤j+1)=>z7G W L hl Bl (j+1) V2 R2 hd2 h2
  rw[show(((j+1:Nat)):Int)=(j:Int)+1 by omega] at ih
  by_cases c:(!decide (t.fOp=8)||goG kT L t.fN)=true
  ·rw[if_pos c,if_pos c,List.map_append,mc,mn,←List.append_assoc,←ih _ (R.set j t.uu) (by simp;omega) (hR.set ht .u) (fun i h2=>by rw[List.getElem?_set,if_neg (by omega)];exact hi i (by omega))]
  ·rw[if_neg c,if_neg c,zqf,←ih _ R (by omega) hR (fun i h2=>hi i (by omega))]
theorem N1(L:List ZA)(hl:L.length≤900):evCW tab mO [.ref (0,0) []] (upd emp (0,0) (some (.s 7 (L.map ZA.o)))) 1=some (.d (.s 7 ((cJ kT L).map ZA.o)),upd emp (0,0) (some (.s 7 (L.map ZA.uu)))):=by
 have h1:=uO L true
 have h2:=vA (dI kT true L)
 have hdr:=bQ
 have g0:=z7Y L [] [] true (by simpa using hl) (by simp)
 have g1:=z6g (L.map ZA.uu) (dI kT true L) [] [] (by simp;omega) (by simp)
 have g2:=z7G (L.map ZA.uu) (gH kT (dI kT true L)) (by omega) (gH kT (dI kT true L)) 0 [] ((gH kT (dI kT true L)).map ZA.o) rfl (by simp) (RowOf.o _) (fun i _=>List.getElem?_map ..)
 simp only[s0L,s1L,s2L,zqf,mn,ln,Bool.not_true,show((0:Nat):Int)=0 from rfl] at g0 g1 g2
 rw[←cJ] at g2
 generalize (cJ kT L).map ZA.o=Z3 at *
 generalize (gH kT (dI kT true L)).map ZA.o=Z2 at *
 generalize (dI kT true L).map ZA.o=Z1 at *
 generalize L.map ZA.uu=Q at *
 generalize L.map ZA.o=R at *
 rw[bU zY _ _ _ rfl,qH]
 simp -implicitDefEqProofs (disch:=first|assumption|omega|(simp only[aE,aF,aD,i64,sa,aB,lm,la,lc,ln];omega)) only[go_sem,simprocAttr,g0,g1,g2,hdr]
set_option maxRecDepth 8000
set_option maxHeartbeats 16000000
def nA:Nat→List ZA→List ZA
 |0,L=>L
 |k+1,L=>if mN kT L=true then L else nA k (cJ kT L)
def nN(u:ZB):ZB:=if jR u=true then⟨u.fName,u.fParams,u.fRegs,nA u.fCode.length u.fCode⟩ else u
theorem z7h(L:List ZA):mN opN (L.map ZA.o)=mN kT L:=zkF (k:=kT) (k':=opN) (f:=ZA.o) (fun x=>rfl) L
theorem F1(u:ZB)(L:List ZA):zQ2 3 (eU u (.s 7 (L.map ZA.o)))=mN kT L:=by
 rw[←z7h]
 rfl
theorem Eq{L:List ZA}(h:¬mN kT L=true):(cJ kT L).length<L.length∧xZ kT (cJ kT L)=true:=by
 have h1:=pY L
 simp only[mN,Bool.or_eq_true,zqd,Bool.not_eq_true',not_or,Bool.not_eq_false] at h
 exact⟨by omega,h.2⟩
theorem zym{L:List ZA}{t:ZA}(h:L[L.length-1]? = some t):xZ kT L=jJ t.fOp:=by
 rw[←List.getLast?_eq_getElem?] at h
 rw[xZ,h]
 rfl
theorem zYK(L:List ZA):((L.map ZA.r).map fun el=>el.map D.du)=L.map ZA.uu:=by
 rw[List.map_map]
 exact List.map_congr_left fun t _=>rfl
theorem Ub(L:List ZA):D.noR.noRss (L.map ZA.uu)=true:=lZ _ (fun x=>by simp[ZA.uu,D.noR.noRs,D.noR]) L
theorem zqt(L:List ZA):fzs (L.map ZA.uu)=L.map ZA.uu:=pS _ _ (fun x=>by simp only[ZA.uu,Ev.fzl,D.fz]) L
theorem zqT{L:List ZA}(h:L.length≠0):∃t,L[L.length-1]? = some t∧xZ kT L=jJ t.fOp∧(L.map ZA.uu)[((L.length:Int)-1).toNat]? = some t.uu∧(L.map ZA.o)[((L.length:Int)-1).toNat]? = some t.o:=by
 have hl:L.length-1<L.length:=by omega
 have e:L[L.length-1]? = some L[L.length-1]:=List.getElem?_eq_getElem hl
 refine⟨_,e,zym e,?_,?_⟩<;>rw[show((L.length:Int)-1).toNat=L.length-1 by omega,List.getElem?_map,e]<;>rfl
theorem Xn(u:ZB)(L:List ZA)(hl:L.length≤900)(c:mN kT L=true):loopW tab [2,3] eL (eU u (.s 7 (L.map ZA.o))) =
  some (.ret,{env:=upd emp 2 (some (.ptr (0,0) [] 0 0)),heap:=upd emp (0,0) (some (fE u (.s 7 (L.map ZA.o)))),fr:=0,next:=1}):=by
 have hq:=F1 u L
 have h1:=uO L true
 have h2:=vA (dI kT true L)
 have h3:=pY L
 have l0:(L.map ZA.o).length=L.length:=List.length_map _
 rw[c] at hq
 have g0:=zjA L hl
 have g1:=Oa (dI kT true L) (by omega)
 have g2:=Tq (gH kT (dI kT true L)) (by omega)
 rw[←cJ] at g2
 have e0:=ZA.fzs L
 have e1:=zYK L
 have n1:=Ub (dI kT true L)
 have n2:=Ub (gH kT (dI kT true L))
 have n3:=Ub (cJ kT L)
 have f1:=zqt (dI kT true L)
 have f2:=zqt (gH kT (dI kT true L))
 have f3:=zqt (cJ kT L)
 have l3:((cJ kT L).map ZA.uu).length=(cJ kT L).length:=List.length_map _
 simp only[eU] at hq ⊢
 simp only[mN,Bool.or_eq_true,zqd,Bool.not_eq_true'] at c
 unfold loopW
 conv=>lhs;arg 1;unfold eL
 by_cases d1:(cJ kT L).length=L.length
 ·simp -implicitDefEqProofs (disch:=first|assumption|omega|(simp only[aE,aF,aD,i64,sa,aB,lm,la,lc,ln];omega)) only[go_sem,simprocAttr,hq,g0,g1,g2,e0,e1,n1,n2,n3,f1,f2,f3,l3,l0,d1]
 ·by_cases d2:(cJ kT L).length=0
  ·simp -implicitDefEqProofs (disch:=first|assumption|omega|(simp only[aE,aF,aD,i64,sa,aB,lm,la,lc,ln];omega)) only[go_sem,simprocAttr,hq,g0,g1,g2,e0,e1,n1,n2,n3,f1,f2,f3,l3,l0,d1,d2,show ¬(0=L.length) by omega]
  ·obtain⟨t,ht,he,pu,_⟩:=zqT d2
   have ge:=E2 t.fOp
   rw[←he,c.resolve_left d1] at ge
   simp only[ZA.uu] at pu
   simp -implicitDefEqProofs (disch:=first|assumption|omega|(simp only[aE,aF,aD,i64,sa,aB,lm,la,lc,ln];omega)) only[go_sem,simprocAttr,hq,g0,g1,g2,e0,e1,n1,n2,n3,f1,f2,f3,l3,l0,d1,d2,pu,ge]
theorem zZP(u:ZB)(L:List ZA)(hl:L.length≤900)(c:¬mN kT L=true):loopW tab [2,3] eL (eU u (.s 7 (L.map ZA.o)))=loopW tab [2,3] eL (eU u (.s 7 ((cJ kT L).map ZA.o))):=by
 have hq:=F1 u L
 have h1:=uO L true
 have h2:=vA (dI kT true L)
 have h3:=pY L
 have l0:(L.map ZA.uu).length=L.length:=List.length_map _
 obtain⟨d1,d3⟩:=Eq c
 rw[Bool.not_eq_true] at c
 rw[c] at hq
 have g0:=zzY L hl
 have g1:=Pj (dI kT true L) (by omega)
 have g2:=Tm (gH kT (dI kT true L)) (by omega)
 rw[←cJ] at g2
 have n1:=ZA.noR (dI kT true L)
 have n2:=ZA.noR (gH kT (dI kT true L))
 have n3:=ZA.noR (cJ kT L)
 have l3:((cJ kT L).map ZA.o).length=(cJ kT L).length:=List.length_map _
 have d2:(cJ kT L).length≠0:=fun e=>by
  rw[List.eq_nil_of_length_eq_zero e] at d3
  simp[xZ] at d3
 obtain⟨t,ht,he,_,pu⟩:=zqT d2
 have ge:=E2 t.fOp
 rw[←he,d3] at ge
 simp only[eU] at hq ⊢
 simp only[ZA.o] at pu
 conv=>lhs;unfold loopW;arg 1;unfold eL
 simp -implicitDefEqProofs (disch:=first|assumption|omega|(simp only[aE,aF,aD,i64,sa,aB,lm,la,lc,ln];omega)) only[go_sem,simprocAttr,hq,g0,g1,g2,n1,n2,n3,l3,l0,show ¬(cJ kT L).length=L.length by omega,d2,pu,ge]
theorem zKk(u:ZB):∀(k:Nat) (L:List ZA),L.length≤k→L.length≤900→loopW tab [2,3] eL (eU u (.s 7 (L.map ZA.o))) =
  some (.ret,{env:=upd emp 2 (some (.ptr (0,0) [] 0 0)),heap:=upd emp (0,0) (some (fE u (.s 7 ((nA k L).map ZA.o)))),fr:=0,next:=1})
 |0,L,hk,hl=>by
  have e:L=[]:=List.eq_nil_of_length_eq_zero (by omega)
  subst e
  exact Xn u [] hl rfl
 |k+1,L,hk,hl=>by
  rw[nA]
  by_cases c:mN kT L=true
  ·rw[if_pos c]
   exact Xn u L hl c
  ·rw[if_neg c,zZP u L hl c]
   have:=(Eq c).1
   exact zKk u k (cJ kT L) (by omega) (by omega)
theorem Ph(u:ZB)(hs:u.sm):call tab vX [u.x]=some (nN u).xo:=by
 have g0:=eK u hs
 have g1:=jN u hs
 by_cases hu:jR u=true
 ·have hr:=hP hu
  rw[hu] at g1
  have g2:=zKk u u.fCode.length u.fCode (Nat.le_refl _) hr.len.2
  simp only[eU,fE] at g2
  rw[nN,if_pos hu]
  simp only[ZB.xo] at g0 ⊢
  generalize (nA u.fCode.length u.fCode).map ZA.o=Z at *
  rw[aQ Gd _ rfl,xT]
  simp -implicitDefEqProofs (disch:=first|assumption|omega|(simp only[aE,aF,aD,i64,sa,aB,lm,la,lc,ln];omega)) only[go_sem,simprocAttr,g0,g1,g2]
 ·rw[Bool.not_eq_true] at hu
  rw[hu] at g1
  rw[nN,if_neg (by rw[hu];simp),aQ Gd _ rfl,xT]
  simp -implicitDefEqProofs (disch:=first|assumption|omega|(simp only[aE,aF,aD,i64,sa,aB,lm,la,lc,ln];omega)) only[go_sem,simprocAttr,g0,g1]
theorem Ys(u:ZB)(L:List ZA)(hl:L.length≤900)(c:mN kT L=true):loopW tab [2,3] eP (eU u (.s 7 (L.map ZA.o))) =
  some (.ret,{env:=upd emp 2 (some (.ptr (0,0) [] 0 0)),heap:=upd emp (0,0) (some (fE u (.s 7 (L.map ZA.o)))),fr:=0,next:=1}):=by
 have hq:=F1 u L
 have h3:=pY L
 have l0:(L.map ZA.o).length=L.length:=List.length_map _
 rw[c] at hq
 have g0:=Ke L hl
 have e0:=ZA.fzs L
 have e1:=zYK L
 have n3:=Ub (cJ kT L)
 have f3:=zqt (cJ kT L)
 have l3:((cJ kT L).map ZA.uu).length=(cJ kT L).length:=List.length_map _
 have ge:=x4 (cJ kT L) (by omega) _ (RowOf.uu _)
 simp only[eU] at hq ⊢
 simp only[mN,Bool.or_eq_true,zqd,Bool.not_eq_true'] at c
 unfold loopW
 conv=>lhs;arg 1;unfold eP
 by_cases d1:(cJ kT L).length=L.length
 ·simp -implicitDefEqProofs (disch:=first|assumption|omega|(simp only[aE,aF,aD,i64,sa,aB,lm,la,lc,ln];omega)) only[go_sem,simprocAttr,hq,g0,e0,e1,n3,f3,l3,l0,d1]
 ·rw[c.resolve_left d1] at ge
  simp -implicitDefEqProofs (disch:=first|assumption|omega|(simp only[aE,aF,aD,i64,sa,aB,lm,la,lc,ln];omega)) only[go_sem,simprocAttr,hq,g0,e0,e1,n3,f3,l3,l0,d1,ge]
theorem zxp(u:ZB)(L:List ZA)(hl:L.length≤900)(c:¬mN kT L=true):loopW tab [2,3] eP (eU u (.s 7 (L.map ZA.o)))=loopW tab [2,3] eP (eU u (.s 7 ((cJ kT L).map ZA.o))):=by
 have hq:=F1 u L
 have h3:=pY L
 have l0:(L.map ZA.uu).length=L.length:=List.length_map _
 obtain⟨d1,d3⟩:=Eq c
 rw[Bool.not_eq_true] at c
 rw[c] at hq
 have g0:=N1 L hl
 have n3:=ZA.noR (cJ kT L)
 have l3:((cJ kT L).map ZA.o).length=(cJ kT L).length:=List.length_map _
 have ge:=x4 (cJ kT L) (by omega) _ (RowOf.o _).fz
 rw[d3] at ge
 simp only[eU] at hq ⊢
 conv=>lhs;unfold loopW;arg 1;unfold eP
 simp -implicitDefEqProofs (disch:=first|assumption|omega|(simp only[aE,aF,aD,i64,sa,aB,lm,la,lc,ln];omega)) only[go_sem,simprocAttr,hq,g0,n3,l3,l0,show ¬(cJ kT L).length=L.length by omega,ge]
theorem zZs(u:ZB):∀(k:Nat) (L:List ZA),L.length≤k→L.length≤900→loopW tab [2,3] eP (eU u (.s 7 (L.map ZA.o))) =
  some (.ret,{env:=upd emp 2 (some (.ptr (0,0) [] 0 0)),heap:=upd emp (0,0) (some (fE u (.s 7 ((nA k L).map ZA.o)))),fr:=0,next:=1})
 |0,L,hk,hl=>by
  have e:L=[]:=List.eq_nil_of_length_eq_zero (by omega)
  subst e
  exact Ys u [] hl rfl
 |k+1,L,hk,hl=>by
  rw[nA]
  by_cases c:mN kT L=true
  ·rw[if_pos c]
   exact Ys u L hl c
  ·rw[if_neg c,zxp u L hl c]
   have:=(Eq c).1
   exact zZs u k (cJ kT L) (by omega) (by omega)
theorem Pc(u:ZB)(hs:u.sm):call tab xJ [u.x]=some (nN u).xo:=by
 have g0:=eX u hs
 have g1:=jS u hs
 by_cases hu:jR u=true
 ·have hr:=hP hu
  rw[hu] at g1
  have g2:=zZs u u.fCode.length u.fCode (Nat.le_refl _) hr.len.2
  simp only[eU,fE] at g2
  rw[nN,if_pos hu]
  simp only[ZB.xo] at g0 ⊢
  generalize (nA u.fCode.length u.fCode).map ZA.o=Z at *
  rw[aQ En _ rfl,vV]
  simp -implicitDefEqProofs (disch:=first|assumption|omega|(simp only[aE,aF,aD,i64,sa,aB,lm,la,lc,ln];omega)) only[go_sem,simprocAttr,g0,g1,g2]
 ·rw[Bool.not_eq_true] at hu
  rw[hu] at g1
  rw[nN,if_neg (by rw[hu];simp),aQ En _ rfl,vV]
  simp -implicitDefEqProofs (disch:=first|assumption|omega|(simp only[aE,aF,aD,i64,sa,aB,lm,la,lc,ln];omega)) only[go_sem,simprocAttr,g0,g1]
set_option maxRecDepth 8000
set_option maxHeartbeats 16000000
theorem zVc(K:BL)(W:List Int)(t:ZA)(h:t.sm):(eO K W t).2.1.1.sm:=by
 have h0:∀d n,(Pa d n).sm:=fun d n=>⟨Nat.zero_le 1048576,by simp[Pa]⟩
 have h1:∀n,(zqi n).sm:=fun n=>⟨Nat.zero_le 1048576,by simp[zqi]⟩
 unfold eO
 repeat' split
 all_goals first|exact h|exact h0 _ _|exact h1 _
theorem Xe:∀(ts:List ZA) (K:BL) (W:List Int),(∀t∈ts,t.sm)→∀p∈lD K W ts,p.1.sm
 |[],K,W,h,p,hp=>by simp[lD] at hp
 |t::ts,K,W,h,p,hp=>by
  rw[lD,List.mem_append] at hp
  rcases hp with hp|hp
  ·split at hp
   ·rw[List.mem_singleton] at hp
    rw[hp]
    exact zVc K W t (h t (by simp))
   ·simp at hp
  ·exact Xe ts _ _ (fun t ht=>h t (by simp[ht])) p hp
theorem Nr{u:ZB}(h:u.sm):(vL u).sm:=by
 unfold vL
 split
 ·refine⟨h.1,?_,fun t ht=> ?_⟩
  ·have:=Rb u.fCode (List.replicate u.fRegs.toNat false) (List.replicate u.fRegs.toNat 0)
   rw[lm]
   exact Nat.le_trans this h.2.1
  ·obtain⟨p,hp,rfl⟩:=List.mem_map.1 ht
   exact Xe u.fCode _ _ h.2.2 p hp
 ·exact h
theorem zkH{so:List Int}{t:ZA}(h:t.sm):(bD so t).sm:=by
 refine⟨h.1,?_⟩
 simp only[bD]
 split
 ·rw[Sb];exact h.2
 ·exact h.2
theorem zXf{m:Nat}{so:List Int}{t:ZA}(h:t.sm):(G8 m so t).2.sm:=by
 rw[Ng]
 exact zkH h
theorem Xf(m:Nat):∀(ts:List ZA) (so:List Int),(B5 m so ts).length=ts.length
 |[],so=>rfl
 |t::ts,so=>by rw[B5,lc,Xf m ts,lc]
theorem zqE(m:Nat):∀(ts:List ZA) (so:List Int),(∀t∈ts,t.sm)→∀t∈B5 m so ts,t.sm
 |[],so,h,t,ht=>by simp[B5] at ht
 |x::ts,so,h,t,ht=>by
  rw[B5] at ht
  rcases List.mem_cons.1 ht with ht|ht
  ·rw[ht];exact zXf (h x (by simp))
  ·exact zqE m ts _ (fun t ht=>h t (by simp[ht])) t ht
theorem Uu{u:ZB}(h:u.sm):(Gs u).sm:=by
 unfold Gs
 split
 ·exact⟨h.1,by rw[Xf];exact h.2.1,zqE _ _ _ h.2.2⟩
 ·exact h
theorem V3:∀(k:Nat) (u:ZB),u.sm→(deadR k u).sm
 |0,u,h=>h
 |k+1,u,h=>by
  rw[deadR]
  split
  ·exact h
  ·exact V3 k (deadI u) (Tx h)
theorem Mx{u:ZB}(h:u.sm):(deadU u).sm:=by
 unfold deadU
 split
 ·exact V3 _ _ h
 ·exact h
theorem Vm:∀(L:List ZA) (o:Bool) (t:ZA),t∈dI kT o L→t∈L
 |[],o,t,h=>by simp[dI] at h
 |x::L,o,t,h=>by
  rw[nC,List.mem_append] at h
  rcases h with h|h
  ·split at h
   ·simp at h;simp[h]
   ·simp at h
  ·exact List.mem_cons_of_mem _ (Vm L _ t h)
theorem W9:∀(L:List ZA) (t:ZA),t∈gH kT L→t∈L
 |[],t,h=>by simp[gH] at h
 |x::L,t,h=>by
  rw[nQ,List.mem_append] at h
  rcases h with h|h
  ·split at h
   ·simp at h
   ·simp at h;simp[h]
  ·exact List.mem_cons_of_mem _ (W9 L t h)
theorem Wx(all:List ZA):∀(L:List ZA) (t:ZA),t∈oM kT all L→t∈L
 |[],t,h=>by simp[oM] at h
 |x::L,t,h=>by
  rw[nP,List.mem_append] at h
  rcases h with h|h
  ·split at h
   ·simp at h;simp[h]
   ·simp at h
  ·exact List.mem_cons_of_mem _ (Wx all L t h)
theorem Lb:∀(k:Nat) (L:List ZA),(nA k L).length≤L.length∧∀t∈nA k L,t∈L
 |0,L=>⟨Nat.le_refl _,fun t h=>h⟩
 |k+1,L=>by
  rw[nA]
  split
  ·exact⟨Nat.le_refl _,fun t h=>h⟩
  ·obtain⟨h1,h2⟩:=Lb k (cJ kT L)
   exact⟨Nat.le_trans h1 (pY L),fun t h=>Vm _ _ t (W9 _ t (Wx _ _ t (h2 t h)))⟩
theorem zyJ{u:ZB}(h:u.sm):(nN u).sm:=by
 unfold nN
 split
 ·obtain⟨h1,h2⟩:=Lb u.fCode.length u.fCode
  exact⟨h.1,Nat.le_trans h1 h.2.1,fun t ht=>h.2.2 t (h2 t ht)⟩
 ·exact h
noncomputable def roundU (u:ZB):ZB:=nN (deadU (Gs (vL u)))
noncomputable def betU (u:ZB):ZB:=roundU (roundU (roundU u))
theorem nB{u:ZB}(h:u.sm):(roundU u).sm:=zyJ (Mx (Uu (Nr h)))
abbrev beS(w:ZB)(c:D)(i:Int):St:={env:=upd (upd (upd emp 6 (some (I i))) 3 (some (.ptr (0,1) [] 0 0))) 2 (some (.ptr (0,0) [] 0 0)),heap:=upd (upd emp (0,1) (some (fE w c))) (0,0) (some qQ),fr:=0,next:=2}
theorem z6w(w:ZB)(c:D)(i:Int)(b:Option X):qEq 6 2 {env:=upd (upd (upd (upd emp 6 (some (I i))) 3 (some (.ptr (0,1) [] 0 0))) 2 (some (.ptr (0,0) [] 0 0))) 7 b,heap:=upd (upd emp (0,1) (some (fE w c))) (0,0) (some qQ),fr:=0,next:=34}=decide (i=2):=rfl
theorem Nx(w:ZB)(hs:w.sm)(i:Int)(h0:0≤i)(h3:i<3):loopW tab [2,3,6] d5 (beS w (.r (w.fCode.map ZA.r)) i)=loopW tab [2,3,6] d5 (beS (roundU w) (if i=2 then .s 7 ((roundU w).fCode.map ZA.o) else .r ((roundU w).fCode.map ZA.r)) (i+1)):=by
 obtain⟨r1,g1,e1⟩:=T9 w hs
 have s1:=Nr hs
 have g2:=Ix _ s1
 have s2:=Uu s1
 obtain⟨r3,g3,e3⟩:=Sd _ s2
 have s3:=Mx s2
 have g4:=Ph _ s3
 unfold roundU
 generalize vL w=w1 at *
 generalize Gs w1=w2 at *
 generalize deadU w2=w3 at *
 generalize nN w3=w4 at *
 have e2:fzs (w2.fCode.map ZA.o)=w2.fCode.map ZA.r:=ZA.fzs w2.fCode
 have e4:fzs (w4.fCode.map ZA.o)=w4.fCode.map ZA.r:=ZA.fzs w4.fCode
 have n4:=ZA.noR w4.fCode
 have hq:=z6w w (.r (w.fCode.map ZA.r)) i
 simp only[beS]
 conv=>lhs;unfold loopW;arg 1;unfold d5
 by_cases c:i=2
 ·subst c
  simp only[if_true]
  simp -implicitDefEqProofs (disch:=first|assumption|omega|(simp only[aE,aF,aD,i64,sa,aB,lm,la,lc,ln];omega)) only[go_sem,simprocAttr,hq,g1,e1,g2,e2,g3,e3,g4,e4,n4]
 ·rw[if_neg c]
  simp -implicitDefEqProofs (disch:=first|assumption|omega|(simp only[aE,aF,aD,i64,sa,aB,lm,la,lc,ln];omega)) only[go_sem,simprocAttr,hq,c,g1,e1,g2,e2,g3,e3,g4,e4,n4]
theorem zWP(w:ZB)(c:D):loopW tab [2,3,6] d5 (beS w c 3)=some (.ext 0,eU w c):=by
 simp only[beS,eU]
 unfold loopW
 conv=>lhs;arg 1;unfold d5
 simp -implicitDefEqProofs (disch:=first|assumption|omega|(simp only[aE,aF,aD,i64,sa,aB,lm,la,lc,ln];omega)) only[go_sem,simprocAttr]
theorem z8N(u:ZB)(hs:u.sm):loopW tab [2,3,6] d5 (beS u (.r (u.fCode.map ZA.r)) 0)=some (.ext 0,eU (betU u) (.s 7 ((betU u).fCode.map ZA.o))):=by
 have s1:=nB hs
 rw[Nx u hs 0 (by omega) (by omega),if_neg (by omega),Nx _ s1 (0+1) (by omega) (by omega),if_neg (by omega),Nx _ (nB s1) (0+1+1) (by omega) (by omega),if_pos (by omega)]
 exact zWP _ _
theorem Kz(u:ZB)(hs:u.sm):call tab Bg [u.x]=some (betU u).xo:=by
 have g0:=eK u hs
 have g1:=z8N u hs
 have e0:=ZA.fzs u.fCode
 simp only[beS,eU,fE] at g1
 simp only[ZB.xo] at g0 ⊢
 generalize betU u=w at *
 rw[aQ Ow _ rfl,Di]
 simp -implicitDefEqProofs (disch:=first|assumption|omega|(simp only[aE,aF,aD,i64,sa,aB,lm,la,lc,ln];omega)) only[go_sem,simprocAttr,g0,g1,e0]
abbrev sbS(w:ZB)(c:D)(i:Int):St:={env:=upd (upd (upd emp 4 (some (I i))) 3 (some (.ptr (0,1) [] 0 0))) 2 (some (.ptr (0,0) [] 0 0)),heap:=upd (upd emp (0,1) (some (fE w c))) (0,0) (some qQ),fr:=0,next:=2}
theorem z6r(w:ZB)(c:D)(i:Int)(a b:Option X)(n:Nat):qEq 4 2 {env:=upd (upd (upd (upd (upd emp 4 (some (I i))) 3 (some (.ptr (0,1) [] 0 0))) 2 (some (.ptr (0,0) [] 0 0))) 7 a) 8 b,heap:=upd (upd emp (0,1) (some (fE w c))) (0,0) (some qQ),fr:=0,next:=n}=decide (i=2):=rfl
theorem Mq(w:ZB)(hs:w.sm)(i:Int)(h0:0≤i)(h3:i<3):loopW tab [2,3,4] dY (sbS w (.r (w.fCode.map ZA.r)) i)=loopW tab [2,3,4] dY (sbS (roundU w) (if i=2 then .s 7 ((roundU w).fCode.map ZA.o) else .r ((roundU w).fCode.map ZA.r)) (i+1)):=by
 obtain⟨r1,g1,e1⟩:=Ti w hs
 have s1:=Nr hs
 have g2:=Iv _ s1
 have s2:=Uu s1
 obtain⟨r3,g3,e3⟩:=R7 _ s2
 have s3:=Mx s2
 have g4:=Pc _ s3
 unfold roundU
 generalize vL w=w1 at *
 generalize Gs w1=w2 at *
 generalize deadU w2=w3 at *
 generalize nN w3=w4 at *
 have e2:fzs (w2.fCode.map ZA.o)=w2.fCode.map ZA.r:=ZA.fzs w2.fCode
 have e4:fzs (w4.fCode.map ZA.o)=w4.fCode.map ZA.r:=ZA.fzs w4.fCode
 have n4:=ZA.noR w4.fCode
 have hq:=z6r w (.r (w.fCode.map ZA.r)) i
 simp only[sbS]
 conv=>lhs;unfold loopW;arg 1;unfold dY
 by_cases c:i=2
 ·subst c
  simp only[if_true]
  simp -implicitDefEqProofs (disch:=first|assumption|omega|(simp only[aE,aF,aD,i64,sa,aB,lm,la,lc,ln];omega)) only[go_sem,simprocAttr,hq,g1,e1,g2,e2,g3,e3,g4,e4,n4]
 ·rw[if_neg c]
  simp -implicitDefEqProofs (disch:=first|assumption|omega|(simp only[aE,aF,aD,i64,sa,aB,lm,la,lc,ln];omega)) only[go_sem,simprocAttr,hq,c,g1,e1,g2,e2,g3,e3,g4,e4,n4]
theorem zWl(w:ZB)(c:D):loopW tab [2,3,4] dY (sbS w c 3)=some (.ext 0,eU w c):=by
 simp only[sbS,eU]
 unfold loopW
 conv=>lhs;arg 1;unfold dY
 simp -implicitDefEqProofs (disch:=first|assumption|omega|(simp only[aE,aF,aD,i64,sa,aB,lm,la,lc,ln];omega)) only[go_sem,simprocAttr]
theorem z8L(u:ZB)(hs:u.sm):loopW tab [2,3,4] dY (sbS u (.r (u.fCode.map ZA.r)) 0)=some (.ext 0,eU (betU u) (.s 7 ((betU u).fCode.map ZA.o))):=by
 have s1:=nB hs
 rw[Mq u hs 0 (by omega) (by omega),if_neg (by omega),Mq _ s1 (0+1) (by omega) (by omega),if_neg (by omega),Mq _ (nB s1) (0+1+1) (by omega) (by omega),if_pos (by omega)]
 exact zWl _ _
theorem M8(u:ZB)(hs:u.sm):call tab Ab [u.x]=some (betU u).xo:=by
 have g0:=eX u hs
 have g1:=z8L u hs
 have e0:=ZA.fzs u.fCode
 simp only[sbS,eU,fE] at g1
 simp only[ZB.xo] at g0 ⊢
 generalize betU u=w at *
 rw[aQ P1 _ rfl,Dk]
 simp -implicitDefEqProofs (disch:=first|assumption|omega|(simp only[aE,aF,aD,i64,sa,aB,lm,la,lc,ln];omega)) only[go_sem,simprocAttr,g0,g1,e0]
set_option maxRecDepth 8000
set_option maxHeartbeats 16000000
theorem Fo(A B:List ZA):ZA.cts (A++B)=ZA.cts A+ZA.cts B:=by
 induction A with
 |nil=>simp[ZA.cts]
 |cons a A ih=>rw[List.cons_append,ZA.cts,ZA.cts,ih];omega
theorem zju(p:Prop)[Decidable p](t:ZA):ZA.cts (if p then [t] else [])≤t.ct:=by
 split
 ·simp[ZA.cts]
 ·have:=t.ct_nn;simp[ZA.cts];omega
theorem zVW(p:Prop)[Decidable p](t:ZA):ZA.cts (if p then [] else [t])≤t.ct:=by
 split
 ·have:=t.ct_nn;simp[ZA.cts];omega
 ·simp[ZA.cts]
theorem zKx(K:BL)(W:List Int)(t:ZA):(eO K W t).2.1.1.ct≤t.ct:=by
 have h0:∀d n,(Pa d n).ct≤t.ct:=fun d n=>by simp[ZA.ct,Pa];omega
 have h1:∀n,(zqi n).ct≤t.ct:=fun n=>by simp[ZA.ct,zqi];omega
 unfold eO
 repeat' split
 all_goals first|exact Int.le_refl _|exact h0 _ _|exact h1 _
theorem Q5:∀(ts:List ZA) (K:BL) (W:List Int),ZA.cts ((lD K W ts).map fun p=>p.1)≤ZA.cts ts
 |[],K,W=>by simp[lD,ZA.cts]
 |t::ts,K,W=>by
  have ih:=Q5 ts (eO K W t).1.1 (eO K W t).1.2
  have h0:=zKx K W t
  have h1:=t.ct_nn
  rw[lD,List.map_append,Fo,ZA.cts]
  split
  ·simp only[mc,mn,ZA.cts];omega
  ·simp only[mn,ZA.cts];omega
theorem U4(m:Nat):∀(ts:List ZA) (so:List Int),ZA.cts (B5 m so ts)=ZA.cts ts
 |[],so=>rfl
 |t::ts,so=>by
  have h:(G8 m so t).2.ct=t.ct:=by
   rw[Ng]
   simp only[ZA.ct,bD]
   split
   ·rw[Sb]
   ·rfl
  rw[B5,ZA.cts,ZA.cts,U4 m ts,h]
theorem Rg(M:List BL):∀(ts:List ZA) (k:Nat),ZA.cts (bZ M k ts)≤ZA.cts ts
 |[],k=>by simp[bZ,ZA.cts]
 |t::ts,k=>by
  have ih:=Rg M ts (k+1)
  have h:=zju (Ez M k t=true) t
  rw[bZ,Fo,ZA.cts]
  omega
theorem Qo:∀(k:Nat) (u:ZB),ZA.cts (deadR k u).fCode≤ZA.cts u.fCode
 |0,u=>Int.le_refl _
 |k+1,u=>by
  rw[deadR]
  split
  ·exact Int.le_refl _
  ·exact Int.le_trans (Qo k (deadI u)) (Rg _ _ _)
theorem Vt:∀(L:List ZA) (o:Bool),ZA.cts (dI kT o L)≤ZA.cts L
 |[],o=>by simp[dI,ZA.cts]
 |t::L,o=>by
  have ih:=Vt L (pC o t&& !jJ t.fOp)
  have h:=zju (pC o t=true) t
  rw[nC,Fo,ZA.cts]
  omega
theorem Xx:∀(L:List ZA),ZA.cts (gH kT L)≤ZA.cts L
 |[]=>by simp[gH,ZA.cts]
 |t::L=>by
  have ih:=Xx L
  have h:=zVW (mH kT t L=true) t
  rw[nQ,Fo,ZA.cts]
  omega
theorem Vx(all:List ZA):∀(L:List ZA),ZA.cts (oM kT all L)≤ZA.cts L
 |[]=>by simp[oM,ZA.cts]
 |t::L=>by
  have ih:=Vx all L
  have h:=zju ((!decide (t.fOp=8)||goG kT all t.fN)=true) t
  rw[nP,Fo,ZA.cts]
  omega
theorem Ld:∀(k:Nat) (L:List ZA),ZA.cts (nA k L)≤ZA.cts L
 |0,L=>Int.le_refl _
 |k+1,L=>by
  rw[nA]
  split
  ·exact Int.le_refl _
  ·exact Int.le_trans (Ld k (cJ kT L)) (Int.le_trans (Vx _ _) (Int.le_trans (Xx _) (Vt _ _)))
theorem Hi(u:ZB):(roundU u).ctv≤u.ctv:=by
 have h1:∀u:ZB,(vL u).ctv≤u.ctv:=fun u=>by
  unfold vL ZB.ctv
  split
  ·exact Q5 _ _ _
  ·exact Int.le_refl _
 have h2:∀u:ZB,(Gs u).ctv≤u.ctv:=fun u=>by
  unfold Gs ZB.ctv
  split
  ·exact Int.le_of_eq (U4 _ _ _)
  ·exact Int.le_refl _
 have h3:∀u:ZB,(deadU u).ctv≤u.ctv:=fun u=>by
  unfold deadU ZB.ctv
  split
  ·exact Qo _ _
  ·exact Int.le_refl _
 have h4:∀u:ZB,(nN u).ctv≤u.ctv:=fun u=>by
  unfold nN ZB.ctv
  split
  ·exact Ld _ _
  ·exact Int.le_refl _
 exact Int.le_trans (h4 _) (Int.le_trans (h3 _) (Int.le_trans (h2 _) (h1 _)))
theorem zWf(u:ZB):(betU u).ctv≤u.ctv:=Int.le_trans (Hi _) (Int.le_trans (Hi _) (Hi _))
theorem zWo{u:ZB}(h:u.sm):(betU u).sm:=nB (nB (nB h))
set_option maxRecDepth 8000
set_option maxHeartbeats 16000000
def Ks(us:List ZB)(ix:Int):Int:=((us[ix.toNat]?).map ZB.fParams).getD 0
def nE(us:List ZB)(t:ZA):Bool:= !hb t 16||(decide (0≤bF us t.fS)&&(decide (t.fOp=24)||decide ((t.fArgs.length:Int)=Ks us (bF us t.fS))))
def zZE(us:List ZB)(j:Int)(u:ZB):Bool:=(jR u&&decide (bF us u.fName=j))&&u.fCode.all (nE us)
def tN(us:List ZB):Int→List ZB→Bool
 |_,[]=>true
 |j,u::r=>zZE us j u&&tN us (j+1) r
theorem z6C(t:ZA):hb t 16=(decide (t.fOp=11)||(decide (t.fOp=14)||decide (t.fOp=24))):=by
 unfold hb
 by_cases h:1≤t.fOp∧t.fOp≤28
 ·rcases M6 h.1 h.2 with e|e|e|e|e|e|e|e|e|e|e|e|e|e|e|e|e|e|e|e|e|e|e|e|e|e|e|e<;>rw[e]<;>decide
 ·rw[Ct,if_neg h]
  simp only[show ¬t.fOp=11 by omega,show ¬t.fOp=14 by omega,show ¬t.fOp=24 by omega,decide_false,Bool.or_false]
  decide
theorem zJh{us:List ZB}{nm:ByteArray}(h:0≤bF us nm):∃w,(us.map ZB.r)[(bF us nm).toNat]? = some (ZB.r w)∧Ks us (bF us nm)=w.fParams∧bF us nm<us.length:=by
 have h2:=wJ (yR nm) us 0 (by omega)
 have h3:bF us nm<us.length:=by unfold bF;omega
 have h4:(bF us nm).toNat<us.length:=by omega
 refine⟨us[(bF us nm).toNat],?_,?_,h3⟩
 ·rw[List.getElem?_map,List.getElem?_eq_getElem h4];rfl
 ·rw[Ks,List.getElem?_eq_getElem h4];rfl
theorem zQY(us:List ZB)(hl:us.length≤1048576)(C:List ZA)(hc:C.length≤1048576)(hs:∀t∈C,t.sm)(n i:Int):∀(Bl:List ZA) (j:Nat),C.drop j=Bl →
  loopW tab [0,11,12,13,30,31,32] cW {env:=upd (upd (upd (upd (upd (upd (upd emp 32 (some (I (j:Int)))) 31 (some (I (C.length:Int)))) 30 (some (.d (.r (C.map ZA.r))))) 13 (some (I i))) 12 (some (I n))) 11 (some (.d (.r (us.map ZB.r))))) 0 (some (.d (.r (us.map ZB.r)))),heap:=emp,fr:=0,next:=0} =
  if Bl.all (nE us)=true then some (.ext 2,{env:=upd (upd (upd (upd emp 13 (some (I i))) 12 (some (I n))) 11 (some (.d (.r (us.map ZB.r))))) 0 (some (.d (.r (us.map ZB.r)))),heap:=emp,fr:=0,next:=0}) else some (.ret,{env:=upd emp 2 (some (B false)),heap:=emp,fr:=0,next:=0})
 |[],j,hd=>by
  have:=drop_nil hd
  simp only[List.all_nil,if_true]
  generalize C.map ZA.r=R at *
  generalize us.map ZB.r=U at *
  unfold loopW
  conv=>lhs;arg 1;unfold cW
  simp -implicitDefEqProofs (disch:=first|assumption|omega|(simp only[aE,aF,aD,i64,sa,aB,lm,la,lc,ln];omega)) only[go_sem,simprocAttr,show ¬((j:Int)<C.length) by omega]
 |t::Bl,j,hd=>by
  obtain⟨ht,hlen,hd2⟩:=c7 hd
  have p0:(C.map ZA.r)[j]? = some t.r:=by rw[List.getElem?_map,ht];rfl
  have l0:(C.map ZA.r).length=C.length:=List.length_map _
  have l1:(us.map ZB.r).length=us.length:=List.length_map _
  have la:=bC t.fArgs
  have hts:=(hs t (List.mem_of_getElem? ht)).2
  have go:=bT t (83,16) (by simp)
  have ga:=zH us t.fS hl
  have ih:=zQY us hl C hc hs n i Bl (j+1) hd2
  rw[show(((j+1:Nat)):Int)=(j:Int)+1 by omega] at ih
  have hpa:=fun h=>zJh (us:=us) (nm:=t.fS) h
  rw[List.all_cons]
  unfold nE
  simp only[ZA.r] at p0
  simp only at go
  by_cases h16:hb t 16=true
  ·rw[h16] at go ⊢
   by_cases hix:0≤bF us t.fS
   ·obtain⟨w,pw,ew,hw⟩:=hpa hix
    simp only[ZB.r] at pw
    by_cases c24:t.fOp=24
    ·simp only[hix,c24,decide_true,Bool.not_true,Bool.false_or,Bool.true_or,bta]
     rw[show(fun t:ZA=> !hb t 16||(decide (0≤bF us t.fS)&&(decide (t.fOp=24)||decide ((t.fArgs.length:Int)=Ks us (bF us t.fS)))))=nE us from rfl,←ih]
     clear ih
     rw[c24] at go
     generalize us.map ZB.r=U at *
     conv=>lhs;unfold loopW;arg 1;unfold cW
     simp -implicitDefEqProofs (disch:=first|assumption|omega|(simp only[aE,aF,aD,i64,sa,aB,lm,la,lc,ln];omega)) only[go_sem,simprocAttr,p0,l0,go,ga,c24,show ¬(bF us t.fS<0) by omega,show((j:Int)<C.length) by omega]
    ·by_cases ca:(t.fArgs.length:Int)=Ks us (bF us t.fS)
     ·simp only[hix,c24,ca,decide_true,decide_false,Bool.not_true,Bool.false_or,Bool.true_or,bta,bat]
      rw[show(fun t:ZA=> !hb t 16||(decide (0≤bF us t.fS)&&(decide (t.fOp=24)||decide ((t.fArgs.length:Int)=Ks us (bF us t.fS)))))=nE us from rfl,←ih]
      clear ih
      rw[ew] at ca
      generalize us.map ZB.r=U at *
      conv=>lhs;unfold loopW;arg 1;unfold cW
      simp -implicitDefEqProofs (disch:=first|assumption|omega|(simp only[aE,aF,aD,i64,sa,aB,lm,la,lc,ln];omega)) only[go_sem,simprocAttr,p0,l0,l1,la,go,ga,c24,ca,pw,show ¬(bF us t.fS<0) by omega,show((j:Int)<C.length) by omega]
     ·simp only[hix,c24,ca,decide_true,decide_false,Bool.not_true,Bool.false_or,bta,uH,bfa,Bool.false_eq_true,if_false]
      clear ih
      rw[ew] at ca
      generalize us.map ZB.r=U at *
      conv=>lhs;unfold loopW;arg 1;unfold cW
      simp -implicitDefEqProofs (disch:=first|assumption|omega|(simp only[aE,aF,aD,i64,sa,aB,lm,la,lc,ln];omega)) only[go_sem,simprocAttr,p0,l0,l1,la,go,ga,c24,ca,pw,show ¬(bF us t.fS<0) by omega,show((j:Int)<C.length) by omega]
   ·simp only[hix,decide_false,Bool.not_true,Bool.false_or,bfa,Bool.false_eq_true,if_false]
    clear ih
    generalize us.map ZB.r=U at *
    conv=>lhs;unfold loopW;arg 1;unfold cW
    simp -implicitDefEqProofs (disch:=first|assumption|omega|(simp only[aE,aF,aD,i64,sa,aB,lm,la,lc,ln];omega)) only[go_sem,simprocAttr,p0,l0,go,ga,show(bF us t.fS<0) by omega,show((j:Int)<C.length) by omega]
  ·rw[Bool.not_eq_true] at h16
   rw[h16] at go ⊢
   simp only[Bool.not_false,Bool.true_or,bta]
   rw[show(fun t:ZA=> !hb t 16||(decide (0≤bF us t.fS)&&(decide (t.fOp=24)||decide ((t.fArgs.length:Int)=Ks us (bF us t.fS)))))=nE us from rfl,←ih]
   clear ih
   generalize us.map ZB.r=U at *
   conv=>lhs;unfold loopW;arg 1;unfold cW
   simp -implicitDefEqProofs (disch:=first|assumption|omega|(simp only[aE,aF,aD,i64,sa,aB,lm,la,lc,ln];omega)) only[go_sem,simprocAttr,p0,l0,go,show((j:Int)<C.length) by omega]
set_option maxRecDepth 8000
set_option maxHeartbeats 16000000
theorem B6{us:List ZB}{j:Nat}{u:ZB}(h:us[j]? = some u):(us.map ZB.r)[j]? = some [DS u.fName,DI u.fParams,DI u.fRegs,.r (u.fCode.map ZA.r)]:=by rw[List.getElem?_map,h];rfl
theorem zZt(us:List ZB)(hl:us.length≤1048576)(hs:∀u∈us,u.sm):∀(Bl:List ZB) (j:Nat),us.drop j=Bl →
  loopW tab [0,11,12,13] dL {env:=upd (upd (upd (upd emp 13 (some (I (j:Int)))) 12 (some (I (us.length:Int)))) 11 (some (.d (.r (us.map ZB.r))))) 0 (some (.d (.r (us.map ZB.r)))),heap:=emp,fr:=0,next:=0} =
  if tN us (j:Int) Bl=true then some (.ext 0,{env:=emp,heap:=emp,fr:=0,next:=0}) else some (.ret,{env:=upd emp 2 (some (B false)),heap:=emp,fr:=0,next:=0})
 |[],j,hd=>by
  have:=drop_nil hd
  simp only[tN,if_true]
  generalize us.map ZB.r=U at *
  unfold loopW
  conv=>lhs;arg 1;unfold dL
  simp -implicitDefEqProofs (disch:=first|assumption|omega|(simp only[aE,aF,aD,i64,sa,aB,lm,la,lc,ln];omega)) only[go_sem,simprocAttr,show ¬((j:Int)<us.length) by omega]
 |u::Bl,j,hd=>by
  obtain⟨ht,hlen,hd2⟩:=c7 hd
  have p0:=B6 ht
  have hus:=hs u (List.mem_of_getElem? ht)
  have l1:(us.map ZB.r).length=us.length:=List.length_map _
  have lc:(u.fCode.map ZA.r).length=u.fCode.length:=List.length_map _
  have g1:=jN u hus
  have ga:=zH us u.fName hl
  have g0:=zQY us hl u.fCode hus.2.1 hus.2.2 (us.length:Int) (j:Int) u.fCode 0 rfl
  rw[show((0:Nat):Int)=0 from rfl] at g0
  have ih:=zZt us hl hs Bl (j+1) hd2
  rw[show(((j+1:Nat)):Int)=(j:Int)+1 by omega] at ih
  rw[tN]
  unfold zZE
  cases hu:jR u<;>rw[hu] at g1
  ·simp only[bfa,Bool.false_eq_true,if_false]
   clear ih g0
   generalize us.map ZB.r=U at *
   conv=>lhs;unfold loopW;arg 1;unfold dL
   simp -implicitDefEqProofs (disch:=first|assumption|omega|(simp only[aE,aF,aD,i64,sa,aB,lm,la,lc,ln];omega)) only[go_sem,simprocAttr,p0,l1,g1,show((j:Int)<us.length) by omega]
  ·by_cases c:bF us u.fName=(j:Int)
   ·simp only[c,decide_true,bta]
    rw[c] at ga
    cases hp:u.fCode.all (nE us)<;>rw[hp] at g0
    ·simp only[Bool.false_eq_true,if_false,bfa] at g0 ⊢
     clear ih
     generalize us.map ZB.r=U at *
     conv=>lhs;unfold loopW;arg 1;unfold dL
     simp -implicitDefEqProofs (disch:=first|assumption|omega|(simp only[aE,aF,aD,i64,sa,aB,lm,la,lc,ln];omega)) only[go_sem,simprocAttr,p0,l1,lc,g1,ga,g0,show((j:Int)<us.length) by omega]
    ·simp only[if_true,bta] at g0 ⊢
     rw[←ih]
     clear ih
     generalize us.map ZB.r=U at *
     conv=>lhs;unfold loopW;arg 1;unfold dL
     simp -implicitDefEqProofs (disch:=first|assumption|omega|(simp only[aE,aF,aD,i64,sa,aB,lm,la,lc,ln];omega)) only[go_sem,simprocAttr,p0,l1,lc,g1,ga,g0,show((j:Int)<us.length) by omega]
   ·simp only[c,decide_false,uH,bfa,Bool.false_eq_true,if_false]
    clear ih g0
    generalize us.map ZB.r=U at *
    conv=>lhs;unfold loopW;arg 1;unfold dL
    simp -implicitDefEqProofs (disch:=first|assumption|omega|(simp only[aE,aF,aD,i64,sa,aB,lm,la,lc,ln];omega)) only[go_sem,simprocAttr,p0,l1,g1,ga,c,show((j:Int)<us.length) by omega]
def pR(us:List ZB):Bool:=tN us 0 us&&decide ((us.length:Int)≤80)
theorem Jj(us:List ZB)(hl:us.length≤1048576)(hs:∀u∈us,u.sm):call tab wW [.d (.r (us.map ZB.r))]=some (B (pR us)):=by
 have l1:(us.map ZB.r).length=us.length:=List.length_map _
 have g0:=zZt us hl hs us 0 rfl
 rw[show((0:Nat):Int)=0 from rfl] at g0
 rw[aQ Kv _ rfl,Bv]
 unfold pR
 by_cases h80:(us.length:Int)≤80
 ·simp only[h80,decide_true,bat]
  cases h:tN us 0 us<;>rw[h] at g0<;>simp only[Bool.false_eq_true,if_true,if_false] at g0<;>simp -implicitDefEqProofs (disch:=first|assumption|omega|(simp only[aE,aF,aD,i64,sa,aB,lm,la,lc,ln];omega)) only[go_sem,simprocAttr,l1,g0,show ¬((us.length:Int)>80) by omega,show ¬(80<(us.length:Int)) by omega]
 ·simp only[h80,decide_false,uH]
  clear g0
  simp -implicitDefEqProofs (disch:=first|assumption|omega|(simp only[aE,aF,aD,i64,sa,aB,lm,la,lc,ln];omega)) only[go_sem,simprocAttr,l1,show(80<(us.length:Int)) by omega]
abbrev suH(u:ZB):Heap:=upd emp (0,0) (some (.s 4 [[DS u.fName,DI u.fParams,DI u.fRegs,.r (u.fCode.map ZA.r)]]))
theorem zZT(us:List ZB)(hl:us.length≤1048576)(u:ZB)(hs:u.sm)(i:Int):∀(Bl:List ZA) (j:Nat),u.fCode.drop j=Bl →
  loopW tab [0,3,4,5] b9 {env:=upd (upd (upd (upd emp 5 (some (I (j:Int)))) 4 (some (.ptr (0,0) [] 0 0))) 3 (some (I i))) 0 (some (.d (.r (us.map ZB.r)))),heap:=suH u,fr:=0,next:=1} =
  if Bl.all (nE us)=true then some (.ext 2,{env:=upd (upd emp 3 (some (I i))) 0 (some (.d (.r (us.map ZB.r)))),heap:=emp,fr:=0,next:=0}) else some (.ret,{env:=upd emp 2 (some (B false)),heap:=emp,fr:=0,next:=0})
 |[],j,hd=>by
  have:=drop_nil hd
  have l0:(u.fCode.map ZA.r).length=u.fCode.length:=List.length_map _
  simp only[List.all_nil,if_true,suH]
  generalize u.fCode.map ZA.r=R at *
  generalize us.map ZB.r=U at *
  unfold loopW
  conv=>lhs;arg 1;unfold b9
  simp -implicitDefEqProofs (disch:=first|assumption|omega|(simp only[aE,aF,aD,i64,sa,aB,lm,la,lc,ln];omega)) only[go_sem,simprocAttr,l0,show ¬((j:Int)<u.fCode.length) by omega]
 |t::Bl,j,hd=>by
  obtain⟨ht,hlen,hd2⟩:=c7 hd
  have p0:(u.fCode.map ZA.r)[j]? = some t.r:=by rw[List.getElem?_map,ht];rfl
  have l0:(u.fCode.map ZA.r).length=u.fCode.length:=List.length_map _
  have l1:(us.map ZB.r).length=us.length:=List.length_map _
  have la:=bC t.fArgs
  have hts:=(hs.2.2 t (List.mem_of_getElem? ht)).2
  have hc:=hs.2.1
  have ga:=xX us t.fS hl
  have ih:=zZT us hl u hs i Bl (j+1) hd2
  rw[show(((j+1:Nat)):Int)=(j:Int)+1 by omega] at ih
  have hpa:=fun h=>zJh (us:=us) (nm:=t.fS) h
  have h16:=z6C t
  rw[List.all_cons]
  unfold nE
  simp only[ZA.r] at p0
  simp only[suH] at ih ⊢
  by_cases c24:t.fOp=24
  ·rw[show hb t 16=true by rw[h16,c24];decide]
   by_cases hix:0≤bF us t.fS
   ·simp only[hix,c24,decide_true,Bool.not_true,Bool.false_or,Bool.true_or,bta]
    rw[show(fun t:ZA=> !hb t 16||(decide (0≤bF us t.fS)&&(decide (t.fOp=24)||decide ((t.fArgs.length:Int)=Ks us (bF us t.fS)))))=nE us from rfl,←ih]
    clear ih
    generalize us.map ZB.r=U at *
    generalize u.fCode.map ZA.r=R at *
    conv=>lhs;unfold loopW;arg 1;unfold b9
    simp -implicitDefEqProofs (disch:=first|assumption|omega|(simp only[aE,aF,aD,i64,sa,aB,lm,la,lc,ln];omega)) only[go_sem,simprocAttr,p0,l0,ga,c24,show ¬(bF us t.fS<0) by omega,show((j:Int)<u.fCode.length) by omega]
   ·simp only[hix,decide_false,Bool.not_true,Bool.false_or,bfa,Bool.false_eq_true,if_false]
    clear ih
    generalize us.map ZB.r=U at *
    generalize u.fCode.map ZA.r=R at *
    conv=>lhs;unfold loopW;arg 1;unfold b9
    simp -implicitDefEqProofs (disch:=first|assumption|omega|(simp only[aE,aF,aD,i64,sa,aB,lm,la,lc,ln];omega)) only[go_sem,simprocAttr,p0,l0,ga,c24,show(bF us t.fS<0) by omega,show((j:Int)<u.fCode.length) by omega]
  ·have key:∀op:Int,t.fOp=op→op=11∨op=14→(loopW tab [0,3,4,5] b9 {env:=upd (upd (upd (upd emp 5 (some (I (j:Int)))) 4 (some (.ptr (0,0) [] 0 0))) 3 (some (I i))) 0 (some (.d (.r (us.map ZB.r)))),heap:=upd emp (0,0) (some (.s 4 [[DS u.fName,DI u.fParams,DI u.fRegs,.r (u.fCode.map ZA.r)]])),fr:=0,next:=1} =
     if ((!true||(decide (0≤bF us t.fS)&&(decide (t.fOp=24)||decide ((t.fArgs.length:Int)=Ks us (bF us t.fS)))))&&Bl.all (nE us))=true then some (.ext 2,{env:=upd (upd emp 3 (some (I i))) 0 (some (.d (.r (us.map ZB.r)))),heap:=emp,fr:=0,next:=0}) else some (.ret,{env:=upd emp 2 (some (B false)),heap:=emp,fr:=0,next:=0})):=fun op hop h2=>by
    by_cases hix:0≤bF us t.fS
    ·obtain⟨w,pw,ew,hw⟩:=hpa hix
     simp only[ZB.r] at pw
     by_cases ca:(t.fArgs.length:Int)=Ks us (bF us t.fS)
     ·simp only[hix,c24,ca,decide_true,decide_false,Bool.not_true,Bool.false_or,Bool.true_or,bta,bat]
      rw[←ih]
      clear ih
      rw[ew] at ca
      generalize us.map ZB.r=U at *
      generalize u.fCode.map ZA.r=R at *
      conv=>lhs;unfold loopW;arg 1;unfold b9
      rcases h2 with h2|h2<;>rw[h2] at hop<;>simp -implicitDefEqProofs (disch:=first|assumption|omega|(simp only[aE,aF,aD,i64,sa,aB,lm,la,lc,ln];omega)) only[go_sem,simprocAttr,p0,l0,l1,la,ga,hop,ca,pw,show ¬(bF us t.fS<0) by omega,show((j:Int)<u.fCode.length) by omega]
     ·simp only[hix,c24,ca,decide_true,decide_false,Bool.not_true,Bool.false_or,bta,uH,bfa,Bool.false_eq_true,if_false]
      clear ih
      rw[ew] at ca
      have ca2:¬w.fParams=(t.fArgs.length:Int):=fun e=>ca e.symm
      generalize us.map ZB.r=U at *
      generalize u.fCode.map ZA.r=R at *
      conv=>lhs;unfold loopW;arg 1;unfold b9
      rcases h2 with h2|h2<;>rw[h2] at hop<;>simp -implicitDefEqProofs (disch:=first|assumption|omega|(simp only[aE,aF,aD,i64,sa,aB,lm,la,lc,ln];omega)) only[go_sem,simprocAttr,p0,l0,l1,la,ga,hop,ca2,pw,show ¬(bF us t.fS<0) by omega,show((j:Int)<u.fCode.length) by omega]
    ·simp only[hix,decide_false,Bool.not_true,Bool.false_or,bfa,Bool.false_eq_true,if_false]
     clear ih
     generalize us.map ZB.r=U at *
     generalize u.fCode.map ZA.r=R at *
     conv=>lhs;unfold loopW;arg 1;unfold b9
     rcases h2 with h2|h2<;>rw[h2] at hop<;>simp -implicitDefEqProofs (disch:=first|assumption|omega|(simp only[aE,aF,aD,i64,sa,aB,lm,la,lc,ln];omega)) only[go_sem,simprocAttr,p0,l0,ga,hop,show(bF us t.fS<0) by omega,show((j:Int)<u.fCode.length) by omega]
   by_cases c11:t.fOp=11
   ·rw[show hb t 16=true by rw[h16,c11];decide]
    exact key 11 c11 (Or.inl rfl)
   ·by_cases c14:t.fOp=14
    ·rw[show hb t 16=true by rw[h16,c14];decide]
     exact key 14 c14 (Or.inr rfl)
    ·rw[show hb t 16=false by rw[h16];simp[c11,c14,c24]]
     simp only[Bool.not_false,Bool.true_or,bta]
     rw[show(fun t:ZA=> !hb t 16||(decide (0≤bF us t.fS)&&(decide (t.fOp=24)||decide ((t.fArgs.length:Int)=Ks us (bF us t.fS)))))=nE us from rfl,←ih]
     clear ih key
     generalize us.map ZB.r=U at *
     generalize u.fCode.map ZA.r=R at *
     conv=>lhs;unfold loopW;arg 1;unfold b9
     simp -implicitDefEqProofs (disch:=first|assumption|omega|(simp only[aE,aF,aD,i64,sa,aB,lm,la,lc,ln];omega)) only[go_sem,simprocAttr,p0,l0,c11,c14,c24,show((j:Int)<u.fCode.length) by omega]
theorem zJJ(us:List ZB)(hl:us.length≤1048576)(hs:∀u∈us,u.sm):∀(Bl:List ZB) (j:Nat),us.drop j=Bl →
  loopW tab [0,3] dO {env:=upd (upd emp 3 (some (I (j:Int)))) 0 (some (.d (.r (us.map ZB.r)))),heap:=emp,fr:=0,next:=0} =
  if tN us (j:Int) Bl=true then some (.ext 0,{env:=upd emp 0 (some (.d (.r (us.map ZB.r)))),heap:=emp,fr:=0,next:=0}) else some (.ret,{env:=upd emp 2 (some (B false)),heap:=emp,fr:=0,next:=0})
 |[],j,hd=>by
  have:=drop_nil hd
  have l1:(us.map ZB.r).length=us.length:=List.length_map _
  simp only[tN,if_true]
  generalize us.map ZB.r=U at *
  unfold loopW
  conv=>lhs;arg 1;unfold dO
  simp -implicitDefEqProofs (disch:=first|assumption|omega|(simp only[aE,aF,aD,i64,sa,aB,lm,la,lc,ln];omega)) only[go_sem,simprocAttr,l1,show ¬((j:Int)<us.length) by omega]
 |u::Bl,j,hd=>by
  obtain⟨ht,hlen,hd2⟩:=c7 hd
  have p0:=B6 ht
  have hus:=hs u (List.mem_of_getElem? ht)
  have l1:(us.map ZB.r).length=us.length:=List.length_map _
  have g1:=jS u hus
  have ga:=xX us u.fName hl
  have g0:=zZT us hl u hus (j:Int) u.fCode 0 rfl
  simp only[suH] at g0
  rw[show((0:Nat):Int)=0 from rfl] at g0
  have ih:=zJJ us hl hs Bl (j+1) hd2
  rw[show(((j+1:Nat)):Int)=(j:Int)+1 by omega] at ih
  rw[tN]
  unfold zZE
  cases hu:jR u<;>rw[hu] at g1
  ·simp only[bfa,Bool.false_eq_true,if_false]
   clear ih g0
   generalize us.map ZB.r=U at *
   conv=>lhs;unfold loopW;arg 1;unfold dO
   simp -implicitDefEqProofs (disch:=first|assumption|omega|(simp only[aE,aF,aD,i64,sa,aB,lm,la,lc,ln];omega)) only[go_sem,simprocAttr,p0,l1,g1,show((j:Int)<us.length) by omega]
  ·by_cases c:bF us u.fName=(j:Int)
   ·simp only[c,decide_true,bta]
    rw[c] at ga
    cases hp:u.fCode.all (nE us)<;>rw[hp] at g0
    ·simp only[Bool.false_eq_true,if_false,bfa] at g0 ⊢
     clear ih
     generalize us.map ZB.r=U at *
     conv=>lhs;unfold loopW;arg 1;unfold dO
     simp -implicitDefEqProofs (disch:=first|assumption|omega|(simp only[aE,aF,aD,i64,sa,aB,lm,la,lc,ln];omega)) only[go_sem,simprocAttr,p0,l1,g1,ga,g0,show((j:Int)<us.length) by omega]
    ·simp only[if_true,bta] at g0 ⊢
     rw[←ih]
     clear ih
     generalize us.map ZB.r=U at *
     conv=>lhs;unfold loopW;arg 1;unfold dO
     simp -implicitDefEqProofs (disch:=first|assumption|omega|(simp only[aE,aF,aD,i64,sa,aB,lm,la,lc,ln];omega)) only[go_sem,simprocAttr,p0,l1,g1,ga,g0,show((j:Int)<us.length) by omega]
   ·simp only[c,decide_false,uH,bfa,Bool.false_eq_true,if_false]
    clear ih g0
    generalize us.map ZB.r=U at *
    conv=>lhs;unfold loopW;arg 1;unfold dO
    simp -implicitDefEqProofs (disch:=first|assumption|omega|(simp only[aE,aF,aD,i64,sa,aB,lm,la,lc,ln];omega)) only[go_sem,simprocAttr,p0,l1,g1,ga,c,show((j:Int)<us.length) by omega]
theorem yE(us:List ZB)(hl:us.length≤1048576)(hs:∀u∈us,u.sm):call tab xL [.d (.r (us.map ZB.r))]=some (B (pR us)):=by
 have l1:(us.map ZB.r).length=us.length:=List.length_map _
 have g0:=zJJ us hl hs us 0 rfl
 rw[show((0:Nat):Int)=0 from rfl] at g0
 rw[aQ M0 _ rfl,A7]
 unfold pR
 cases h:tN us 0 us<;>rw[h] at g0<;>simp only[Bool.false_eq_true,if_true,if_false,bfa,bta] at g0 ⊢ <;> simp -implicitDefEqProofs (disch:=first|assumption|omega|(simp only[aE,aF,aD,i64,sa,aB,lm,la,lc,ln];omega)) only[go_sem,simprocAttr,l1,g0]
set_option maxRecDepth 8000
set_option maxHeartbeats 16000000
theorem zVC(us:List ZB)(hl:us.length≤1048576)(hs:∀u∈us,u.sm):∀(Bl:List ZB) (j:Nat) (V:List (List D)),us.drop j=Bl→V.length≤j →
  loopW tab [3,7,8,9] gZ {env:=upd (upd (upd (upd emp 9 (some (I (j:Int)))) 8 (some (I (us.length:Int)))) 7 (some (.d (.r (us.map ZB.r))))) 3 (some (.ref (0,0) [])),heap:=upd emp (0,0) (some (.s 4 V)),fr:=0,next:=1} =
  some (.ext 0,{env:=upd emp 3 (some (.ref (0,0) [])),heap:=upd emp (0,0) (some (.s 4 (V++Bl.map ZB.o))),fr:=0,next:=1})
 |[],j,V,hd,hV=>by
  have:=drop_nil hd
  simp only[mn,zqe]
  generalize us.map ZB.r=U at *
  unfold loopW
  conv=>lhs;arg 1;unfold gZ
  simp -implicitDefEqProofs (disch:=first|assumption|omega|(simp only[aE,aF,aD,i64,sa,aB,lm,la,lc,ln];omega)) only[go_sem,simprocAttr,show ¬((j:Int)<us.length) by omega]
 |u::Bl,j,V,hd,hV=>by
  obtain⟨ht,hlen,hd2⟩:=c7 hd
  have p0:=B6 ht
  have l1:(us.map ZB.r).length=us.length:=List.length_map _
  have g:=eK u (hs u (List.mem_of_getElem? ht))
  have n1:=ZA.noR u.fCode
  have ih:=zVC us hl hs Bl (j+1) (V++[u.o]) hd2 (by simp;omega)
  rw[show(((j+1:Nat)):Int)=(j:Int)+1 by omega,zqc,List.singleton_append] at ih
  rw[mc,←ih]
  clear ih
  simp only[ZB.xo,ZB.o] at g ⊢
  generalize us.map ZB.r=U at *
  conv=>lhs;unfold loopW;arg 1;unfold gZ
  simp -implicitDefEqProofs (disch:=first|assumption|omega|(simp only[aE,aF,aD,i64,sa,aB,lm,la,lc,ln];omega)) only[go_sem,simprocAttr,p0,l1,g,n1,show((j:Int)<us.length) by omega]
theorem F6(us:List ZB)(hl:us.length≤1048576)(hs:∀u∈us,u.sm):call tab q6 [.d (.r (us.map ZB.r))]=some (.d (.s 4 (us.map ZB.o))):=by
 have l1:(us.map ZB.r).length=us.length:=List.length_map _
 have g0:=zVC us hl hs us 0 [] rfl (by simp)
 simp only[zqf,show((0:Nat):Int)=0 from rfl] at g0
 generalize us.map ZB.o=Z at *
 rw[aQ Gz _ rfl,vQ]
 simp -implicitDefEqProofs (disch:=first|assumption|omega|(simp only[aE,aF,aD,i64,sa,aB,lm,la,lc,ln];omega)) only[go_sem,simprocAttr,l1,g0]
theorem zZf(us:List ZB)(hl:us.length≤1048576)(hs:∀u∈us,u.sm):∀(Bl:List ZB) (j:Nat) (V:List (List D)),us.drop j=Bl→V.length≤j →
  loopW tab [3,12,13,14] gM {env:=upd (upd (upd (upd emp 14 (some (I (j:Int)))) 13 (some (I (us.length:Int)))) 12 (some (.d (.r (us.map ZB.r))))) 3 (some (.ref (0,0) [])),heap:=upd emp (0,0) (some (.s 4 V)),fr:=0,next:=1} =
  some (.ext 0,{env:=upd emp 3 (some (.ref (0,0) [])),heap:=upd emp (0,0) (some (.s 4 (V++(Bl.map betU).map ZB.o))),fr:=0,next:=1})
 |[],j,V,hd,hV=>by
  have:=drop_nil hd
  simp only[mn,zqe]
  generalize us.map ZB.r=U at *
  unfold loopW
  conv=>lhs;arg 1;unfold gM
  simp -implicitDefEqProofs (disch:=first|assumption|omega|(simp only[aE,aF,aD,i64,sa,aB,lm,la,lc,ln];omega)) only[go_sem,simprocAttr,show ¬((j:Int)<us.length) by omega]
 |u::Bl,j,V,hd,hV=>by
  obtain⟨ht,hlen,hd2⟩:=c7 hd
  have p0:=B6 ht
  have l1:(us.map ZB.r).length=us.length:=List.length_map _
  have g:=Kz u (hs u (List.mem_of_getElem? ht))
  have ih:=zZf us hl hs Bl (j+1) (V++[(betU u).o]) hd2 (by simp;omega)
  rw[show(((j+1:Nat)):Int)=(j:Int)+1 by omega,zqc,List.singleton_append] at ih
  rw[mc,mc,←ih]
  clear ih
  generalize betU u=w at *
  have n1:=ZA.noR w.fCode
  simp only[ZB.xo,ZB.o] at g ⊢
  generalize us.map ZB.r=U at *
  conv=>lhs;unfold loopW;arg 1;unfold gM
  simp -implicitDefEqProofs (disch:=first|assumption|omega|(simp only[aE,aF,aD,i64,sa,aB,lm,la,lc,ln];omega)) only[go_sem,simprocAttr,p0,l1,g,n1,show((j:Int)<us.length) by omega]
noncomputable def betA (us:List ZB):List ZB:=if pR us=true then us.map betU else us
theorem Fx(us:List ZB)(hl:us.length≤1048576)(hs:∀u∈us,u.sm):call tab mU [.d (.r (us.map ZB.r))]=some (.d (.s 4 ((betA us).map ZB.o))):=by
 have l1:(us.map ZB.r).length=us.length:=List.length_map _
 have g1:=Jj us hl hs
 have g2:=F6 us hl hs
 have n2:=ZB.noR us
 have g0:=zZf us hl hs us 0 [] rfl (by simp)
 simp only[zqf,show((0:Nat):Int)=0 from rfl] at g0
 rw[aQ Gv _ rfl,uP,betA]
 cases h:pR us<;>rw[h] at g1<;>simp only[Bool.false_eq_true,if_true,if_false]
 ·simp -implicitDefEqProofs (disch:=first|assumption|omega|(simp only[aE,aF,aD,i64,sa,aB,lm,la,lc,ln];omega)) only[go_sem,simprocAttr,l1,g1,g2,n2]
 ·generalize (us.map betU).map ZB.o=Z at *
  simp -implicitDefEqProofs (disch:=first|assumption|omega|(simp only[aE,aF,aD,i64,sa,aB,lm,la,lc,ln];omega)) only[go_sem,simprocAttr,l1,g1,g0]
theorem zJI(us:List ZB)(hl:us.length≤1048576)(hs:∀u∈us,u.sm):∀(Bl:List ZB) (j:Nat) (V:List (List D)),us.drop j=Bl→V.length≤j →
  loopW tab [0,3,4] i8 {env:=upd (upd (upd emp 4 (some (I (j:Int)))) 3 (some (.ref (0,0) []))) 0 (some (.d (.r (us.map ZB.r)))),heap:=upd emp (0,0) (some (.s 4 V)),fr:=0,next:=1} =
  some (.ext 0,{env:=upd emp 3 (some (.ref (0,0) [])),heap:=upd emp (0,0) (some (.s 4 (V++Bl.map ZB.o))),fr:=0,next:=1})
 |[],j,V,hd,hV=>by
  have:=drop_nil hd
  have l1:(us.map ZB.r).length=us.length:=List.length_map _
  simp only[mn,zqe]
  generalize us.map ZB.r=U at *
  unfold loopW
  conv=>lhs;arg 1;unfold i8
  simp -implicitDefEqProofs (disch:=first|assumption|omega|(simp only[aE,aF,aD,i64,sa,aB,lm,la,lc,ln];omega)) only[go_sem,simprocAttr,l1,show ¬((j:Int)<us.length) by omega]
 |u::Bl,j,V,hd,hV=>by
  obtain⟨ht,hlen,hd2⟩:=c7 hd
  have p0:=B6 ht
  have l1:(us.map ZB.r).length=us.length:=List.length_map _
  have g:=eX u (hs u (List.mem_of_getElem? ht))
  have n1:=ZA.noR u.fCode
  have ih:=zJI us hl hs Bl (j+1) (V++[u.o]) hd2 (by simp;omega)
  rw[show(((j+1:Nat)):Int)=(j:Int)+1 by omega,zqc,List.singleton_append] at ih
  rw[mc,←ih]
  clear ih
  simp only[ZB.xo,ZB.o] at g ⊢
  generalize us.map ZB.r=U at *
  conv=>lhs;unfold loopW;arg 1;unfold i8
  simp -implicitDefEqProofs (disch:=first|assumption|omega|(simp only[aE,aF,aD,i64,sa,aB,lm,la,lc,ln];omega)) only[go_sem,simprocAttr,p0,l1,g,n1,show((j:Int)<us.length) by omega]
theorem Hr(us:List ZB)(hl:us.length≤1048576)(hs:∀u∈us,u.sm):call tab sY [.d (.r (us.map ZB.r))]=some (.d (.s 4 (us.map ZB.o))):=by
 have g0:=zJI us hl hs us 0 [] rfl (by simp)
 simp only[zqf,show((0:Nat):Int)=0 from rfl] at g0
 generalize us.map ZB.o=Z at *
 rw[aQ Jq _ rfl,yJ]
 simp -implicitDefEqProofs (disch:=first|assumption|omega|(simp only[aE,aF,aD,i64,sa,aB,lm,la,lc,ln];omega)) only[go_sem,simprocAttr,g0]
abbrev Zx(us:List ZB)(V:List (List D))(j:Int):St:={env:=upd (upd (upd emp 4 (some (I j))) 3 (some (.ref (0,0) []))) 0 (some (.d (.r (us.map ZB.r)))),heap:=upd emp (0,0) (some (.s 4 V)),fr:=0,next:=1}
theorem z9F(us:List ZB)(hl:us.length≤1048576)(hs:∀u∈us,u.sm)(h:pR us=false)(V:List (List D)):loopW tab [0,3,4] dM (Zx us V 0)=some (.ext 0,{env:=upd emp 3 (some (.ref (0,0) [])),heap:=upd emp (0,0) (some (.s 4 V)),fr:=0,next:=1}):=by
 have l1:(us.map ZB.r).length=us.length:=List.length_map _
 have g1:=yE us hl hs
 rw[h] at g1
 simp only[Zx]
 unfold loopW
 conv=>lhs;arg 1;unfold dM
 by_cases c:(0:Int)<us.length
 ·simp -implicitDefEqProofs (disch:=first|assumption|omega|(simp only[aE,aF,aD,i64,sa,aB,lm,la,lc,ln];omega)) only[go_sem,simprocAttr,l1,g1,c]
 ·simp -implicitDefEqProofs (disch:=first|assumption|omega|(simp only[aE,aF,aD,i64,sa,aB,lm,la,lc,ln];omega)) only[go_sem,simprocAttr,l1,c]
theorem zJz(us:List ZB)(hl:us.length≤1048576)(hs:∀u∈us,u.sm)(h:pR us=true):∀(Bl A:List ZB),us=A++Bl →
  loopW tab [0,3,4] dM (Zx us ((A.map betU).map ZB.o++Bl.map ZB.o) (A.length:Int)) =
  some (.ext 0,{env:=upd emp 3 (some (.ref (0,0) [])),heap:=upd emp (0,0) (some (.s 4 ((us.map betU).map ZB.o))),fr:=0,next:=1})
 |[],A,hA=>by
  rw[zqe] at hA
  subst hA
  have l1:(us.map ZB.r).length=us.length:=List.length_map _
  simp only[mn,zqe,Zx]
  generalize us.map ZB.r=U at *
  unfold loopW
  conv=>lhs;arg 1;unfold dM
  simp -implicitDefEqProofs (disch:=first|assumption|omega|(simp only[aE,aF,aD,i64,sa,aB,lm,la,lc,ln];omega)) only[go_sem,simprocAttr,l1,show ¬((us.length:Int)<us.length) by omega]
 |u::Bl,A,hA=>by
  have ht:us[A.length]? = some u:=by rw[hA,List.getElem?_append_right (Nat.le_refl _),Nat.sub_self];rfl
  have hlen:us.length=A.length+(Bl.length+1):=by rw[hA];simp
  have p0:=B6 ht
  have l1:(us.map ZB.r).length=us.length:=List.length_map _
  have g:=M8 u (hs u (List.mem_of_getElem? ht))
  have g1:=yE us hl hs
  rw[h] at g1
  have ih:=zJz us hl hs h Bl (A++[u]) (by rw[hA];simp)
  rw[la,zqa,show(((A.length+1:Nat)):Int)=(A.length:Int)+1 by omega] at ih
  rw[←ih]
  clear ih
  have l2:((A.map betU).map ZB.o++(u::Bl).map ZB.o).length=us.length:=by rw[hlen];simp
  have p2:((A.map betU).map ZB.o++(u::Bl).map ZB.o)[A.length]? = some u.o:=by
   rw[List.getElem?_append_right (by simp)];simp
  have q2:((A.map betU).map ZB.o++(u::Bl).map ZB.o).set A.length (betU u).o=((A++[u]).map betU).map ZB.o++Bl.map ZB.o:=by
   rw[List.set_append_right _ _ (by simp)];simp
  simp only[Zx]
  generalize (A.map betU).map ZB.o++(u::Bl).map ZB.o=R at *
  generalize ((A++[u]).map betU).map ZB.o++Bl.map ZB.o=R2 at *
  generalize betU u=w at *
  have n1:=ZA.noR w.fCode
  simp only[ZB.xo,ZB.o] at g p2 q2
  conv=>lhs;unfold loopW;arg 1;unfold dM
  simp -implicitDefEqProofs (disch:=first|assumption|omega|(simp only[aE,aF,aD,i64,sa,aB,lm,la,lc,ln];omega)) only[go_sem,simprocAttr,p0,l1,l2,p2,q2,g,g1,n1,show((A.length:Int)<us.length) by omega]
theorem E8(us:List ZB)(hl:us.length≤1048576)(hs:∀u∈us,u.sm):call tab qA [.d (.r (us.map ZB.r))]=some (.d (.s 4 ((betA us).map ZB.o))):=by
 have g2:=Hr us hl hs
 have n2:=ZB.noR us
 rw[aQ Hn _ rfl,uT,betA]
 cases h:pR us<;>simp only[Bool.false_eq_true,if_true,if_false]
 ·have g0:=z9F us hl hs h (us.map ZB.o)
  simp only[Zx] at g0
  simp -implicitDefEqProofs (disch:=first|assumption|omega|(simp only[aE,aF,aD,i64,sa,aB,lm,la,lc,ln];omega)) only[go_sem,simprocAttr,g2,n2,g0]
 ·have g0:=zJz us hl hs h us [] rfl
  simp only[Zx,mn,zqf,ln,show((0:Nat):Int)=0 from rfl] at g0
  generalize (us.map betU).map ZB.o=Z at *
  simp -implicitDefEqProofs (disch:=first|assumption|omega|(simp only[aE,aF,aD,i64,sa,aB,lm,la,lc,ln];omega)) only[go_sem,simprocAttr,g2,n2,g0]
set_option maxRecDepth 8000
set_option maxHeartbeats 16000000
theorem X3:∀us:List ZB,ZB.cts (us.map betU)≤ZB.cts us
 |[]=>Int.le_refl _
 |u::us=>by
  have h1:=X3 us
  have h2:=zWf u
  rw[mc,ZB.cts,ZB.cts]
  unfold ZB.ctv at h2
  unfold ZB.ct
  omega
theorem zxW(us:List ZB):ZB.cts (betA us)≤ZB.cts us:=by
 unfold betA
 split
 ·exact X3 us
 ·exact Int.le_refl _
theorem zXm{us:List ZB}(hl:us.length≤1048576)(hs:∀u∈us,u.sm):(betA us).length≤1048576∧∀u∈betA us,u.sm:=by
 unfold betA
 split
 ·refine⟨by rw[lm];exact hl,fun u h=> ?_⟩
  obtain⟨w,hw,rfl⟩:=List.mem_map.1 h
  exact zWo (hs w hw)
 ·exact⟨hl,hs⟩
theorem zF(us:List ZB)(hU:us.length≤140737488351232∧∀y∈us,y.ok):call tab iX [.d (.r (us.map ZB.r))]=some (B true):=by
 have g0:=Iy us 1048576 (by omega) hU
 rw[aQ vP _ rfl,mA]
 by_cases h0:(1048576:Int)<ZB.szs us
 ·rw[if_pos h0] at g0
  simp -implicitDefEqProofs (disch:=first|assumption|omega|(simp only[aE,aF,aD,i64,sa,aB,lm,la,lc,ln];omega)) only[go_sem,simprocAttr,g0]
 ·rw[if_neg h0] at g0
  obtain⟨r1,r2⟩:=ZB.sms_of (by omega:ZB.szs us≤1048576)
  have g1:=Iu us ⟨r1,r2⟩
  have e1:=Fx us r1 r2
  have e2:=E8 us r1 r2
  have hR:=zXm r1 r2
  have g4:=x7 us ⟨r1,r2⟩
  have n1:=ZB.cts_le us
  have n3:=ZB.cts_nn us
  have n5:=zxW us
  have g5:=rZ us 1 (by omega) (by omega)
  generalize betA us=R at *
  have n4:=ZB.cts_nn R
  have g6:=x7 R hR
  have g7:=rZ R 1 (by omega) (by omega)
  have g8:=Ew R 1 (by omega) (by omega)
  have hz:¬1048576-ZB.szs us<0:=by omega
  generalize 1048576-ZB.szs us=z at *
  simp -implicitDefEqProofs (disch:=first|assumption|omega|(simp only[aE,aF,aD,i64,sa,aB,lm,la,lc,ln];omega)) only[go_sem,simprocAttr,g0,g1,e1,e2,g4,g5,g6,g7,g8,hz,ZB.fzs,ZB.fzr,ZB.noR]
theorem pure_FnExactBetterAll(xs:List X)(h:zqZ [(false,[.l 56 [.s,.i .i64,.i .i64,.l 80 [.i .i64,.i .i64,.i .i64,.i .i64,.i .i64,.s,.l 8 [.i .i64]]]])] xs):call tab iX xs=some (.d (.v (.bool true))):=by
 simp only[zqZ,z8B] at h
 obtain⟨x0,r0,rfl,⟨d0,rfl,hf0⟩,rfl⟩:=h
 rw[fit] at hf0
 obtain⟨els0,rfl,hb0,hc0⟩:=hf0
 obtain⟨y0,rfl,hy0⟩:=Ka (fun c hc=>ZB.fit hc) hc0
 rw[lm] at hb0
 exact zF y0 ⟨by omega,hy0⟩
end Go.Ev.G
