import Derived.Test.YtenclibcnjkamaaGreatEvPUnit2
import Derived.Test.YtenclibcnjkamaaGreatEvBase
set_option linter.all false
namespace Go.Ev.G
set_option maxRecDepth 8000
set_option maxHeartbeats 4000000
theorem Qw(zs:List Int):Db (zs.map fun n=>[DI n])=some zs:=by
 induction zs with
 |nil=>rfl
 |cons z zs ih=>simp only[mc,Db,ih,oms]
theorem uV(zs:List Int)(hl:zs.length≤1000000000:=by simp):evCW tab kR [.ref (0,0) []] (upd emp (0,0) (some (.s 1 (aP zs)))) 1=some (.tup [],upd emp (0,0) (some (.s 1 (aP (jY 1 zs))))):=by
 rw[bU yZ _ _ _ rfl,m7,zke]
 have h:libS 1 {env:=jQ 0 [X.ref (0,0) []],heap:=upd emp (0,0) (some (.s 1 (aP zs))),fr:=1,next:=0}=some (.ret,{env:=emp,heap:=upd (upd (upd emp (0,0) (some (.s 1 (aP zs)))) (0,0) none) (0,0) (some (.s 1 (E5 (jY 1 zs)))),fr:=1,next:=0}):=by
  simp[libS,jQ,upd,X.rowId,D.rowOf,zWB,Qw,hl]
 rw[h]
 simp -implicitDefEqProofs (disch:=first|assumption|omega|(simp only[aE,aF,aD,i64,sa,aB,lm,la,lc,ln];omega)) only[go_sem,simprocAttr,E5]
theorem kJ(zs:List Int)(hl:zs.length≤1000000000:=by simp):evCW tab gT [.ref (0,0) []] (upd emp (0,0) (some (.s 1 (aP zs)))) 1=some (.d (.s 1 (aP (jY 2 zs))),emp):=by
 rw[bU s8 _ _ _ rfl,lA,zke]
 have h:libS 2 {env:=jQ 0 [X.ref (0,0) []],heap:=upd emp (0,0) (some (.s 1 (aP zs))),fr:=1,next:=0}=some (.ret,{env:=upd emp 0 (some (.ref (1,0) [])),heap:=upd (upd (upd emp (0,0) (some (.s 1 (aP zs)))) (0,0) none) (1,0) (some (.s 1 (E5 (jY 2 zs)))),fr:=1,next:=0}):=by
  simp[libS,jQ,upd,X.rowId,D.rowOf,zWB,Qw,hl]
 rw[h]
 have e:(upd emp (0,0) none:Heap)=emp:=by funext id;simp[upd,emp]
 simp -implicitDefEqProofs (disch:=first|assumption|omega|(simp only[aE,aF,aD,i64,sa,aB,lm,la,lc,ln];omega)) only[go_sem,simprocAttr,E5,e]
theorem zwL(a b:Int):jY 1 [a,b]=if a≤b then [a,b] else [b,a]:=by
 simp only[jY,if_true]
 by_cases h:a≤b
 ·rw[if_pos h]
  exact List.mergeSort_of_pairwise (le:=fun x y=>decide (x≤y)) (by simp[h])
 ·rw[if_neg h]
  have h1:=List.mergeSort_of_pairwise (le:=fun x y:Int=>decide (x≤y)) (l:=[b,a]) (by simp;omega)
  have h2:([a,b]:List Int).Perm [b,a]:=List.Perm.swap b a []
  rw[←h1]
  refine List.Perm.eq_of_pairwise (le:=fun x y:Int=>decide (x≤y)=true) (fun x y _ _ h1 h2=>by simp at h1 h2;omega) (List.pairwise_mergeSort (fun x y z h1 h2=>by simp at *;omega) (fun x y=>by simp;omega) _) (List.pairwise_mergeSort (fun x y z h1 h2=>by simp at *;omega) (fun x y=>by simp;omega) _) ?_
  exact(List.mergeSort_perm _ _).trans (h2.trans (List.mergeSort_perm _ _).symm)
theorem Q1(a b:Int):jY 2 [a,b]=if b=a then [a] else [a,b]:=by
 simp only[jY,show(2:Nat)≠1 by decide,if_false,Ki,lc,ln,Nat.zero_add,Nat.reduceAdd]
 rw[show List.range 2=[0,1] from rfl]
 by_cases h:b=a<;>simp[T7,h]
theorem W8(n:Nat)(a:Int):jY n [a]=[a]:=by
 unfold jY
 split
 ·simp
 ·rw[Ki,show List.range [a].length=[0] from rfl];simp[T7]
theorem Wu(n:Nat):jY n []=[]:=by
 unfold jY
 split
 ·simp
 ·simp[Ki]
def eT(code:List ZA)(i:Int)(t:ZA):List Int:=if t.fOp=12 then [] else if t.fOp=28 then [] else if t.fOp=9 then [fU code t.fN] else if t.fOp=10 then
 (if fU code t.fN<i+1 then [fU code t.fN,i+1] else if i+1<fU code t.fN then [i+1,fU code t.fN] else [i+1]) else [i+1]
theorem wJ{α:Type}(p:α→Bool):∀(xs:List α) (j:Int),0≤j→ -1≤aT p j xs∧aT p j xs<j+xs.length
 |[],j,h=>by simp[aT];omega
 |x::xs,j,h=>by
  have ih:=wJ p xs (j+1) (by omega)
  rw[aT]
  split
  ·simp only[lc];omega
  ·simp only[lc];omega
theorem W4(code:List ZA)(m:Int): -1≤fU code m∧fU code m≤code.length:=by
 have:=wJ (rT m) code 0 (by omega)
 unfold fU
 omega
theorem Jl(u:ZB)(i:Int)(t:ZA)(h0:0≤i)(ht:u.fCode[i.toNat]? = some t)(hl:u.fCode.length≤1048576):call tab wM [u.x,I i]=some (.d (.s 1 (aP (eT u.fCode i t)))):=by
 rw[aQ N8 _ rfl,Bw]
 have h2:=kH ZA.r ht
 simp only[ZA.r] at h2
 have hlt:i.toNat<u.fCode.length:=(List.getElem?_eq_some_iff.1 ht).1
 have a1:call tab iI [.d (.r (u.fCode.map ZA.r)),I t.fN]=some (I (fU u.fCode t.fN)):=vI u.fCode t.fN hl
 have hb:=W4 u.fCode t.fN
 unfold eT
 by_cases c1:t.fOp=12
 ·rw[if_pos c1]
  simp -implicitDefEqProofs (disch:=first|assumption|omega|(simp only[aE,aF,aD,i64,sa,aB,lm,la,lc,ln];omega)) only[go_sem,simprocAttr,h2,a1,c1]
 rw[if_neg c1]
 by_cases c2:t.fOp=28
 ·rw[if_pos c2]
  simp -implicitDefEqProofs (disch:=first|assumption|omega|(simp only[aE,aF,aD,i64,sa,aB,lm,la,lc,ln];omega)) only[go_sem,simprocAttr,h2,a1,c2]
 rw[if_neg c2]
 by_cases c3:t.fOp=9
 ·rw[if_pos c3]
  simp -implicitDefEqProofs (disch:=first|assumption|omega|(simp only[aE,aF,aD,i64,sa,aB,lm,la,lc,ln];omega)) only[go_sem,simprocAttr,h2,a1,c3]
 rw[if_neg c3]
 by_cases c4:t.fOp=10
 ·rw[if_pos c4]
  generalize fU u.fCode t.fN=b at *
  by_cases c5:b<i+1
  ·rw[if_pos c5]
   simp -implicitDefEqProofs (disch:=first|assumption|omega|(simp only[aE,aF,aD,i64,sa,aB,lm,la,lc,ln];omega)) only[go_sem,simprocAttr,h2,a1,c4,c5]
  rw[if_neg c5]
  by_cases c6:i+1<b
  ·rw[if_pos c6]
   simp -implicitDefEqProofs (disch:=first|assumption|omega|(simp only[aE,aF,aD,i64,sa,aB,lm,la,lc,ln];omega)) only[go_sem,simprocAttr,h2,a1,c4,c5,c6]
  rw[if_neg c6]
  simp -implicitDefEqProofs (disch:=first|assumption|omega|(simp only[aE,aF,aD,i64,sa,aB,lm,la,lc,ln];omega)) only[go_sem,simprocAttr,h2,a1,c4,c5,c6]
 rw[if_neg c4]
 simp -implicitDefEqProofs (disch:=first|assumption|omega|(simp only[aE,aF,aD,i64,sa,aB,lm,la,lc,ln];omega)) only[go_sem,simprocAttr,h2,a1,c1,c2,c3,c4]
theorem T2(code:List ZA)(i:Int)(t:ZA)(h0:0≤i)(ht:code[i.toNat]? = some t)(hl:code.length≤1048576):call tab Gt [.d (.r (code.map ZA.r)),I i]=some (.d (.s 1 (aP (eT code i t)))):=by
 rw[aQ Zh _ rfl,H1]
 have h2:=kH ZA.r ht
 simp only[ZA.r] at h2
 have hlt:i.toNat<code.length:=(List.getElem?_eq_some_iff.1 ht).1
 have a1:=x9 code t.fN hl
 have hb:=W4 code t.fN
 unfold eT
 by_cases c1:t.fOp=12
 ·rw[if_pos c1]
  have s0:=uV []
  have p0:=kJ []
  rw[Wu] at s0 p0
  simp only[aP,mn] at s0 p0
  simp -implicitDefEqProofs (disch:=first|assumption|omega|(simp only[aE,aF,aD,i64,sa,aB,lm,la,lc,ln];omega)) only[go_sem,simprocAttr,h2,c1,s0,p0]
 rw[if_neg c1]
 by_cases c2:t.fOp=28
 ·rw[if_pos c2]
  have s0:=uV []
  have p0:=kJ []
  rw[Wu] at s0 p0
  simp only[aP,mn] at s0 p0
  simp -implicitDefEqProofs (disch:=first|assumption|omega|(simp only[aE,aF,aD,i64,sa,aB,lm,la,lc,ln];omega)) only[go_sem,simprocAttr,h2,c2,s0,p0]
 rw[if_neg c2]
 by_cases c3:t.fOp=9
 ·rw[if_pos c3]
  have s0:=uV [fU code t.fN]
  have p0:=kJ [fU code t.fN]
  rw[W8] at s0 p0
  simp only[aP,mn,mc] at s0 p0
  simp -implicitDefEqProofs (disch:=first|assumption|omega|(simp only[aE,aF,aD,i64,sa,aB,lm,la,lc,ln];omega)) only[go_sem,simprocAttr,h2,a1,c3,s0,p0]
 rw[if_neg c3]
 by_cases c4:t.fOp=10
 ·rw[if_pos c4]
  generalize fU code t.fN=b at *
  have s0:=uV [i+1,b]
  rw[zwL] at s0
  by_cases c5:b<i+1
  ·rw[if_pos c5]
   rw[if_neg (by omega)] at s0
   have p0:=kJ [b,i+1]
   rw[Q1,if_neg (by omega)] at p0
   simp only[aP,mn,mc] at s0 p0
   simp -implicitDefEqProofs (disch:=first|assumption|omega|(simp only[aE,aF,aD,i64,sa,aB,lm,la,lc,ln];omega)) only[go_sem,simprocAttr,h2,a1,c4,s0,p0]
  rw[if_neg c5]
  rw[if_pos (by omega)] at s0
  have p0:=kJ [i+1,b]
  rw[Q1] at p0
  by_cases c6:i+1<b
  ·rw[if_pos c6]
   rw[if_neg (by omega)] at p0
   simp only[aP,mn,mc] at s0 p0
   simp -implicitDefEqProofs (disch:=first|assumption|omega|(simp only[aE,aF,aD,i64,sa,aB,lm,la,lc,ln];omega)) only[go_sem,simprocAttr,h2,a1,c4,s0,p0]
  rw[if_neg c6]
  rw[if_pos (by omega)] at p0
  simp only[aP,mn,mc] at s0 p0
  simp -implicitDefEqProofs (disch:=first|assumption|omega|(simp only[aE,aF,aD,i64,sa,aB,lm,la,lc,ln];omega)) only[go_sem,simprocAttr,h2,a1,c4,s0,p0]
 rw[if_neg c4]
 have s0:=uV [i+1]
 have p0:=kJ [i+1]
 rw[W8] at s0 p0
 simp only[aP,mn,mc] at s0 p0
 simp -implicitDefEqProofs (disch:=first|assumption|omega|(simp only[aE,aF,aD,i64,sa,aB,lm,la,lc,ln];omega)) only[go_sem,simprocAttr,h2,c1,c2,c3,c4,s0,p0]
abbrev BL:=List Bool
def leB(a b:BL):Prop:=∀r:Nat,a[r]? = some true→b[r]? = some true
theorem leB.refl(a:BL):leB a a:=fun _ h=>h
theorem leB.trans{a b c:BL}(h1:leB a b)(h2:leB b c):leB a c:=fun r h=>h2 r (h1 r h)
theorem zJW{a b:BL}(hl:a.length=b.length)(h1:leB a b)(h2:leB b a):a=b:=by
 refine List.ext_getElem? fun r=> ?_
 by_cases hr:r<a.length
 ·have e1:=List.getElem?_eq_getElem hr
  have e2:=List.getElem?_eq_getElem (l:=b) (i:=r) (by omega)
  cases x:a[r] with
  |true=>rw[h1 r (by rw[e1,x]),e1,x]
  |false =>
   cases y:b[r]'(by omega) with
   |true =>
    have:=h2 r (by rw[e2,y])
    rw[e1,x] at this
    simp at this
   |false=>rw[e1,e2,x,y]
 ·rw[List.getElem?_eq_none (by omega),List.getElem?_eq_none (by omega)]
def orB(a b:BL):BL:=List.zipWith (fun x y=>x||y) a b
theorem B9{a b:BL}(h:a.length=b.length):(orB a b).length=a.length:=by simp[orB];omega
theorem Rv{a b:BL}(h:a.length=b.length)(r:Nat):(orB a b)[r]? = some true↔a[r]? = some true∨b[r]? = some true:=by
 unfold orB
 rw[List.getElem?_zipWith]
 by_cases hr:r<a.length
 ·rw[List.getElem?_eq_getElem hr,List.getElem?_eq_getElem (l:=b) (i:=r) (by omega)]
  simp
 ·rw[List.getElem?_eq_none (by omega),List.getElem?_eq_none (l:=b) (by omega)]
  simp
theorem zJL{a b:BL}(h:a.length=b.length):leB a (orB a b):=fun r hr=>(Rv h r).2 (.inl hr)
theorem z9j{a b:BL}(h:a.length=b.length):leB b (orB a b):=fun r hr=>(Rv h r).2 (.inr hr)
theorem zZ5{a b c:BL}(h:a.length=b.length)(h1:leB a c)(h2:leB b c):leB (orB a b) c:=fun r hr=>((Rv h r).1 hr).elim (h1 r) (h2 r)
theorem zjQ:∀{a b:BL},a.length=b.length→leB a b→a.count true≤b.count true
 |[],[],_,_=>Nat.le_refl _
 |[],_::_,h,_=>by simp at h
 |_::_,[],h,_=>by simp at h
 |x::a,y::b,h,hle=>by
  have ih:=zjQ (a:=a) (b:=b) (by simpa using h) (fun r hr=>by have:=hle (r+1) (by simpa using hr);simpa using this)
  have h0:x=true→y=true:=fun e=>by have:=hle 0 (by simp[e]);simpa using this
  cases x<;>cases y<;>simp_all<;>omega
theorem zzn:∀{a b:BL},a.length=b.length→leB a b→a≠b→a.count true<b.count true
 |[],[],_,_,h=>absurd rfl h
 |[],_::_,h,_,_=>by simp at h
 |_::_,[],h,_,_=>by simp at h
 |x::a,y::b,h,hle,hne=>by
  have hle':leB a b:=fun r hr=>by have:=hle (r+1) (by simpa using hr);simpa using this
  have h0:x=true→y=true:=fun e=>by have:=hle 0 (by simp[e]);simpa using this
  have hc:=zjQ (a:=a) (b:=b) (by simpa using h) hle'
  by_cases e:x=y
  ·subst e
   have ih:=zzn (a:=a) (b:=b) (by simpa using h) hle' (fun e=>hne (by rw[e]))
   cases x<;>simp<;>omega
  ·cases x<;>cases y<;>simp_all<;>omega
structure Flow where
 n:Nat
 m:Nat
 nx:Nat→List Nat
 T:Nat→BL→BL
structure Flow.Ok (F:Flow):Prop where
 nx:∀iz,iz<F.n→∀k∈F.nx iz,k<F.n
 len:∀iz a,a.length=F.m→(F.T iz a).length=F.m
 mono:∀iz a b,a.length=F.m→b.length=F.m→leB a b→leB (F.T iz a) (F.T iz b)
abbrev aX(M:List BL)(iz:Nat):BL:=(M[iz]?).getD []
structure Flow.Rows (F:Flow) (M:List BL):Prop where
 len:M.length=F.n
 row:∀iz,iz<F.n→(aX M iz).length=F.m
structure Flow.Closed (F:Flow) (C:Nat→BL):Prop where
 len:∀iz,iz<F.n→(C iz).length=F.m
 cl:∀iz,iz<F.n→∀k∈F.nx iz,leB (F.T k (C k)) (C iz)
structure Flow.Least (F:Flow) (M:List BL):Prop where
 rows:F.Rows M
 cl:F.Closed (aX M)
 least:∀C,F.Closed C→∀iz,iz<F.n→leB (aX M iz) (C iz)
variable{F:Flow}
theorem Flow.Least.unique{A B:List BL}(a:F.Least A)(b:F.Least B):A=B:=by
 refine List.ext_getElem? fun iz=> ?_
 by_cases hi:iz<F.n
 ·have e1:=a.rows.row iz hi
  have e2:=b.rows.row iz hi
  have:=zJW (by omega) (a.least _ b.cl iz hi) (b.least _ a.cl iz hi)
  have h1:=List.getElem?_eq_getElem (l:=A) (i:=iz) (by rw[a.rows.len];exact hi)
  have h2:=List.getElem?_eq_getElem (l:=B) (i:=iz) (by rw[b.rows.len];exact hi)
  simp only[aX,h1,h2,Option.getD_some] at this
  rw[h1,h2,this]
 ·rw[List.getElem?_eq_none (by rw[a.rows.len];omega),List.getElem?_eq_none (by rw[b.rows.len];omega)]
theorem q7{M:List BL}{iz j:Nat}{x:BL}(hi:iz<M.length):aX (M.set iz x) j=if j=iz then x else aX M j:=by
 unfold aX
 rw[List.getElem?_set]
 by_cases e:j=iz
 ·subst e
  simp[hi]
 ·rw[if_neg (fun h=>e h.symm),if_neg e]
theorem Flow.Rows.set{M:List BL}(h:F.Rows M){iz:Nat}(hi:iz<F.n){x:BL}(hx:x.length=F.m):F.Rows (M.set iz x) :=
 ⟨by rw[List.length_set];exact h.len,fun j hj=>by
  rw[q7 (by rw[h.len];exact hi)]
  split
  ·exact hx
  ·exact h.row j hj⟩
def rR(M:List BL):Nat:=(M.map fun a=>a.count true).sum
theorem Md:∀(M:List BL) (iz:Nat) (x:BL),iz<M.length→rR (M.set iz x)+(aX M iz).count true=rR M+x.count true
 |[],iz,x,h=>by simp at h
 |a::M,0,x,_=>by simp[rR,aX];omega
 |a::M,iz+1,x,h=>by
  have ih:=Md M iz x (by simpa using h)
  simp only[rR,aX,List.set_cons_succ,mc,List.sum_cons,List.getElem?_cons_succ] at ih ⊢
  omega
theorem zkr:∀{M:List BL} {m:Nat},(∀a∈M,a.length=m)→rR M≤M.length*m
 |[],m,_=>by simp[rR]
 |a::M,m,h=>by
  have ih:=zkr (M:=M) (m:=m) (fun x hx=>h x (by simp[hx]))
  have h1:a.count true≤a.length:=List.count_le_length
  have h2:=h a (by simp)
  simp only[rR,mc,List.sum_cons,lc,Nat.add_mul,Nat.one_mul] at ih ⊢
  omega
theorem Flow.Rows.cnt{M:List BL}(h:F.Rows M):rR M≤F.n*F.m:=by
 rw[←h.len]
 refine zkr fun a ha=> ?_
 obtain⟨iz,hi,rfl⟩:=List.getElem_of_mem ha
 have:=h.row iz (by rw[←h.len];exact hi)
 simpa[aX,List.getElem?_eq_getElem hi] using this
def Flow.joinI(F:Flow)(ins:List BL)(ks:List Nat)(o:BL):BL:=ks.foldl (fun o k=>orB o (aX ins k)) o
def Flow.stepI(F:Flow)(iz:Nat)(sq:List BL×List BL×Bool):List BL×List BL×Bool :=
 if F.T iz (F.joinI sq.1 (F.nx iz) (aX sq.2.1 iz))=aX sq.1 iz then(sq.1,sq.2.1.set iz (F.joinI sq.1 (F.nx iz) (aX sq.2.1 iz)),sq.2.2)
 else(sq.1.set iz (F.T iz (F.joinI sq.1 (F.nx iz) (aX sq.2.1 iz))),sq.2.1.set iz (F.joinI sq.1 (F.nx iz) (aX sq.2.1 iz)),true)
def Flow.passI(F:Flow):Nat→List BL×List BL×Bool→List BL×List BL×Bool
 |0,sq=>sq
 |m+1,sq=>F.passI m (F.stepI m sq)
structure Flow.InvI (F:Flow) (ins outs:List BL):Prop where
 a:F.Rows ins
 b:F.Rows outs
 le:∀iz,iz<F.n→leB (aX ins iz) (F.T iz (aX outs iz))
 bd:∀C,F.Closed C→∀iz,iz<F.n→leB (aX outs iz) (C iz)
theorem Flow.joinI_ok{ins:List BL}(hi:F.Rows ins):∀(ks:List Nat) (o:BL),(∀k∈ks,k<F.n)→o.length=F.m →
  (F.joinI ins ks o).length=F.m∧leB o (F.joinI ins ks o)∧(∀k∈ks,leB (aX ins k) (F.joinI ins ks o))∧∀c:BL,leB o c→(∀k∈ks,leB (aX ins k) c)→leB (F.joinI ins ks o) c
 |[],o,_,ho=>⟨ho,leB.refl o,fun k hk=>by simp at hk,fun c h _=>h⟩
 |k::ks,o,hk,ho=>by
  have hl:o.length=(aX ins k).length:=by rw[ho,hi.row k (hk k (by simp))]
  obtain⟨h1,h2,h3,h4⟩:=joinI_ok hi ks (orB o (aX ins k)) (fun j hj=>hk j (by simp[hj])) (by rw[B9 hl,ho])
  refine⟨h1,(zJL hl).trans h2,fun j hj=> ?_,fun c hc hks=>h4 c (zZ5 hl hc (hks k (by simp))) (fun j hj=>hks j (by simp[hj]))⟩
  rcases List.mem_cons.1 hj with rfl|hj
  ·exact(z9j hl).trans h2
  ·exact h3 j hj
theorem Flow.stepI_ok(hF:F.Ok){iz:Nat}(hi:iz<F.n){sq:List BL×List BL×Bool}(h:F.InvI sq.1 sq.2.1):F.InvI (F.stepI iz sq).1 (F.stepI iz sq).2.1:=by
 obtain⟨h1,h2,h3,h4⟩:=F.joinI_ok h.a (F.nx iz) (aX sq.2.1 iz) (hF.nx iz hi) (h.b.row iz hi)
 have hb:=h.b.set hi h1
 have ho:∀j,j<F.n→leB (aX sq.2.1 j) (aX (sq.2.1.set iz (F.joinI sq.1 (F.nx iz) (aX sq.2.1 iz))) j):=fun j hj=>by
  rw[q7 (by rw[h.b.len];exact hi)]
  split
  ·rename_i e;rw[e];exact h2
  ·exact leB.refl _
 have hbd:∀C,F.Closed C→∀j,j<F.n→leB (aX (sq.2.1.set iz (F.joinI sq.1 (F.nx iz) (aX sq.2.1 iz))) j) (C j):=fun C hC j hj=>by
  rw[q7 (by rw[h.b.len];exact hi)]
  split
  ·rename_i e
   rw[e]
   refine h4 _ (h.bd C hC iz hi) (fun k hk=> ?_)
   have hk':=hF.nx iz hi k hk
   exact((h.le k hk').trans (hF.mono k _ _ (h.b.row k hk') (hC.len k hk') (h.bd C hC k hk'))).trans (hC.cl iz hi k hk)
  ·exact h.bd C hC j hj
 unfold Flow.stepI
 split
 ·exact⟨h.a,hb,fun j hj=>(h.le j hj).trans (hF.mono j _ _ (h.b.row j hj) (hb.row j hj) (ho j hj)),hbd⟩
 ·refine⟨h.a.set hi (hF.len iz _ h1),hb,fun j hj=> ?_,hbd⟩
  rw[q7 (by rw[h.a.len];exact hi)]
  split
  ·rename_i e
   rw[e,q7 (by rw[h.b.len];exact hi),if_pos rfl]
   exact leB.refl _
  ·exact(h.le j hj).trans (hF.mono j _ _ (h.b.row j hj) (hb.row j hj) (ho j hj))
theorem Flow.stepI_cnt(hF:F.Ok){iz:Nat}(hi:iz<F.n){sq:List BL×List BL×Bool}(h:F.InvI sq.1 sq.2.1) :
  rR sq.1≤rR (F.stepI iz sq).1∧((F.stepI iz sq).2.2=true→sq.2.2=true∨rR sq.1<rR (F.stepI iz sq).1)∧(sq.2.2=true→(F.stepI iz sq).2.2=true):=by
 obtain⟨h1,h2,h3,h4⟩:=F.joinI_ok h.a (F.nx iz) (aX sq.2.1 iz) (hF.nx iz hi) (h.b.row iz hi)
 unfold Flow.stepI
 split
 ·exact⟨Nat.le_refl _,fun e=> .inl e,fun e=>e⟩
 ·rename_i hne
  have hle:leB (aX sq.1 iz) (F.T iz (F.joinI sq.1 (F.nx iz) (aX sq.2.1 iz))):=(h.le iz hi).trans (hF.mono iz _ _ (h.b.row iz hi) h1 h2)
  have hlt:=zzn (by rw[h.a.row iz hi,hF.len iz _ h1]) hle (fun e=>hne e.symm)
  have:=Md sq.1 iz (F.T iz (F.joinI sq.1 (F.nx iz) (aX sq.2.1 iz))) (by rw[h.a.len];exact hi)
  exact⟨by simp only;omega,fun _=> .inr (by simp only;omega),fun _=>rfl⟩
theorem Flow.passI_ok(hF:F.Ok):∀(m:Nat) (sq:List BL×List BL×Bool),m≤F.n→F.InvI sq.1 sq.2.1→F.InvI (F.passI m sq).1 (F.passI m sq).2.1∧rR sq.1≤rR (F.passI m sq).1∧((F.passI m sq).2.2=true→sq.2.2=true∨rR sq.1<rR (F.passI m sq).1)∧(sq.2.2=true→(F.passI m sq).2.2=true)
 |0,sq,_,h=>⟨h,Nat.le_refl _,fun e=> .inl e,fun e=>e⟩
 |m+1,sq,hm,h=>by
  obtain⟨a1,a2,a3,a4⟩:=passI_ok hF m (F.stepI m sq) (by omega) (F.stepI_ok hF (by omega) h)
  obtain⟨b1,b2,b3⟩:=F.stepI_cnt hF (iz:=m) (by omega) h
  refine⟨a1,Nat.le_trans b1 a2,fun e=> ?_,fun e=>a4 (b3 e)⟩
  simp only[Flow.passI] at e a2 ⊢
  rcases a3 e with e|e
  ·rcases b2 e with e|e
   ·exact .inl e
   ·exact .inr (by omega)
  ·exact .inr (by omega)
theorem Flow.passI_still(hF:F.Ok):∀(m:Nat) (sq:List BL×List BL×Bool),m≤F.n→F.InvI sq.1 sq.2.1→(F.passI m sq).2.2=false →
  (F.passI m sq).1=sq.1∧(∀iz,m≤iz→iz<F.n→aX (F.passI m sq).2.1 iz=aX sq.2.1 iz)∧∀iz,iz<m→F.T iz (aX (F.passI m sq).2.1 iz)=aX sq.1 iz∧∀k∈F.nx iz,leB (aX sq.1 k) (aX (F.passI m sq).2.1 iz)
 |0,sq,_,h,_=>⟨rfl,fun _ _ _=>rfl,fun iz hi=>by omega⟩
 |m+1,sq,hm,h,he=>by
  simp only[Flow.passI] at he ⊢
  have hok:=F.stepI_ok hF (iz:=m) (by omega) h
  obtain⟨a1,a2,a3⟩:=passI_still hF m (F.stepI m sq) (by omega) hok he
  have hb:=(F.passI_ok hF m (F.stepI m sq) (by omega) hok).2.2.2
  have hst:(F.stepI m sq).2.2=false:=by
   cases x:(F.stepI m sq).2.2 with
   |false=>rfl
   |true=>rw[hb x] at he;simp at he
  obtain⟨h1,h2,h3,h4⟩:=F.joinI_ok h.a (F.nx m) (aX sq.2.1 m) (hF.nx m (by omega)) (h.b.row m (by omega))
  have hs:F.T m (F.joinI sq.1 (F.nx m) (aX sq.2.1 m))=aX sq.1 m∧F.stepI m sq=(sq.1,sq.2.1.set m (F.joinI sq.1 (F.nx m) (aX sq.2.1 m)),sq.2.2):=by
   unfold Flow.stepI at hst ⊢
   split at hst
   ·rename_i e;exact⟨e,by rw[if_pos e]⟩
   ·simp at hst
  have hrow:∀j,aX (F.stepI m sq).2.1 j=if j=m then F.joinI sq.1 (F.nx m) (aX sq.2.1 m) else aX sq.2.1 j:=fun j=>by
   rw[hs.2]
   exact q7 (by rw[h.b.len];omega)
  have h11:(F.stepI m sq).1=sq.1:=by rw[hs.2]
  refine⟨a1.trans h11,fun iz hi hi2=> ?_,fun iz hi=> ?_⟩
  ·rw[a2 iz (by omega) hi2,hrow,if_neg (by omega)]
  ·rcases Nat.lt_succ_iff_lt_or_eq.1 hi with hi|rfl
   ·have:=a3 iz hi
    rw[h11] at this
    exact this
   ·rw[a2 iz (Nat.le_refl _) (by omega),hrow,if_pos rfl]
    exact⟨hs.1,h3⟩
theorem Flow.InvI.least(hF:F.Ok){ins outs:List BL}(h:F.InvI ins outs)(he:(F.passI F.n (ins,outs,false)).2.2=false) :
  F.Least (F.passI F.n (ins,outs,false)).2.1∧∀iz,iz<F.n→aX (F.passI F.n (ins,outs,false)).1 iz=F.T iz (aX (F.passI F.n (ins,outs,false)).2.1 iz):=by
 obtain⟨a1,a2,a3⟩:=F.passI_still hF F.n (ins,outs,false) (Nat.le_refl _) h he
 have hok:=(F.passI_ok hF F.n (ins,outs,false) (Nat.le_refl _) h).1
 refine⟨⟨hok.b,⟨hok.b.row,fun iz hi k hk=> ?_⟩,hok.bd⟩,fun iz hi=>by rw[a1,(a3 iz hi).1]⟩
 rw[(a3 k (hF.nx iz hi k hk)).1]
 exact(a3 iz hi).2 k hk
def Flow.addS(F:Flow)(iz k:Nat)(sq:List BL×Bool):List BL×Bool :=
 (sq.1.set iz (orB (aX sq.1 iz) (F.T k (aX sq.1 k))),sq.2 || !decide (orB (aX sq.1 iz) (F.T k (aX sq.1 k))=aX sq.1 iz))
def Flow.stepS(F:Flow)(iz:Nat)(sq:List BL×Bool):List BL×Bool:=(F.nx iz).foldl (fun sq k=>F.addS iz k sq) sq
def Flow.passS(F:Flow):Nat→List BL×Bool→List BL×Bool
 |0,sq=>sq
 |m+1,sq=>F.passS m (F.stepS m sq)
structure Flow.InvS (F:Flow) (outs:List BL):Prop where
 b:F.Rows outs
 bd:∀C,F.Closed C→∀iz,iz<F.n→leB (aX outs iz) (C iz)
structure Flow.AddS (F:Flow) (sq t:List BL×Bool) (P:Prop):Prop where
 inv:F.InvS t.1
 le:rR sq.1≤rR t.1
 lt:t.2=true→sq.2=true∨rR sq.1<rR t.1
 up:sq.2=true→t.2=true
 still:t.2=false→t.1=sq.1∧P
theorem Flow.AddS.trans{sq t u:List BL×Bool}{P Q:Prop}(h1:F.AddS sq t P)(h2:F.AddS t u Q):F.AddS sq u (P∧(t.1=sq.1→Q)):=by
 refine⟨h2.inv,Nat.le_trans h1.le h2.le,fun e=> ?_,fun e=>h2.up (h1.up e),fun e=> ?_⟩
 ·have:=h1.le
  have:=h2.le
  rcases h2.lt e with e|e
  ·rcases h1.lt e with e|e
   ·exact .inl e
   ·exact .inr (by omega)
  ·exact .inr (by omega)
 ·obtain⟨e1,e2⟩:=h2.still e
  have ht:t.2=false:=by
   cases x:t.2 with
   |false=>rfl
   |true=>rw[h2.up x] at e;simp at e
  obtain⟨e3,e4⟩:=h1.still ht
  exact⟨e1.trans e3,e4,fun _=>e2⟩
theorem Flow.addS_ok(hF:F.Ok){iz k:Nat}(hi:iz<F.n)(hk:k∈F.nx iz){sq:List BL×Bool}(h:F.InvS sq.1):F.AddS sq (F.addS iz k sq) (leB (F.T k (aX sq.1 k)) (aX sq.1 iz)):=by
 have hk':=hF.nx iz hi k hk
 have hl:(aX sq.1 iz).length=(F.T k (aX sq.1 k)).length:=by rw[h.b.row iz hi,hF.len k _ (h.b.row k hk')]
 have hlen:(orB (aX sq.1 iz) (F.T k (aX sq.1 k))).length=F.m:=by rw[B9 hl,h.b.row iz hi]
 have hc:=Md sq.1 iz (orB (aX sq.1 iz) (F.T k (aX sq.1 k))) (by rw[h.b.len];exact hi)
 have hcl:=zjQ (by rw[B9 hl]) (zJL hl)
 refine⟨⟨h.b.set hi hlen,fun C hC j hj=> ?_⟩,by simp only[Flow.addS];omega,fun e=> ?_,fun e=>by simp only[Flow.addS,e,Bool.true_or],fun e=> ?_⟩
 ·simp only[Flow.addS]
  rw[q7 (by rw[h.b.len];exact hi)]
  split
  ·rename_i e
   rw[e]
   exact zZ5 hl (h.bd C hC iz hi) ((hF.mono k _ _ (h.b.row k hk') (hC.len k hk') (h.bd C hC k hk')).trans (hC.cl iz hi k hk))
  ·exact h.bd C hC j hj
 ·simp only[Flow.addS,Bool.or_eq_true,Bool.not_eq_true',decide_eq_false_iff_not] at e ⊢
  rcases e with e|e
  ·exact .inl e
  ·have:=zzn (by rw[B9 hl]) (zJL hl) (fun h=>e h.symm)
   exact .inr (by omega)
 ·simp only[Flow.addS,Bool.or_eq_false_iff,Bool.not_eq_false',zqd] at e ⊢
  have he:=e.2
  refine⟨?_,?_⟩
  ·rw[he]
   refine List.ext_getElem? fun j=> ?_
   rw[List.getElem?_set]
   split
   ·rename_i e2
    subst e2
    have hlt:iz<sq.1.length:=by rw[h.b.len];exact hi
    rw[if_pos hlt]
    simp[aX,List.getElem?_eq_getElem hlt]
   ·rfl
  ·have:=z9j hl
   rwa [he] at this
theorem Flow.addsS_ok(hF:F.Ok){iz:Nat}(hi:iz<F.n):∀(ks:List Nat) (sq:List BL×Bool),(∀k∈ks,k∈F.nx iz)→F.InvS sq.1→F.AddS sq (ks.foldl (fun sq k=>F.addS iz k sq) sq) (∀k∈ks,leB (F.T k (aX sq.1 k)) (aX sq.1 iz))
 |[],sq,_,h=>⟨h,Nat.le_refl _,fun e=> .inl e,fun e=>e,fun _=>⟨rfl,fun k hk=>by simp at hk⟩⟩
 |k::ks,sq,hk,h=>by
  have h1:=F.addS_ok hF hi (hk k (by simp)) h
  have h2:=addsS_ok hF hi ks (F.addS iz k sq) (fun j hj=>hk j (by simp[hj])) h1.inv
  have h3:=h1.trans h2
  refine⟨h3.inv,h3.le,h3.lt,h3.up,fun e=> ?_⟩
  obtain⟨e1,e2,e3⟩:=h3.still e
  have ht:(F.addS iz k sq).2=false:=by
   cases x:(F.addS iz k sq).2 with
   |false=>rfl
   |true =>
    have:=h2.up x
    simp only[List.foldl_cons] at e
    rw[this] at e;simp at e
  have e4:=(h1.still ht).1
  refine⟨e1,fun j hj=> ?_⟩
  rcases List.mem_cons.1 hj with rfl|hj
  ·exact e2
  ·have:=e3 e4 j hj
   rwa [e4] at this
theorem Flow.passS_ok(hF:F.Ok):∀(m:Nat) (sq:List BL×Bool),m≤F.n→F.InvS sq.1→F.AddS sq (F.passS m sq) (∀iz,iz<m→∀k∈F.nx iz,leB (F.T k (aX sq.1 k)) (aX sq.1 iz))
 |0,sq,_,h=>⟨h,Nat.le_refl _,fun e=> .inl e,fun e=>e,fun _=>⟨rfl,fun iz hi=>by omega⟩⟩
 |m+1,sq,hm,h=>by
  have h1:=F.addsS_ok hF (iz:=m) (by omega) (F.nx m) sq (fun _ h=>h) h
  have h2:=passS_ok hF m (F.stepS m sq) (by omega) h1.inv
  have h3:=Flow.AddS.trans h1 h2
  refine⟨h3.inv,h3.le,h3.lt,h3.up,fun e=> ?_⟩
  obtain⟨e1,e2,e3⟩:=h3.still e
  have ht:(F.stepS m sq).2=false:=by
   cases x:(F.stepS m sq).2 with
   |false=>rfl
   |true =>
    have:=h2.up x
    simp only[Flow.passS] at e
    rw[this] at e;simp at e
  have e4:=(h1.still ht).1
  refine⟨e1,fun iz hi k hk=> ?_⟩
  rcases Nat.lt_succ_iff_lt_or_eq.1 hi with hi|rfl
  ·have:=e3 e4 iz hi k hk
   rw[show(F.stepS m sq).1=sq.1 from e4] at this
   exact this
  ·exact e2 k hk
theorem Flow.InvS.least(hF:F.Ok){outs:List BL}(h:F.InvS outs)(he:(F.passS F.n (outs,false)).2=false):F.Least (F.passS F.n (outs,false)).1:=by
 have h1:=F.passS_ok hF F.n (outs,false) (Nat.le_refl _) h
 obtain⟨e1,e2⟩:=h1.still he
 exact⟨h1.inv.b,⟨h1.inv.b.row,fun iz hi k hk=>by rw[e1];exact e2 iz hi k hk⟩,h1.inv.bd⟩
theorem F4(n:Nat)(a:BL){iz:Nat}(h:iz<n):aX (List.replicate n a) iz=a:=by simp[aX,h]
theorem zkc(m r:Nat):(List.replicate m false)[r]? ≠ some true:=by
 rw[List.getElem?_replicate]
 split<;>simp
theorem Flow.InvI.start:F.InvI (List.replicate F.n (List.replicate F.m false)) (List.replicate F.n (List.replicate F.m false)) :=
 ⟨⟨by simp,fun iz hi=>by rw[F4 _ _ hi];simp⟩,⟨by simp,fun iz hi=>by rw[F4 _ _ hi];simp⟩,fun iz hi=>by rw[F4 _ _ hi];exact fun r h=>absurd h (zkc _ _),
  fun C _ iz hi=>by rw[F4 _ _ hi];exact fun r h=>absurd h (zkc _ _)⟩
theorem Flow.InvS.start:F.InvS (List.replicate F.n (List.replicate F.m false)):=⟨Flow.InvI.start.b,Flow.InvI.start.bd⟩
set_option maxRecDepth 8000
abbrev bR(a:BL):List (List D):=a.map fun b=>[DB b]
abbrev bM(M:List BL):List (List D):=M.map fun a=>[D.s 1 (bR a)]
def K5:BL→Nat→BL→BL
 |[],_,o=>o
 |x::B,r,o=>K5 B (r+1) (o.set r ((o[r]?).getD false||x))
def chB:BL→Nat→BL→Bool→Bool
 |[],_,_,t=>t
 |x::B,r,o,t=>chB B (r+1) (o.set r ((o[r]?).getD false||x)) (t||(x&& !((o[r]?).getD false)))
theorem sS(o:BL)(j:Nat)(z:Bool):(bR o).set j [DB z]=bR (o.set j z):=by simp[bR,List.map_set]
theorem zjB(O0:List BL)(i:Nat)(z:BL):(bM O0).set i [D.s 1 (bR z)]=bM (O0.set i z):=by simp[bM,List.map_set]
theorem D1{O0:List BL}{i:Nat}{o:BL}(h:O0[i]? = some o):(bM O0)[i]? = some [D.s 1 (bR o)]:=by simp[bM,h]
theorem sZ{o:BL}{j:Nat}{y:Bool}(h:o[j]? = some y):(bR o)[j]? = some [DB y]:=by simp[bR,h]
theorem Ua(a:BL):fzs (bR a)=bR a:=by
 induction a with
 |nil=>rfl
 |cons x a ih=>simp only[bR,mc,fzs,fzl,D.fz] at ih ⊢;rw[ih]
theorem zqw:∀(B Q q:BL),q.length=B.length→K5 B Q.length (Q++q)=Q++orB q B
 |[],Q,q,h=>by
  have:q=[]:=List.length_eq_zero_iff.1 (by simpa using h)
  subst this
  simp[K5,orB]
 |x::B,Q,[],h=>by simp at h
 |x::B,Q,y::q,h=>by
  have ih:=zqw B (Q++[y||x]) q (by simpa using h)
  have e1:(Q++y::q)[Q.length]? = some y:=by rw[List.getElem?_append_right (Nat.le_refl _)];simp
  rw[K5,e1,Option.getD_some,List.set_append_right _ _ (Nat.le_refl _),Nat.sub_self,List.set_cons_zero]
  rw[show Q++(y||x)::q=Q++[y||x]++q by simp,show Q.length+1=(Q++[y||x]).length by simp,ih]
  simp[orB]
theorem zkd{a o:BL}(h:o.length=a.length):K5 a 0 o=orB o a:=by
 have:=zqw a [] o h
 simpa using this
theorem orS:∀(x y d t:Bool),(t||(x&& !y) || !d)=(t || !(decide ((y||x)=y)&&d)):=by decide
theorem zZa:∀(B Q q:BL) (t:Bool),q.length=B.length→chB B Q.length (Q++q) t=(t || !decide (orB q B=q))
 |[],Q,q,t,h=>by
  have:q=[]:=List.length_eq_zero_iff.1 (by simpa using h)
  subst this
  simp[chB,orB]
 |x::B,Q,[],t,h=>by simp at h
 |x::B,Q,y::q,t,h=>by
  have ih:=zZa B (Q++[y||x]) q (t||(x&& !y)) (by simpa using h)
  have e1:(Q++y::q)[Q.length]? = some y:=by rw[List.getElem?_append_right (Nat.le_refl _)];simp
  rw[chB,e1,Option.getD_some,List.set_append_right _ _ (Nat.le_refl _),Nat.sub_self,List.set_cons_zero]
  rw[show Q++(y||x)::q=Q++[y||x]++q by simp,show Q.length+1=(Q++[y||x]).length by simp,ih]
  have e5:(orB (y::q) (x::B)=y::q)↔((y||x)=y∧orB q B=q):=by simp[orB]
  rw[show(!decide (orB (y::q) (x::B)=y::q))=(!(decide ((y||x)=y)&&decide (orB q B=q))) by rw[←Bool.decide_and,decide_eq_decide.2 e5]]
  exact orS x y _ t
theorem z88{a o:BL}(h:o.length=a.length)(t:Bool):chB a 0 o t=(t || !decide (orB o a=o)):=by
 have:=zZa a [] o t h
 simpa using this
def bO(v:Bool)(a:BL)(l:List Int):BL:=l.foldl (fun a r=>a.set r.toNat v) a
theorem l9(v:Bool):∀(ls:List Int) (a:BL),(bO v a ls).length=a.length
 |[],_=>rfl
 |r::ls,a=>by rw[bO,List.foldl_cons,←bO,l9,List.length_set]
theorem D0(v:Bool):∀(ls:List Int) {a b:BL},a.length=b.length→leB a b→leB (bO v a ls) (bO v b ls)
 |[],_,_,_,h=>h
 |r::ls,a,b,hl,h=>by
  rw[bO,bO,List.foldl_cons,List.foldl_cons,←bO,←bO]
  refine D0 v ls (by simp[hl]) (fun k hk=> ?_)
  rw[List.getElem?_set] at hk ⊢
  split at hk
  ·rename_i e
   rw[if_pos e]
   split at hk
   ·rename_i h2
    rw[if_pos (by omega)];exact hk
   ·simp at hk
  ·rename_i e
   rw[if_neg e];exact h k hk
def trB(x:ZA)(a:BL):BL:=bO true (bO false a (aY x)) (dK x)
theorem wT(x:ZA)(a:BL):(trB x a).length=a.length:=by rw[trB,l9,l9]
def aV(u:ZB):Flow where
 n:=u.fCode.length
 m:=u.fRegs.toNat
 nx:=fun i=>match u.fCode[i]? with
  |some t=>(eT u.fCode i t).map Int.toNat
  |none=>[]
 T:=fun i a=>match u.fCode[i]? with
  |some t=>trB t a
  |none=>a
theorem Eg(u:ZB):∀(ls:List ZA) (j:Int),kL u j ls=true→∀(k:Nat) (t:ZA),ls[k]? = some t→y7 u (j+k) t=true
 |[],j,_,k,t,h=>by simp at h
 |x::ls,j,h,0,t,ht=>by
  simp only[List.getElem?_cons_zero,oi] at ht
  subst ht
  simp only[kL,bE] at h
  simpa using h.1
 |x::ls,j,h,k+1,t,ht=>by
  simp only[kL,bE] at h
  have:=Eg u ls (j+1) h.2 k t (by simpa using ht)
  rw[show j+((k+1:Nat):Int)=j+1+(k:Nat) by omega]
  exact this
structure Right (u:ZB):Prop where
 regs:0≤u.fRegs∧u.fRegs≤250
 pars:0≤u.fParams∧u.fParams≤4∧u.fParams≤u.fRegs
 len:1≤u.fCode.length∧u.fCode.length≤900
 rs:∀(k:Nat) (t:ZA),u.fCode[k]? = some t→∀r∈aY t++dK t,0≤r∧r<u.fRegs
 lab:∀(k:Nat) (t:ZA),u.fCode[k]? = some t→t.fOp=9∨t.fOp=10→0≤fU u.fCode t.fN∧fU u.fCode t.fN<u.fCode.length
 last:∀t,u.fCode[u.fCode.length-1]? = some t→t.fOp=12∨t.fOp=9∨t.fOp=28
theorem Eh{α:Type}(p:α→Bool):∀(xs:List α) (j:Int),0≤j→0≤aT p j xs→aT p j xs<j+xs.length
 |[],j,h,h2=>by simp[aT] at h2
 |x::xs,j,h,h2=>by
  rw[aT] at h2 ⊢
  split
  ·simp only[lc];omega
  ·rename_i hp
   rw[if_neg hp] at h2
   have:=Eh p xs (j+1) (by omega) h2
   simp only[lc];omega
theorem hP{u:ZB}(h:jR u=true):Right u:=by
 simp only[jR,bE,inB,zqd] at h
 obtain⟨⟨⟨⟨h1,h2⟩,h3⟩,h4⟩,h5⟩:=h
 have hp:∀(k:Nat) (t:ZA),u.fCode[k]? = some t→y7 u k t=true:=fun k t ht=>by
  have:=Eg u u.fCode 0 h4 k t ht
  simpa using this
 refine⟨h1,⟨h2.1,by have:=h2.2;split at this<;>omega,by have:=h2.2;split at this<;>omega⟩,by omega,fun k t ht r hr=> ?_,fun k t ht ho=> ?_,fun t ht=> ?_⟩
 ·have h6:=hp k t ht
  simp only[y7,bE] at h6
  have h7:=h6.1
  simp only[Um,bE] at h7
  have h8:Bj t u.fRegs=true:=by simp_all
  simp only[Bj,List.all_eq_true,inB,bE,zqd] at h8
  have:=h8 r hr
  omega
 ·have h8:0≤fU u.fCode t.fN:=by
   by_cases hneg:fU u.fCode t.fN<0
   ·exfalso
    have h6:=hp k t ht
    simp only[y7] at h6
    rcases ho with e|e<;>simp[e,hneg] at h6
   ·omega
  exact⟨h8,by have:=Eh (rT t.fN) u.fCode 0 (by omega) h8;unfold fU;omega⟩
 ·simp only[zqm] at h5
  have e:u.fCode.getLast? = some t:=by rw[List.getLast?_eq_getElem?];exact ht
  rw[e] at h5
  simp only[Bool.or_eq_true,zqd] at h5
  omega
theorem T0{u:ZB}(h:Right u){i:Nat}{t:ZA}(ht:u.fCode[i]? = some t):∀k∈eT u.fCode i t,0≤k∧k<u.fCode.length:=by
 have hi:i<u.fCode.length:=(List.getElem?_eq_some_iff.1 ht).1
 have hnext:¬t.fOp=12→¬t.fOp=28→¬t.fOp=9→(i:Int)+1<u.fCode.length:=fun a b c=>by
  by_cases e:i=u.fCode.length-1
  ·rw[e] at ht
   have:=h.last t ht
   omega
  ·omega
 intro k hk
 unfold eT at hk
 split at hk
 ·simp at hk
 split at hk
 ·simp at hk
 split at hk
 ·rename_i c1 c2 c3
  rw[List.mem_singleton] at hk
  rw[hk]
  exact h.lab i t ht (.inl c3)
 rename_i c1 c2 c3
 have hn:=hnext c1 c2 c3
 split at hk
 ·rename_i c4
  have hlab:=h.lab i t ht (.inr c4)
  split at hk
  ·simp only[List.mem_cons,List.not_mem_nil,or_false] at hk
   omega
  ·split at hk
   ·simp only[List.mem_cons,List.not_mem_nil,or_false] at hk
    omega
   ·rw[List.mem_singleton] at hk
    omega
 ·rw[List.mem_singleton] at hk
  omega
theorem y5{u:ZB}(h:Right u):(aV u).Ok:=by
 refine⟨fun i hi k hk=> ?_,fun i a ha=> ?_,fun i a b ha hb hab=> ?_⟩
 ·simp only[aV] at hi hk ⊢
  have ht:=List.getElem?_eq_getElem hi
  rw[ht] at hk
  simp only[List.mem_map] at hk
  obtain⟨z,hz,rfl⟩:=hk
  have:=T0 h ht z hz
  omega
 ·simp only[aV] at ha ⊢
  split
  ·rw[wT];exact ha
  ·exact ha
 ·simp only[aV] at ha hb ⊢
  split
  ·exact D0 true _ (by rw[l9,l9];omega) (D0 false _ (by omega) hab)
  ·exact hab
set_option maxRecDepth 8000
set_option maxHeartbeats 4000000
abbrev lvH(C:List ZA)(I0 O0:List BL):Heap:=upd emp (0,0) (some (.s 3 [[.r (C.map ZA.r),.s 1 (bM I0),.s 1 (bM O0)]]))
theorem zqU(C:List ZA)(I0 O0:List BL)(i k:Int)(ks:List Int)(jk:Int)(tn:Bool)(a:BL)(hk:I0[k.toNat]? = some a)(h0:0≤i)(hi:i<O0.length)(hl:a.length≤250):∀(Bl:BL) (j:Int) (o:BL),a.drop j.toNat=Bl→0≤j→o.length=a.length →
  loopW tab [0,3,4,29,30,31,41,42,43] d8 {env:=upd (upd (upd (upd (upd (upd (upd (upd (upd emp 43 (some (I j))) 42 (some (I (a.length:Int)))) 41 (some (.ref (0,0) [(0,1),(k.toNat,0)]))) 31 (some (I jk))) 30 (some (I (ks.length:Int)))) 29 (some (.d (.r (aP ks))))) 4 (some (I i))) 3 (some (B tn))) 0 (some (.ptr (0,0) [] 0 0)),heap:=lvH C I0 (O0.set i.toNat o),fr:=1,next:=0} =
  some (.ext 4,{env:=upd (upd (upd (upd (upd (upd emp 31 (some (I jk))) 30 (some (I (ks.length:Int)))) 29 (some (.d (.r (aP ks))))) 4 (some (I i))) 3 (some (B tn))) 0 (some (.ptr (0,0) [] 0 0)),heap:=lvH C I0 (O0.set i.toNat (K5 Bl j.toNat o)),fr:=1,next:=0})
 |[],j,o,hd,hj,ho=>by
  have hh:=dW hd hj
  unfold loopW
  conv=>lhs;arg 1;unfold d8
  simp -implicitDefEqProofs (disch:=first|assumption|omega) only[go_sem,simprocAttr,hh,K5]
 |x::Bl,j,o,hd,hj,ho=>by
  have hc:=b7 hd hj
  have hlt:j.toNat<o.length:=by have:=hc.2.1;omega
  have hy:=List.getElem?_eq_getElem hlt
  generalize o[j.toNat]=y at hy
  have ih:=zqU C I0 O0 i k ks jk tn a hk h0 hi hl Bl (j+1) (o.set j.toNat (y||x)) hc.2.2.1 (by omega) (by rw[List.length_set];exact ho)
  rw[K5,hy,Option.getD_some,←show(j+1).toNat=j.toNat+1 by omega,←ih]
  have f1:=D1 hk
  have f2:=D1 (O0:=O0.set i.toNat o) (i:=i.toNat) (o:=o) (by rw[List.getElem?_set];simp;omega)
  have f3:=sZ hy
  have f4:=sZ hc.1
  have f5:=sS o j.toNat
  have f6:∀z,(bM (O0.set i.toNat o)).set i.toNat [D.s 1 (bR z)]=bM (O0.set i.toNat z):=fun z=>by rw[zjB,List.set_set]
  have h4:=hc.2.1
  conv=>lhs;unfold loopW;arg 1;unfold d8
  cases y
  ·simp -implicitDefEqProofs (disch:=first|assumption|omega) only[go_sem,simprocAttr,f1,f2,f3,f4,f5,f6,h4,List.length_set]
  ·simp -implicitDefEqProofs (disch:=first|assumption|omega) only[go_sem,simprocAttr,f1,f2,f3,f4,f5,f6,h4,List.length_set]
def sM(I0:List BL)(o:BL)(ks:List Int):BL:=ks.foldl (fun o k=>orB o (aX I0 k.toNat)) o
theorem zqH(C:List ZA)(I0 O0:List BL)(i:Int)(ks:List Int)(tn:Bool)(h0:0≤i)(hi:i<O0.length)(hl0:O0.length≤900)(m:Nat)(hm:m≤250)(hl:ks.length≤2)(hI:∀k∈ks,0≤k∧k<I0.length∧I0[k.toNat]? = some (aX I0 k.toNat)∧(aX I0 k.toNat).length=m):∀(Bl:List Int) (jk:Int) (o:BL),ks.drop jk.toNat=Bl→0≤jk→o.length=m →
  loopW tab [0,3,4,29,30,31] eB {env:=upd (upd (upd (upd (upd (upd emp 31 (some (I jk))) 30 (some (I (ks.length:Int)))) 29 (some (.d (.r (aP ks))))) 4 (some (I i))) 3 (some (B tn))) 0 (some (.ptr (0,0) [] 0 0)),heap:=lvH C I0 (O0.set i.toNat o),fr:=1,next:=0} =
  some (.ext 2,{env:=upd (upd (upd emp 4 (some (I i))) 3 (some (B tn))) 0 (some (.ptr (0,0) [] 0 0)),heap:=lvH C I0 (O0.set i.toNat (sM I0 o Bl)),fr:=1,next:=0})
 |[],jk,o,hd,hj,ho=>by
  have hh:=dW hd hj
  unfold loopW
  conv=>lhs;arg 1;unfold eB
  simp -implicitDefEqProofs (disch:=first|assumption|omega) only[go_sem,simprocAttr,hh,sM,List.foldl_nil]
 |k::Bl,jk,o,hd,hj,ho=>by
  have hc:=b7 hd hj
  obtain⟨k0,k1,k2,k3⟩:=hI k hc.2.2.2.1
  have ih:=zqH C I0 O0 i ks tn h0 hi hl0 m hm hl hI Bl (jk+1) (orB o (aX I0 k.toNat)) hc.2.2.1 (by omega) (by rw[B9 (by omega)];exact ho)
  rw[sM,List.foldl_cons,←sM,←ih]
  have g:=zqU C I0 O0 i k ks jk tn (aX I0 k.toNat) k2 h0 hi (by omega) (aX I0 k.toNat) 0 o rfl (by omega) (by omega)
  rw[show(0:Int).toNat=0 from rfl,zkd (by omega)] at g
  generalize aX I0 k.toNat=a at *
  have f1:=D1 k2
  have h2:=kH (fun n=>[DI n]) hc.1
  have h4:=hc.2.1
  conv=>lhs;unfold loopW;arg 1;unfold eB
  simp -implicitDefEqProofs (disch:=first|assumption|omega) only[go_sem,simprocAttr,f1,h2,h4,k0,k1,g,List.length_set]
theorem zkg(C:List ZA)(I0 O0:List BL)(i:Int)(sl:List Int)(tn:Bool)(m:Nat)(hm:m≤250)(hl:sl.length≤2000000)(hI:∀k∈sl,0≤k∧k<m):∀(Bl:List Int) (j:Int) (o:BL),sl.drop j.toNat=Bl→0≤j→o.length=m →
  loopW tab [0,3,4,9,87,88,89] d7 {env:=upd (upd (upd (upd (upd (upd (upd emp 89 (some (I j))) 88 (some (I (sl.length:Int)))) 87 (some (.d (.r (aP sl))))) 9 (some (.ref (1,0) []))) 4 (some (I i))) 3 (some (B tn))) 0 (some (.ptr (0,0) [] 0 0)),heap:=upd (lvH C I0 O0) (1,0) (some (.s 1 (bR o))),fr:=1,next:=1} =
  some (.ext 6,{env:=upd (upd (upd (upd emp 9 (some (.ref (1,0) []))) 4 (some (I i))) 3 (some (B tn))) 0 (some (.ptr (0,0) [] 0 0)),heap:=upd (lvH C I0 O0) (1,0) (some (.s 1 (bR (bO false o Bl)))),fr:=1,next:=1})
 |[],j,o,hd,hj,ho=>by
  have hh:=dW hd hj
  unfold loopW
  conv=>lhs;arg 1;unfold d7
  simp -implicitDefEqProofs (disch:=first|assumption|omega) only[go_sem,simprocAttr,hh,bO,List.foldl_nil]
 |k::Bl,j,o,hd,hj,ho=>by
  have hc:=b7 hd hj
  obtain⟨k0,k1⟩:=hI k hc.2.2.2.1
  have ih:=zkg C I0 O0 i sl tn m hm hl hI Bl (j+1) (o.set k.toNat false) hc.2.2.1 (by omega) (by rw[List.length_set];exact ho)
  rw[bO,List.foldl_cons,←bO,←ih]
  have h2:=kH (fun n=>[DI n]) hc.1
  have h4:=hc.2.1
  have f5:=sS o k.toNat
  have hy:=List.getElem?_eq_getElem (l:=o) (i:=k.toNat) (by omega)
  have f3:=sZ hy
  have k5:k<o.length:=by omega
  conv=>lhs;unfold loopW;arg 1;unfold d7
  simp -implicitDefEqProofs (disch:=first|assumption|omega) only[go_sem,simprocAttr,h2,h4,k0,k5,f3,f5]
theorem zkn(C:List ZA)(I0 O0:List BL)(i:Int)(sl:List Int)(tn:Bool)(m:Nat)(hm:m≤250)(hl:sl.length≤2000000)(hI:∀k∈sl,0≤k∧k<m):∀(Bl:List Int) (j:Int) (o:BL),sl.drop j.toNat=Bl→0≤j→o.length=m →
  loopW tab [0,3,4,9,104,105,106] d9 {env:=upd (upd (upd (upd (upd (upd (upd emp 106 (some (I j))) 105 (some (I (sl.length:Int)))) 104 (some (.d (.r (aP sl))))) 9 (some (.ref (1,0) []))) 4 (some (I i))) 3 (some (B tn))) 0 (some (.ptr (0,0) [] 0 0)),heap:=upd (lvH C I0 O0) (1,0) (some (.s 1 (bR o))),fr:=1,next:=1} =
  some (.ext 8,{env:=upd (upd (upd (upd emp 9 (some (.ref (1,0) []))) 4 (some (I i))) 3 (some (B tn))) 0 (some (.ptr (0,0) [] 0 0)),heap:=upd (lvH C I0 O0) (1,0) (some (.s 1 (bR (bO true o Bl)))),fr:=1,next:=1})
 |[],j,o,hd,hj,ho=>by
  have hh:=dW hd hj
  unfold loopW
  conv=>lhs;arg 1;unfold d9
  simp -implicitDefEqProofs (disch:=first|assumption|omega) only[go_sem,simprocAttr,hh,bO,List.foldl_nil]
 |k::Bl,j,o,hd,hj,ho=>by
  have hc:=b7 hd hj
  obtain⟨k0,k1⟩:=hI k hc.2.2.2.1
  have ih:=zkn C I0 O0 i sl tn m hm hl hI Bl (j+1) (o.set k.toNat true) hc.2.2.1 (by omega) (by rw[List.length_set];exact ho)
  rw[bO,List.foldl_cons,←bO,←ih]
  have h2:=kH (fun n=>[DI n]) hc.1
  have h4:=hc.2.1
  have f5:=sS o k.toNat
  have hy:=List.getElem?_eq_getElem (l:=o) (i:=k.toNat) (by omega)
  have f3:=sZ hy
  have k5:k<o.length:=by omega
  conv=>lhs;unfold loopW;arg 1;unfold d9
  simp -implicitDefEqProofs (disch:=first|assumption|omega) only[go_sem,simprocAttr,h2,h4,k0,k5,f3,f5]
set_option maxRecDepth 8000
set_option maxHeartbeats 4000000
theorem zxn(a:BL):(bR a).map (fun el=>el.map D.toR)=bR a:=by
 simp only[bR,List.map_map]
 rfl
theorem zzy(a:BL):D.noR.noRss (bR a)=true:=lZ _ (fun n=>by simp[D.noR.noRs,D.noR]) a
theorem zvN(a:BL)(h:a.length≤250):call tab gN [.d (.r (bR a))]=some (.d (.s 1 (bR a))):=by
 have h0:=Ej tZ (bR a) (by simp[aD];omega) (by simp)
 rwa [zxn] at h0
theorem Rp(a b:BL)(hl:b.length=a.length)(h250:a.length≤250):∀(Bl Cl:BL) (j:Int),a.drop j.toNat=Bl→b.drop j.toNat=Cl→0≤j →
  loopW tab [0,1,12,13] dE {env:=upd (upd (upd (upd emp 13 (some (I j))) 12 (some (I (a.length:Int)))) 1 (some (.d (.r (bR b))))) 0 (some (.d (.r (bR a)))),heap:=emp,fr:=0,next:=0} =
  if Bl=Cl then some (.ext 0,{env:=emp,heap:=emp,fr:=0,next:=0}) else some (.ret,{env:=upd emp 4 (some (B false)),heap:=emp,fr:=0,next:=0})
 |[],Cl,j,hd,hd2,hj=>by
  have hh:=dW hd hj
  have e:Cl=[]:=by
   rw[←hd2,List.drop_eq_nil_iff];omega
  subst e
  rw[if_pos rfl]
  unfold loopW
  conv=>lhs;arg 1;unfold dE
  simp -implicitDefEqProofs (disch:=first|assumption|omega) only[go_sem,simprocAttr,hh]
 |x::Bl,[],j,hd,hd2,hj=>by
  have hc:=b7 hd hj
  have:=dW hd2 hj
  omega
 |x::Bl,y::Cl,j,hd,hd2,hj=>by
  have hc:=b7 hd hj
  have hc2:=b7 hd2 hj
  have ih:=Rp a b hl h250 Bl Cl (j+1) hc.2.2.1 hc2.2.2.1 (by omega)
  have h2:=sZ hc.1
  have h3:=sZ hc2.1
  have h4:=hc.2.1
  have h5:=hc2.2.1
  unfold loopW
  conv=>lhs;arg 1;unfold dE
  by_cases e:x=y
  ·subst e
   simp only[List.cons.injEq,true_and]
   rw[←ih]
   cases x<;>simp -implicitDefEqProofs (disch:=first|assumption|omega) only[go_sem,simprocAttr,h2,h3,h4,h5]
  ·rw[if_neg (by simp[e])]
   cases x<;>cases y<;>first|(exact absurd rfl e)|simp -implicitDefEqProofs (disch:=first|assumption|omega) only[go_sem,simprocAttr,h2,h3,h4,h5,show(false==true)=false from rfl,show(true==false)=false from rfl]
theorem zw1(a b:BL)(hl:b.length=a.length)(h250:a.length≤250):call tab iA [.d (.r (bR a)),.d (.r (bR b))]=some (B (decide (a=b))):=by
 rw[aQ sV _ rfl,lB]
 have h0:=Rp a b hl h250 a b 0 rfl rfl (by omega)
 by_cases e:a=b
 ·rw[if_pos e] at h0
  rw[decide_eq_true e]
  simp -implicitDefEqProofs (disch:=first|assumption|omega) only[go_sem,simprocAttr,h0,hl]
 ·rw[if_neg e] at h0
  rw[decide_eq_false e]
  simp -implicitDefEqProofs (disch:=first|assumption|omega) only[go_sem,simprocAttr,h0,hl]
theorem uU{O0:List BL}{k:Nat}(h:k<O0.length):O0[k]? = some (aX O0 k)∧O0.set k (aX O0 k)=O0:=by
 have e:=List.getElem?_eq_getElem h
 simp only[aX,e,Option.getD_some]
 exact⟨trivial,List.set_getElem_self h⟩
theorem zyX(F:Flow)(I0:List BL)(ks:List Int)(o:BL):sM I0 o ks=F.joinI I0 (ks.map Int.toNat) o:=by
 simp only[sM,Flow.joinI,List.foldl_map]
theorem Rd(I0:List BL)(m:Nat):∀(ks:List Int) (o:BL),o.length=m→(∀k∈ks,(aX I0 k.toNat).length=m)→(sM I0 o ks).length=m
 |[],o,h,_=>h
 |k::ks,o,h,hk=>by
  rw[sM,List.foldl_cons,←sM]
  exact Rd I0 m ks _ (by rw[B9 (by rw[h,hk k (by simp)])];exact h) (fun j hj=>hk j (by simp[hj]))
theorem Rc(code:List ZA)(i:Int)(t:ZA):(eT code i t).length≤2:=by
 unfold eT
 repeat' split
 all_goals simp
theorem zwC(u:ZB)(hr:Right u)(hs:u.sm)(p:Nat)(t:ZA)(ht:u.fCode[p]? = some t)(I0 O0:List BL)(hI:(aV u).Rows I0)(hO:(aV u).Rows O0)(tn:Bool) :
  loopW tab [0,3,4] cK {env:=upd (upd (upd emp 4 (some (I (p:Int)))) 3 (some (B tn))) 0 (some (.ptr (0,0) [] 0 0)),heap:=lvH u.fCode I0 O0,fr:=1,next:=0} =
  loopW tab [0,3,4] cK {env:=upd (upd (upd emp 4 (some (I ((p:Int)-1)))) 3 (some (B ((aV u).stepI p (I0,O0,tn)).2.2))) 0 (some (.ptr (0,0) [] 0 0)),heap:=lvH u.fCode ((aV u).stepI p (I0,O0,tn)).1 ((aV u).stepI p (I0,O0,tn)).2.1,fr:=1,next:=0}:=by
 have hp:p<u.fCode.length:=(List.getElem?_eq_some_iff.1 ht).1
 have hl:=hr.len
 have hreg:=hr.regs
 have hpO:p<O0.length:=by rw[hO.len];exact hp
 have hpI:p<I0.length:=by rw[hI.len];exact hp
 have hm:(aV u).m=u.fRegs.toNat:=rfl
 have hn:(aV u).n=u.fCode.length:=rfl
 obtain⟨e1,e2⟩:=uU hpO
 obtain⟨e3,e4⟩:=uU hpI
 have hol:=hO.row p hp
 have hil:=hI.row p hp
 have hks:∀k∈eT u.fCode p t,0≤k∧k<I0.length∧I0[k.toNat]? = some (aX I0 k.toNat)∧(aX I0 k.toNat).length=u.fRegs.toNat:=fun k hk=>by
  have:=T0 hr ht k hk
  have h2:k.toNat<I0.length:=by rw[hI.len,hn];omega
  exact⟨this.1,by omega,(uU h2).1,hI.row k.toNat (by rw[hn];omega)⟩
 have g0:=T2 u.fCode p t (by omega) (by simpa using ht) (by omega)
 have g1:=zqH u.fCode I0 O0 p (eT u.fCode p t) tn (by omega) (by omega) (by rw[hO.len,hn];omega) u.fRegs.toNat (by omega) (Rc _ _ _) hks (eT u.fCode p t) 0 (aX O0 p) rfl (by omega) (by rw[hol,hm])
 have hjl:=Rd I0 u.fRegs.toNat (eT u.fCode p t) (aX O0 p) (by rw[hol,hm]) (fun k hk=>(hks k hk).2.2.2)
 have hstep:(aV u).stepI p (I0,O0,tn)=if trB t (sM I0 (aX O0 p) (eT u.fCode p t))=aX I0 p then(I0,O0.set p (sM I0 (aX O0 p) (eT u.fCode p t)),tn) else(I0.set p (trB t (sM I0 (aX O0 p) (eT u.fCode p t))),O0.set p (sM I0 (aX O0 p) (eT u.fCode p t)),true):=by
  have hx:(aV u).nx p=(eT u.fCode p t).map Int.toNat:=by simp only[aV,ht]
  have hT:∀a,(aV u).T p a=trB t a:=fun a=>by simp only[aV,ht]
  simp only[Flow.stepI,hx,hT,←zyX]
 rw[hstep]
 rw[Int.toNat_natCast,e2] at g1
 generalize sM I0 (aX O0 p) (eT u.fCode p t)=o at *
 generalize eT u.fCode p t=ks at *
 have hsx:=(hs.2.2 t (List.mem_of_getElem? ht)).2
 have hrs:=hr.rs p t ht
 have g2:=zvN o (by omega)
 have g3:=wP t
 have g4:=E4 t hsx
 have g5:=zkg u.fCode I0 (O0.set p o) p (aY t) tn u.fRegs.toNat (by omega) (by have:=vT t;omega) (fun k hk=>by have:=hrs k (List.mem_append_left _ hk);omega) (aY t) 0 o rfl (by omega) hjl
 have g6:=zkn u.fCode I0 (O0.set p o) p (dK t) tn u.fRegs.toNat (by omega) (by have:=uJ t;omega) (fun k hk=>by have:=hrs k (List.mem_append_right _ hk);omega) (dK t) 0 (bO false o (aY t)) rfl (by omega) (by rw[l9];exact hjl)
 have g7:=zw1 (trB t o) (aX I0 p) (by rw[wT,hjl,hil,hm]) (by rw[wT];omega)
 rw[show bO true (bO false o (aY t)) (dK t)=trB t o from rfl] at g6
 have f1:=D1 e3
 have f2:=D1 (O0:=O0.set p o) (i:=p) (o:=o) (by rw[List.getElem?_set];simp;omega)
 have f3:=kH ZA.r ht
 simp only[ZA.r] at f3
 have f4:=zjB I0 p
 have w1:=vT t
 have w2:=uJ t
 conv=>lhs;unfold loopW;arg 1;unfold cK
 by_cases hq:trB t o=aX I0 p
 ·rw[decide_eq_true hq] at g7
  rw[if_pos hq]
  generalize trB t o=now at *
  simp -implicitDefEqProofs (disch:=first|assumption|omega|(simp only[aE,aF,aD,i64,sa,aB,lm,la,lc,ln];omega)) only[go_sem,simprocAttr,g0,g1,g2,g3,g4,g5,g6,g7,f1,f2,f3,f4,Ua,zzy,dQ,List.length_set]
 ·rw[decide_eq_false hq] at g7
  rw[if_neg hq]
  generalize trB t o=now at *
  simp -implicitDefEqProofs (disch:=first|assumption|omega|(simp only[aE,aF,aD,i64,sa,aB,lm,la,lc,ln];omega)) only[go_sem,simprocAttr,g0,g1,g2,g3,g4,g5,g6,g7,f1,f2,f3,f4,Ua,zzy,dQ,List.length_set]
theorem zqO(u:ZB)(hr:Right u)(hs:u.sm):∀(p:Nat) (I0 O0:List BL) (tn:Bool),p≤u.fCode.length→(aV u).InvI I0 O0 →
  loopW tab [0,3,4] cK {env:=upd (upd (upd emp 4 (some (I ((p:Int)-1)))) 3 (some (B tn))) 0 (some (.ptr (0,0) [] 0 0)),heap:=lvH u.fCode I0 O0,fr:=1,next:=0} =
  some (.ext 0,{env:=upd emp 3 (some (B ((aV u).passI p (I0,O0,tn)).2.2)),heap:=lvH u.fCode ((aV u).passI p (I0,O0,tn)).1 ((aV u).passI p (I0,O0,tn)).2.1,fr:=1,next:=0})
 |0,I0,O0,tn,hp,hi=>by
  unfold loopW
  conv=>lhs;arg 1;unfold cK
  simp -implicitDefEqProofs (disch:=first|assumption|omega) only[go_sem,simprocAttr,Flow.passI,show((0:Nat):Int)-1= -1 from rfl]
 |p+1,I0,O0,tn,hp,hi=>by
  have ht:=List.getElem?_eq_getElem (l:=u.fCode) (i:=p) (by omega)
  have h1:=zwC u hr hs p _ ht I0 O0 hi.a hi.b tn
  have h2:=zqO u hr hs p _ _ ((aV u).stepI p (I0,O0,tn)).2.2 (by omega) (Flow.stepI_ok (y5 hr) (iz:=p) (by show p<u.fCode.length;omega) (sq:=(I0,O0,tn)) hi)
  rw[show(((p+1:Nat):Int)-1)=(p:Int) by omega,h1,h2]
  rfl
theorem zWI(u:ZB)(hr:Right u)(hs:u.sm)(I0 O0:List BL)(hi:(aV u).InvI I0 O0) :
  evCW tab hX [.ptr (0,0) [] 0 0] (lvH u.fCode I0 O0) 1=some (B ((aV u).passI u.fCode.length (I0,O0,false)).2.2,lvH u.fCode ((aV u).passI u.fCode.length (I0,O0,false)).1 ((aV u).passI u.fCode.length (I0,O0,false)).2.1):=by
 rw[bU At _ _ _ rfl,oO]
 have h0:=zqO u hr hs u.fCode.length I0 O0 false (Nat.le_refl _) hi
 have hl:=hr.len
 generalize (aV u).passI u.fCode.length (I0,O0,false)=q at *
 simp -implicitDefEqProofs (disch:=first|assumption|omega) only[go_sem,simprocAttr,h0]
abbrev lvS(u:ZB)(I0 O0:List BL):St:={env:=upd emp 3 (some (.ptr (0,0) [] 0 0)),heap:=lvH u.fCode I0 O0,fr:=0,next:=1}
theorem Rt(u:ZB)(hr:Right u)(hs:u.sm):∀(n:Nat) (I0 O0:List BL),(aV u).InvI I0 O0→(aV u).n*(aV u).m≤rR I0+n →
  ∃I1 O1,(aV u).Least O1∧(∀k,k<(aV u).n→aX I1 k=(aV u).T k (aX O1 k))∧(aV u).Rows I1∧loopW tab [3] lU (lvS u I0 O0)=some (.ext 2,lvS u I1 O1)
 |n,I0,O0,hi,hc=>by
  have hF:=y5 hr
  have h0:=zWI u hr hs I0 O0 hi
  have hok:=Flow.passI_ok hF (aV u).n (I0,O0,false) (Nat.le_refl _) hi
  have hst:=fun h=>Flow.InvI.least hF hi h
  have hb:=hok.1.a.cnt
  change evCW tab hX [.ptr (0,0) [] 0 0] (lvH u.fCode I0 O0) 1=some (B ((aV u).passI (aV u).n (I0,O0,false)).2.2,lvH u.fCode ((aV u).passI (aV u).n (I0,O0,false)).1 ((aV u).passI (aV u).n (I0,O0,false)).2.1) at h0
  generalize (aV u).passI (aV u).n (I0,O0,false)=q at *
  obtain⟨qi,qo,qt⟩:=q
  cases qt
  ·obtain⟨a1,a2⟩:=hst rfl
   refine⟨qi,qo,a1,a2,hok.1.a,?_⟩
   unfold loopW
   conv=>lhs;arg 1;unfold lU
   simp -implicitDefEqProofs (disch:=first|assumption|omega) only[go_sem,simprocAttr,h0]
  ·have hlt:=(hok.2.2.1 rfl).resolve_left (by simp)
   simp only at hlt hb
   match n,hc with
   |0,hc=>omega
   |n+1,hc =>
    obtain⟨I1,O1,b1,b2,b3,b4⟩:=Rt u hr hs n qi qo hok.1 (by omega)
    refine⟨I1,O1,b1,b2,b3,?_⟩
    rw[←b4]
    conv=>lhs;unfold loopW;arg 1;unfold lU
    simp -implicitDefEqProofs (disch:=first|assumption|omega) only[go_sem,simprocAttr,h0]
set_option maxRecDepth 8000
set_option maxHeartbeats 4000000
abbrev zB(u:ZB):BL:=List.replicate u.fRegs.toNat false
theorem zXT(u:ZB):List.replicate u.fRegs.toNat [DB false]=bR (zB u):=by simp[bR]
theorem zqC(u:ZB){j:Int}(h:0≤j):bM (List.replicate j.toNat (zB u))++[[D.s 1 (bR (zB u))]]=bM (List.replicate (j+1).toNat (zB u)):=by
 rw[show(j+1).toNat=j.toNat+1 by omega,List.replicate_succ',bM,bM,List.map_append]
 rfl
theorem Rm(u:ZB)(hr:Right u):∀(Bl:List ZA) (j:Int),u.fCode.drop j.toNat=Bl→0≤j→j≤u.fCode.length →
  loopW tab [1,3,10,11] lJ {env:=upd (upd (upd (upd emp 11 (some (I j))) 10 (some (I (u.fCode.length:Int)))) 3 (some (.ptr (0,0) [] 0 0))) 1 (some (vpU u)),heap:=lvH u.fCode (List.replicate j.toNat (zB u)) (List.replicate j.toNat (zB u)),fr:=0,next:=1} =
  some (.ext 0,lvS u (List.replicate u.fCode.length (zB u)) (List.replicate u.fCode.length (zB u)))
 |[],j,hd,hj,hj2=>by
  have hh:=dW hd hj
  have hl:=hr.len
  have e:j=u.fCode.length:=by omega
  subst e
  unfold loopW
  conv=>lhs;arg 1;unfold lJ
  simp -implicitDefEqProofs (disch:=first|assumption|omega) only[go_sem,simprocAttr,hh]
 |t::Bl,j,hd,hj,hj2=>by
  have hc:=b7 hd hj
  have hl:=hr.len
  have hreg:=hr.regs
  have ih:=Rm u hr Bl (j+1) hc.2.2.1 (by omega) (by have:=hc.2.1;omega)
  rw[←ih]
  have h4:=hc.2.1
  have f1:=zXT u
  have f2:=zqC u hj
  conv=>lhs;unfold loopW;arg 1;unfold lJ
  simp -implicitDefEqProofs (disch:=first|assumption|omega|(simp only[aE,aF,aD,i64,sa,aB,lm,la,lc,ln];omega)) only[go_sem,simprocAttr,h4,f1,f2,List.length_replicate]
abbrev bMr(M:List BL):List (List D):=M.map fun a=>[D.r (bR a)]
theorem zK5(M:List BL):fzs (bM M)=bMr M:=pS _ _ (fun a=>by simp only[fzl,D.fz,Ua]) M
noncomputable def live (u:ZB):List BL:=open Classical in if h:∃M,(aV u).Least M then Classical.choose h else []
theorem zq0{u:ZB}{M:List BL}(h:(aV u).Least M):live u=M:=by
 unfold live
 rw[dif_pos ⟨M,h⟩]
 exact Flow.Least.unique (Classical.choose_spec (p:=fun M=>(aV u).Least M) ⟨M,h⟩) h
theorem Mw(u:ZB)(hr:Right u)(hs:u.sm):∃I1,(aV u).Rows I1∧(aV u).Least (live u)∧call tab A0 [u.x]=some (.rop [.r (u.fCode.map ZA.r),.r (bMr I1),.r (bMr (live u))]):=by
 have h0:=Rm u hr u.fCode 0 rfl (by omega) (by omega)
 obtain⟨I1,O1,b1,b2,b3,b4⟩:=Rt u hr hs ((aV u).n*(aV u).m) _ _ (Flow.InvI.start (F:=aV u)) (by omega)
 have e:=zq0 b1
 rw[e]
 refine⟨I1,b3,b1,?_⟩
 rw[aQ On _ rfl,C2]
 have hl:=hr.len
 simp only[show(0:Int).toNat=0 from rfl,List.replicate_zero,mn,lvH,bM] at h0
 simp only[aV,lvS,lvH] at b4
 simp -implicitDefEqProofs (disch:=first|assumption|omega|(simp only[aE,aF,aD,i64,sa,aB,lm,la,lc,ln];omega)) only[go_sem,simprocAttr,h0,b4,zK5,ZA.fzr]
abbrev nM(L:List (List Int)):List (List D):=L.map fun l=>[D.s 1 (aP l)]
set_option maxRecDepth 8000
set_option maxHeartbeats 4000000
theorem Y5(x:ZA)(sl:List Int)(m:Nat)(hm:m≤250)(hl:sl.length≤2000000)(hI:∀k∈sl,0≤k∧k<m):∀(Bl:List Int) (j:Int) (o:BL),sl.drop j.toNat=Bl→0≤j→o.length=m →
  loopW tab [2,5,6,7] mM {env:=upd (upd (upd (upd emp 7 (some (I j))) 6 (some (.d (.r (aP sl))))) 5 (some (.ref (0,0) []))) 2 (some (vpT x)),heap:=upd emp (0,0) (some (.s 1 (bR o))),fr:=0,next:=1} =
  some (.ext 0,{env:=upd (upd emp 5 (some (.ref (0,0) []))) 2 (some (vpT x)),heap:=upd emp (0,0) (some (.s 1 (bR (bO false o Bl)))),fr:=0,next:=1})
 |[],j,o,hd,hj,ho=>by
  have hh:=dW hd hj
  unfold loopW
  conv=>lhs;arg 1;unfold mM
  simp -implicitDefEqProofs (disch:=first|assumption|omega) only[go_sem,simprocAttr,hh,bO,List.foldl_nil]
 |k::Bl,j,o,hd,hj,ho=>by
  have hc:=b7 hd hj
  obtain⟨k0,k1⟩:=hI k hc.2.2.2.1
  have ih:=Y5 x sl m hm hl hI Bl (j+1) (o.set k.toNat false) hc.2.2.1 (by omega) (by rw[List.length_set];exact ho)
  rw[bO,List.foldl_cons,←bO,←ih]
  have h2:=kH (fun n=>[DI n]) hc.1
  have h4:=hc.2.1
  have f5:=sS o k.toNat
  have hy:=List.getElem?_eq_getElem (l:=o) (i:=k.toNat) (by omega)
  have f3:=sZ hy
  have k5:k<o.length:=by omega
  conv=>lhs;unfold loopW;arg 1;unfold mM
  simp -implicitDefEqProofs (disch:=first|assumption|omega) only[go_sem,simprocAttr,h2,h4,k0,k5,f3,f5]
theorem Ux(sl:List Int)(m:Nat)(hm:m≤250)(hl:sl.length≤2000000)(hI:∀k∈sl,0≤k∧k<m):∀(Bl:List Int) (j:Int) (o:BL),sl.drop j.toNat=Bl→0≤j→o.length=m →
  loopW tab [5,8,9] mR {env:=upd (upd (upd emp 9 (some (I j))) 8 (some (.d (.r (aP sl))))) 5 (some (.ref (0,0) [])),heap:=upd emp (0,0) (some (.s 1 (bR o))),fr:=0,next:=1} =
  some (.ext 2,{env:=upd emp 5 (some (.ref (0,0) [])),heap:=upd emp (0,0) (some (.s 1 (bR (bO true o Bl)))),fr:=0,next:=1})
 |[],j,o,hd,hj,ho=>by
  have hh:=dW hd hj
  unfold loopW
  conv=>lhs;arg 1;unfold mR
  simp -implicitDefEqProofs (disch:=first|assumption|omega) only[go_sem,simprocAttr,hh,bO,List.foldl_nil]
 |k::Bl,j,o,hd,hj,ho=>by
  have hc:=b7 hd hj
  obtain⟨k0,k1⟩:=hI k hc.2.2.2.1
  have ih:=Ux sl m hm hl hI Bl (j+1) (o.set k.toNat true) hc.2.2.1 (by omega) (by rw[List.length_set];exact ho)
  rw[bO,List.foldl_cons,←bO,←ih]
  have h2:=kH (fun n=>[DI n]) hc.1
  have h4:=hc.2.1
  have f5:=sS o k.toNat
  have hy:=List.getElem?_eq_getElem (l:=o) (i:=k.toNat) (by omega)
  have f3:=sZ hy
  have k5:k<o.length:=by omega
  conv=>lhs;unfold loopW;arg 1;unfold mR
  simp -implicitDefEqProofs (disch:=first|assumption|omega) only[go_sem,simprocAttr,h2,h4,k0,k5,f3,f5]
theorem zJ2(x:ZA)(a:BL)(m:Nat)(hm:m≤250)(ha:a.length=m)(hsx:x.fArgs.length≤1048576)(hI:∀k∈aY x++dK x,0≤k∧k<m):call tab Dw [x.x,.d (.r (bR a))]=some (.d (.s 1 (bR (trB x a)))):=by
 rw[aQ Ts _ rfl,Ep]
 have w1:=vT x
 have w2:=uJ x
 have g3:=wG x
 have g4:=Fi x hsx
 have g5:=Y5 x (aY x) m hm (by omega) (fun k hk=>hI k (List.mem_append_left _ hk)) (aY x) 0 a rfl (by omega) ha
 have g6:=Ux (dK x) m hm (by omega) (fun k hk=>hI k (List.mem_append_right _ hk)) (dK x) 0 (bO false a (aY x)) rfl (by omega) (by rw[l9];exact ha)
 rw[show bO true (bO false a (aY x)) (dK x)=trB x a from rfl] at g6
 have e:=zxn a
 have e2:((bR a).all fun el=>el.length==1)=true:=by simp
 simp -implicitDefEqProofs (disch:=first|assumption|omega|(simp only[aE,aF,aD,i64,sa,aB,lm,la,lc,ln];omega)) only[go_sem,simprocAttr,g3,g4,g5,g6,e,e2,dQ,zqf]
abbrev soH(N:List (List Int))(O0:List BL):Heap:=upd (upd emp (0,1) (some (.s 1 (nM N)))) (0,0) (some (.s 1 (bM O0)))
theorem zZG(u:ZB)(hr:Right u)(N:List (List Int))(O0:List BL)(i k:Int)(inn:BL)(h0:0≤i)(hi:i<O0.length)(hin:inn.length=u.fRegs.toNat):∀(Bl:BL) (j:Int) (o:BL) (tn:Bool),inn.drop j.toNat=Bl→0≤j→o.length=inn.length →
  loopW tab [1,3,4,5,7,8,9,11,12] lR {env:=upd (upd (upd (upd (upd (upd (upd (upd (upd emp 12 (some (I j))) 11 (some (.d (.r (bR inn))))) 9 (some (I k))) 8 (some (I i))) 7 (some (B tn))) 5 (some (.ref (0,1) []))) 4 (some (.ref (0,0) []))) 3 (some (I (u.fCode.length:Int)))) 1 (some (vpU u)),heap:=soH N (O0.set i.toNat o),fr:=0,next:=2} =
  some (.ext 8,{env:=upd (upd (upd (upd (upd (upd (upd emp 9 (some (I k))) 8 (some (I i))) 7 (some (B (chB Bl j.toNat o tn)))) 5 (some (.ref (0,1) []))) 4 (some (.ref (0,0) []))) 3 (some (I (u.fCode.length:Int)))) 1 (some (vpU u)),heap:=soH N (O0.set i.toNat (K5 Bl j.toNat o)),fr:=0,next:=2})
 |[],j,o,tn,hd,hj,ho=>by
  have hh:=dW hd hj
  have hreg:=hr.regs
  have hh2:u.fRegs≤j:=by omega
  unfold loopW
  conv=>lhs;arg 1;unfold lR
  simp -implicitDefEqProofs (disch:=first|assumption|omega) only[go_sem,simprocAttr,hh2,K5,chB]
 |x::Bl,j,o,tn,hd,hj,ho=>by
  have hc:=b7 hd hj
  have hreg:=hr.regs
  have hlt:j.toNat<o.length:=by have:=hc.2.1;omega
  have hy:=List.getElem?_eq_getElem hlt
  have hself:=List.set_getElem_self (as:=o) hlt
  generalize o[j.toNat]=y at hy hself
  have ih:=zZG u hr N O0 i k inn h0 hi hin Bl (j+1) (o.set j.toNat (y||x)) (tn||(x&& !y)) hc.2.2.1 (by omega) (by rw[List.length_set];exact ho)
  rw[K5,chB,hy,Option.getD_some,←show(j+1).toNat=j.toNat+1 by omega,←ih]
  have f2:=D1 (O0:=O0.set i.toNat o) (i:=i.toNat) (o:=o) (by rw[List.getElem?_set];simp;omega)
  have f3:=sZ hy
  have f4:=sZ hc.1
  have f5:=sS o j.toNat
  have f6:∀z,(bM (O0.set i.toNat o)).set i.toNat [D.s 1 (bR z)]=bM (O0.set i.toNat z):=fun z=>by rw[zjB,List.set_set]
  have h4:=hc.2.1
  have h6:j<u.fRegs:=by omega
  conv=>lhs;unfold loopW;arg 1;unfold lR
  cases x
  ·cases y
   ·simp only[Bool.or_self,hself,bfa,Bool.or_false]
    simp -implicitDefEqProofs (disch:=first|assumption|omega) only[go_sem,simprocAttr,f2,f3,f4,h4,h6,List.length_set]
   ·simp only[Bool.or_false,hself,bfa]
    simp -implicitDefEqProofs (disch:=first|assumption|omega) only[go_sem,simprocAttr,f2,f3,f4,h4,h6,List.length_set]
  ·cases y
   ·simp only[Bool.false_or,Bool.not_false,Bool.and_self,Bool.or_true]
    simp -implicitDefEqProofs (disch:=first|assumption|omega) only[go_sem,simprocAttr,f2,f3,f4,f5,f6,h4,h6,List.length_set]
   ·simp only[Bool.or_self,hself,Bool.not_true,uH,Bool.or_false]
    simp -implicitDefEqProofs (disch:=first|assumption|omega) only[go_sem,simprocAttr,f2,f3,f4,h4,h6,List.length_set]
def nxG(code:List ZA):List ZA→Int→List (List Int)
 |[],_=>[]
 |t::Bl,j=>eT code j t::nxG code Bl (j+1)
theorem To(code:List ZA):∀(Bl:List ZA) (j:Int) (p:Nat) (t:ZA),Bl[p]? = some t→(nxG code Bl j)[p]? = some (eT code (j+p) t)
 |[],j,p,t,h=>by simp at h
 |x::Bl,j,0,t,h=>by
  simp only[List.getElem?_cons_zero,oi] at h
  subst h
  simp[nxG]
 |x::Bl,j,p+1,t,h=>by
  have:=To code Bl (j+1) p t (by simpa using h)
  rw[show j+((p+1:Nat):Int)=j+1+p by omega,nxG,List.getElem?_cons_succ]
  exact this
theorem Rz(code:List ZA):∀(Bl:List ZA) (j:Int),(nxG code Bl j).length=Bl.length
 |[],_=>rfl
 |x::Bl,j=>by rw[nxG,lc,Rz code Bl,lc]
abbrev nx0(u:ZB):List (List Int):=nxG u.fCode u.fCode 0
theorem zxF(F:Flow)(p k:Nat)(O0:List BL)(tn:Bool)(a:BL)(e:F.T k (aX O0 k)=a):F.addS p k (O0,tn)=(O0.set p (orB (aX O0 p) a),tn || !decide (orB (aX O0 p) a=aX O0 p)):=by
 simp only[Flow.addS,e]
theorem zJi(u:ZB)(hr:Right u)(hs:u.sm)(i:Int)(t:ZA)(h0:0≤i)(ht:u.fCode[i.toNat]? = some t):∀(Bl:List Int) (k:Int) (O0:List BL) (tn:Bool),(eT u.fCode i t).drop k.toNat=Bl→0≤k→(aV u).InvS O0 →
  loopW tab [1,3,4,5,7,8,9] lM {env:=upd (upd (upd (upd (upd (upd (upd emp 9 (some (I k))) 8 (some (I i))) 7 (some (B tn))) 5 (some (.ref (0,1) []))) 4 (some (.ref (0,0) []))) 3 (some (I (u.fCode.length:Int)))) 1 (some (vpU u)),heap:=soH (nx0 u) O0,fr:=0,next:=2} =
  some (.ext 6,{env:=upd (upd (upd (upd (upd (upd emp 8 (some (I i))) 7 (some (B ((Bl.map Int.toNat).foldl (fun sq k=>(aV u).addS i.toNat k sq) (O0,tn)).2))) 5 (some (.ref (0,1) []))) 4 (some (.ref (0,0) []))) 3 (some (I (u.fCode.length:Int)))) 1 (some (vpU u)),heap:=soH (nx0 u) ((Bl.map Int.toNat).foldl (fun sq k=>(aV u).addS i.toNat k sq) (O0,tn)).1,fr:=0,next:=2})
 |[],k,O0,tn,hd,hj,hi=>by
  have hh:=dW hd hj
  have n1:(nx0 u)[i.toNat]? = some (eT u.fCode i t):=by
   have:=To u.fCode u.fCode 0 i.toNat t ht
   rw[show(0:Int)+(i.toNat:Int)=i by omega] at this
   exact this
  have n2:=kH (fun ks:List Int=>[D.s 1 (aP ks)]) n1
  have n3:i<(nx0 u).length:=by rw[Rz];have:=(List.getElem?_eq_some_iff.1 ht).1;omega
  unfold loopW
  conv=>lhs;arg 1;unfold lM
  simp -implicitDefEqProofs (disch:=first|assumption|omega) only[go_sem,simprocAttr,hh,n2,n3,h0,mn,List.foldl_nil]
 |j::Bl,k,O0,tn,hd,hj,hi=>by
  have hc:=b7 hd hj
  have hF:=y5 hr
  have hl:=hr.len
  have hreg:=hr.regs
  have hil:=(List.getElem?_eq_some_iff.1 ht).1
  have n1:(nx0 u)[i.toNat]? = some (eT u.fCode i t):=by
   have:=To u.fCode u.fCode 0 i.toNat t ht
   rw[show(0:Int)+(i.toNat:Int)=i by omega] at this
   exact this
  have n2:=kH (fun ks:List Int=>[D.s 1 (aP ks)]) n1
  have n3:i<(nx0 u).length:=by rw[Rz];omega
  have hjr:=T0 hr (i:=i.toNat) ht j (by rw[show((i.toNat:Nat):Int)=i by omega];exact hc.2.2.2.1)
  have htj:=List.getElem?_eq_getElem (l:=u.fCode) (i:=j.toNat) (by omega)
  generalize u.fCode[j.toNat]'(by omega)=tj at htj
  have hT:∀a,(aV u).T j.toNat a=trB tj a:=fun a=>by simp only[aV,htj]
  have hinv:=(Flow.addS_ok hF (iz:=i.toNat) (k:=j.toNat) (by show i.toNat<u.fCode.length;exact hil) (by
   simp only[aV,ht]
   rw[show((i.toNat:Nat):Int)=i by omega]
   exact List.mem_map.2 ⟨j,hc.2.2.2.1,rfl⟩) (sq:=(O0,tn)) hi).inv
  have hadd:=zxF (aV u) i.toNat j.toNat O0 tn _ (hT _)
  rw[hadd] at hinv
  have ih:=zJi u hr hs i t h0 ht Bl (k+1) _ (tn || !decide (orB (aX O0 i.toNat) (trB tj (aX O0 j.toNat))=aX O0 i.toNat)) hc.2.2.1 (by omega) hinv
  rw[mc,List.foldl_cons,hadd,←ih]
  have hOl:O0.length=u.fCode.length:=hi.b.len
  obtain⟨e1,e2⟩:=uU (O0:=O0) (k:=i.toNat) (by omega)
  obtain⟨e3,_⟩:=uU (O0:=O0) (k:=j.toNat) (by omega)
  have hol:(aX O0 i.toNat).length=u.fRegs.toNat:=hi.b.row i.toNat hil
  have hjl:(aX O0 j.toNat).length=u.fRegs.toNat:=hi.b.row j.toNat (by show j.toNat<u.fCode.length;omega)
  have hsx:=(hs.2.2 tj (List.mem_of_getElem? htj)).2
  have g1:=zJ2 tj (aX O0 j.toNat) u.fRegs.toNat (by omega) hjl hsx (fun r hrr=>by have:=hr.rs j.toNat tj htj r hrr;omega)
  have g2:=zZG u hr (nx0 u) O0 i k (trB tj (aX O0 j.toNat)) h0 (by omega) (by rw[wT];exact hjl) (trB tj (aX O0 j.toNat)) 0 (aX O0 i.toNat) tn rfl (by omega) (by rw[wT];omega)
  rw[show(0:Int).toNat=0 from rfl,zkd (by rw[wT];omega),z88 (by rw[wT];omega),e2] at g2
  generalize trB tj (aX O0 j.toNat)=inn at *
  generalize aX O0 j.toNat=oj at *
  have f1:=D1 e3
  have f3:=kH ZA.r htj
  simp only[ZA.r] at f3
  have h2:=kH (fun n=>[DI n]) hc.1
  have h4:=hc.2.1
  have hk2:=Rc u.fCode i t
  have j1:=hjr.1
  have j2:=hjr.2
  have j3:j<O0.length:=by omega
  conv=>lhs;unfold loopW;arg 1;unfold lM
  simp -implicitDefEqProofs (disch:=first|assumption|omega) only[go_sem,simprocAttr,n2,n3,h0,h2,h4,f1,f3,g1,g2,j1,j2,j3,Ua,zzy]
theorem zxm(u:ZB)(hr:Right u)(hs:u.sm):∀(p:Nat) (O0:List BL) (tn:Bool),p≤u.fCode.length→(aV u).InvS O0 →
  loopW tab [1,3,4,5,7,8] lK {env:=upd (upd (upd (upd (upd (upd emp 8 (some (I ((p:Int)-1)))) 7 (some (B tn))) 5 (some (.ref (0,1) []))) 4 (some (.ref (0,0) []))) 3 (some (I (u.fCode.length:Int)))) 1 (some (vpU u)),heap:=soH (nx0 u) O0,fr:=0,next:=2} =
  some (.ext 4,{env:=upd (upd (upd (upd (upd emp 7 (some (B ((aV u).passS p (O0,tn)).2))) 5 (some (.ref (0,1) []))) 4 (some (.ref (0,0) []))) 3 (some (I (u.fCode.length:Int)))) 1 (some (vpU u)),heap:=soH (nx0 u) ((aV u).passS p (O0,tn)).1,fr:=0,next:=2})
 |0,O0,tn,hp,hi=>by
  unfold loopW
  conv=>lhs;arg 1;unfold lK
  simp -implicitDefEqProofs (disch:=first|assumption|omega) only[go_sem,simprocAttr,Flow.passS,show((0:Nat):Int)-1= -1 from rfl]
 |p+1,O0,tn,hp,hi=>by
  have hl:=hr.len
  have hil:p<u.fCode.length:=by omega
  have ht:=List.getElem?_eq_getElem hil
  generalize u.fCode[p]=t at ht
  have hx:(aV u).nx p=(eT u.fCode p t).map Int.toNat:=by simp only[aV,ht]
  have hinv:=(Flow.addsS_ok (y5 hr) (iz:=p) hil ((aV u).nx p) (O0,tn) (fun _ h=>h) hi).inv
  have ih:=zxm u hr hs p ((aV u).stepS p (O0,tn)).1 ((aV u).stepS p (O0,tn)).2 (by omega) hinv
  have g:=zJi u hr hs p t (by omega) ht (eT u.fCode p t) 0 O0 tn rfl (by omega) hi
  rw[Int.toNat_natCast,←hx] at g
  change loopW tab _ _ _=some (Ex.ext 6,{env:=upd (upd (upd (upd (upd (upd emp 8 (some (I (p:Int)))) 7 (some (B ((aV u).stepS p (O0,tn)).2))) 5 (some (.ref (0,1) []))) 4 (some (.ref (0,0) []))) 3 (some (I (u.fCode.length:Int)))) 1 (some (vpU u)),heap:=soH (nx0 u) ((aV u).stepS p (O0,tn)).1,fr:=0,next:=2}) at g
  rw[show(((p+1:Nat):Int)-1)=(p:Int) by omega,show(aV u).passS (p+1) (O0,tn)=(aV u).passS p ((aV u).stepS p (O0,tn)) from rfl]
  generalize (aV u).stepS p (O0,tn)=q at *
  obtain⟨qo,qt⟩:=q
  rw[←ih]
  conv=>lhs;unfold loopW;arg 1;unfold lK
  simp -implicitDefEqProofs (disch:=first|assumption|omega) only[go_sem,simprocAttr,g]
theorem zKr(u:ZB)(hr:Right u)(hs:u.sm):∀(n:Nat) (O0:List BL),(aV u).InvS O0→(aV u).n*(aV u).m≤rR O0+n →
  ∃O1,(aV u).Least O1∧loopW tab [1,3,4,5,7] eW {env:=upd (upd (upd (upd (upd emp 7 (some (B true))) 5 (some (.ref (0,1) []))) 4 (some (.ref (0,0) []))) 3 (some (I (u.fCode.length:Int)))) 1 (some (vpU u)),heap:=soH (nx0 u) O0,fr:=0,next:=2}=some (.ext 2,{env:=upd emp 4 (some (.ref (0,0) [])),heap:=upd emp (0,0) (some (.s 1 (bM O1))),fr:=0,next:=1})
 |n,O0,hi,hc=>by
  have hF:=y5 hr
  have hl:=hr.len
  have h0:=zxm u hr hs u.fCode.length O0 false (Nat.le_refl _) hi
  have hok:=Flow.passS_ok hF (aV u).n (O0,false) (Nat.le_refl _) hi
  have hst:=fun h=>Flow.InvS.least hF hi h
  have hb:=hok.inv.b.cnt
  have hlt:=hok.lt
  have hinv:=hok.inv
  have hstill:=hok.still
  change loopW tab _ _ _=some (Ex.ext 4,{env:=upd (upd (upd (upd (upd emp 7 (some (B ((aV u).passS (aV u).n (O0,false)).2))) 5 (some (.ref (0,1) []))) 4 (some (.ref (0,0) []))) 3 (some (I (u.fCode.length:Int)))) 1 (some (vpU u)),heap:=soH (nx0 u) ((aV u).passS (aV u).n (O0,false)).1,fr:=0,next:=2}) at h0
  generalize (aV u).passS (aV u).n (O0,false)=q at *
  obtain⟨qo,qt⟩:=q
  cases qt
  ·have a1:=hst rfl
   refine⟨qo,a1,?_⟩
   unfold loopW
   conv=>lhs;arg 1;unfold eW
   have e:loopW tab [1,3,4,5,7] eW {env:=upd (upd (upd (upd (upd emp 7 (some (B false))) 5 (some (.ref (0,1) []))) 4 (some (.ref (0,0) []))) 3 (some (I (u.fCode.length:Int)))) 1 (some (vpU u)),heap:=soH (nx0 u) qo,fr:=0,next:=2}=some (.ext 2,{env:=upd emp 4 (some (.ref (0,0) [])),heap:=upd emp (0,0) (some (.s 1 (bM qo))),fr:=0,next:=1}):=by
    unfold loopW
    conv=>lhs;arg 1;unfold eW
    simp -implicitDefEqProofs (disch:=first|assumption|omega) only[go_sem,simprocAttr]
   simp -implicitDefEqProofs (disch:=first|assumption|omega) only[go_sem,simprocAttr,h0,e]
  ·have hlt:=(hlt rfl).resolve_left (by simp)
   simp only at hlt hb hinv
   match n,hc with
   |0,hc=>omega
   |n+1,hc =>
    obtain⟨O1,b1,b4⟩:=zKr u hr hs n qo hinv (by omega)
    refine⟨O1,b1,?_⟩
    rw[←b4]
    conv=>lhs;unfold loopW;arg 1;unfold eW
    simp -implicitDefEqProofs (disch:=first|assumption|omega) only[go_sem,simprocAttr,h0]
theorem zZd(u:ZB)(hr:Right u):∀(Bl:List ZA) (j:Int) (N:List (List Int)),u.fCode.drop j.toNat=Bl→0≤j→j≤u.fCode.length→N.length=j.toNat →
  loopW tab [1,3,4,5,6] lT {env:=upd (upd (upd (upd (upd emp 6 (some (I j))) 5 (some (.ref (0,1) []))) 4 (some (.ref (0,0) []))) 3 (some (I (u.fCode.length:Int)))) 1 (some (vpU u)),heap:=soH N (List.replicate j.toNat (zB u)),fr:=0,next:=2} =
  some (.ext 0,{env:=upd (upd (upd (upd emp 5 (some (.ref (0,1) []))) 4 (some (.ref (0,0) []))) 3 (some (I (u.fCode.length:Int)))) 1 (some (vpU u)),heap:=soH (N++nxG u.fCode Bl j) (List.replicate u.fCode.length (zB u)),fr:=0,next:=2})
 |[],j,N,hd,hj,hj2,hN=>by
  have hh:=dW hd hj
  have hl:=hr.len
  have e:j=u.fCode.length:=by omega
  subst e
  unfold loopW
  conv=>lhs;arg 1;unfold lT
  simp -implicitDefEqProofs (disch:=first|assumption|omega) only[go_sem,simprocAttr,hh,nxG,zqe]
 |t::Bl,j,N,hd,hj,hj2,hN=>by
  have hc:=b7 hd hj
  have hl:=hr.len
  have hreg:=hr.regs
  have h4:=hc.2.1
  have ih:=zZd u hr Bl (j+1) (N++[eT u.fCode j t]) hc.2.2.1 (by omega) (by omega) (by simp;omega)
  rw[nxG,show N++eT u.fCode j t::nxG u.fCode Bl (j+1)=N++[eT u.fCode j t]++nxG u.fCode Bl (j+1) by simp,←ih]
  have f1:=zXT u
  have f2:=zqC u hj
  have g:=Jl u j t hj hc.1 (by omega)
  simp only[soH,nM,List.map_append,mc,mn]
  conv=>lhs;unfold loopW;arg 1;unfold lT
  simp -implicitDefEqProofs (disch:=first|assumption|omega|(simp only[aE,aF,aD,i64,sa,aB,lm,la,lc,ln];omega)) only[go_sem,simprocAttr,h4,f1,f2,g,List.length_replicate]
theorem N7(u:ZB)(hr:Right u)(hs:u.sm):(aV u).Least (live u)∧call tab zK [u.x]=some (.d (.s 1 (bM (live u)))):=by
 have h0:=zZd u hr u.fCode 0 [] rfl (by omega) (by omega) rfl
 obtain⟨O1,b1,b4⟩:=zKr u hr hs ((aV u).n*(aV u).m) _ (Flow.InvS.start (F:=aV u)) (by omega)
 have e:=zq0 b1
 rw[e]
 refine⟨b1,?_⟩
 rw[aQ Qm _ rfl,Dj]
 have hl:=hr.len
 rw[zqf] at h0
 simp only[show(0:Int).toNat=0 from rfl,List.replicate_zero,mn,soH,bM,nM] at h0
 simp only[aV,soH] at b4
 simp -implicitDefEqProofs (disch:=first|assumption|omega|(simp only[aE,aF,aD,i64,sa,aB,lm,la,lc,ln];omega)) only[go_sem,simprocAttr,h0,b4]
end Go.Ev.G
