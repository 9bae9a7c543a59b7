import Derived.Test.YtenclibcnjkamaaGreatEvBase
import Derived.Test.YtenclibcnjkamaaGreatEvPLiv5
set_option linter.all false
namespace Go.Ev.G
def ltK(f:Int→Int)(x y:Int):Prop:=f x<f y∨(f x=f y∧x<y)
theorem zQg{f:Int→Int}{x y:Int}(h:ltK f x y):f x≤f y:=by
 unfold ltK at h;omega
def bsr(P:Int→Bool):Nat→Int→Int→Int
 |0,i,_=>i
 |n+1,i,j=>if i<j then(if P ((i+j) / 2)=true then bsr P n ((i+j) / 2+1) j else bsr P n i ((i+j) / 2)) else i
theorem Pc(P:Int→Bool):∀(n:Nat) (i j:Int),i≤j→j-i≤n→(∀k k',i≤k→k≤k'→k'<j→P k'=true→P k=true) →
  i≤bsr P n i j∧bsr P n i j≤j∧(∀k,i≤k→k<bsr P n i j→P k=true)∧(∀k,bsr P n i j≤k→k<j→P k=false)
 |0,i,j,h1,h2,_=>by
  simp only[bsr]
  exact⟨by omega,by omega,fun k _ _=>by omega,fun k _ _=>by omega⟩
 |n+1,i,j,h1,h2,h3=>by
  simp only[bsr]
  by_cases hij:i<j
  ·rw[if_pos hij]
   by_cases hp:P ((i+j) / 2)=true
   ·rw[if_pos hp]
    obtain⟨a1,a2,a3,a4⟩:=Pc P n ((i+j) / 2+1) j (by omega) (by omega) (fun k k' b1 b2 b3 b4=>h3 k k' (by omega) b2 b3 b4)
    refine⟨by omega,a2,fun k b1 b2=> ?_,a4⟩
    by_cases hk:k≤(i+j) / 2
    ·exact h3 k _ b1 hk (by omega) hp
    ·exact a3 k (by omega) b2
   ·rw[if_neg hp]
    obtain⟨a1,a2,a3,a4⟩:=Pc P n i ((i+j) / 2) (by omega) (by omega) (fun k k' b1 b2 b3 b4=>h3 k k' b1 b2 (by omega) b4)
    refine⟨a1,by omega,a3,fun k b1 b2=> ?_⟩
    by_cases hk:k<(i+j) / 2
    ·exact a4 k b1 hk
    ·cases e:P k with
     |false=>rfl
     |true=>exact absurd (h3 _ k (by omega) (by omega) b2 e) hp
  ·rw[if_neg hij]
   exact⟨by omega,by omega,fun k _ _=>by omega,fun k _ _=>by omega⟩
def zkn(zs:List Int)(p q:Nat):List Int:=(zs.set p ((zs[q]?).getD 0)).set q ((zs[p]?).getD 0)
def Wg:List Int→Nat→Nat→Nat→List Int
 |zs,_,_,0=>zs
 |zs,p,q,n+1=>Wg (zkn zs p q) (p+1) (q+1) n
theorem Q9(zs:List Int)(p q:Nat):(zkn zs p q).length=zs.length:=by simp[zkn]
theorem zKy(X M Y:List Int)(x y:Int):zkn (X++x::M++y::Y) X.length (X.length+1+M.length)=X++y::M++x::Y:=by
 have e1:(X++x::M++y::Y)[X.length]? = some x:=by rw[zqc,List.getElem?_append_right (Nat.le_refl _)];simp
 have e2:(X++x::M++y::Y)[X.length+1+M.length]? = some y:=by
  rw[List.getElem?_append_right (by simp;omega)]
  simp only[la,lc]
  rw[show X.length+1+M.length-(X.length+(M.length+1))=0 by omega]
  rfl
 unfold zkn
 rw[e1,e2,Option.getD_some,Option.getD_some,zqc,List.set_append_right _ _ (Nat.le_refl _),Nat.sub_self]
 simp only[List.cons_append,List.set_cons_zero]
 rw[List.set_append_right _ _ (by omega),show X.length+1+M.length-X.length=M.length+1 by omega,List.set_cons_succ,List.set_append_right _ _ (Nat.le_refl _),Nat.sub_self,List.set_cons_zero]
 simp
theorem My:∀(A B X M Y:List Int),A.length=B.length→Wg (X++A++M++B++Y) X.length (X.length+A.length+M.length) A.length=X++B++M++A++Y
 |[],[],X,M,Y,_=>by simp[Wg]
 |[],_::_,X,M,Y,h=>by simp at h
 |_::_,[],X,M,Y,h=>by simp at h
 |a::A,b::B,X,M,Y,h=>by
  have ih:=My A B (X++[b]) (M++[a]) Y (by simpa using h)
  have e1:X++a::A++M++b::B++Y=X++a::(A++M)++b::(B++Y):=by simp
  have e2:X.length+(a::A).length+M.length=X.length+1+(A++M).length:=by simp;omega
  rw[lc,Wg,←List.length_cons (a:=a),e2,e1,zKy]
  have e3:X++b::(A++M)++a::(B++Y)=X++[b]++A++(M++[a])++B++Y:=by simp
  rw[e3,show X.length+1=(X++[b]).length by simp,show(X++[b]).length+(A++M).length+1=(X++[b]).length+A.length+(M++[a]).length by simp;omega,ih]
  simp
structure Mg (f:Int→Int) (L M:List Int):Prop where
 perm:M.Perm L
 pw:M.Pairwise (ltK f)
def zjd(L R:List Int):Prop:=∀x∈L,∀y∈R,x<y
theorem qL{f:Int→Int}{L:List Int}(h:L.Pairwise (ltK f)){i j:Nat}(hij:i≤j){x y:Int}(hx:L[i]? = some x)(hy:L[j]? = some y):f x≤f y:=by
 rcases Nat.lt_or_eq_of_le hij with e|rfl
 ·have h1:=(List.getElem?_eq_some_iff.1 hx)
  have h2:=(List.getElem?_eq_some_iff.1 hy)
  obtain⟨a1,rfl⟩:=h1
  obtain⟨a2,rfl⟩:=h2
  exact zQg (List.pairwise_iff_getElem.1 h i j a1 a2 e)
 ·rw[hx] at hy
  simp only[oi] at hy
  subst hy
  exact Int.le_refl _
theorem Mg.app{f:Int→Int}{A B L1 L2:List Int}(a:Mg f L1 A)(b:Mg f L2 B)(h:∀x∈L1,∀y∈L2,ltK f x y):Mg f (L1++L2) (A++B) :=
 ⟨a.perm.append b.perm,List.pairwise_append.2 ⟨a.pw,b.pw,fun x hx y hy=>h x (a.perm.subset hx) y (b.perm.subset hy)⟩⟩
theorem Mg.left{f:Int→Int}{x:Int}{R1 R2:List Int}(hR:(R1++R2).Pairwise (ltK f))(hc:∀y∈R1++R2,x<y)(h1:∀y∈R1,f y<f x)(h2:∀y∈R2,f x≤f y):Mg f (x::(R1++R2)) (R1++x::R2):=by
 obtain⟨p1,p2,p3⟩:=List.pairwise_append.1 hR
 refine⟨List.perm_middle,List.pairwise_append.2 ⟨p1,List.pairwise_cons.2 ⟨fun y hy=> ?_,p2⟩,fun y hy z hz=> ?_⟩⟩
 ·have a1:=h2 y hy
  have a2:=hc y (List.mem_append_right _ hy)
  unfold ltK;omega
 ·rcases List.mem_cons.1 hz with rfl|hz
  ·exact .inl (h1 y hy)
  ·exact p3 y hy z hz
theorem Mg.right{f:Int→Int}{y:Int}{L1 L2:List Int}(hL:(L1++L2).Pairwise (ltK f))(hc:∀x∈L1++L2,x<y)(h1:∀x∈L1,f x≤f y)(h2:∀x∈L2,f y<f x):Mg f (L1++L2++[y]) (L1++y::L2):=by
 obtain⟨p1,p2,p3⟩:=List.pairwise_append.1 hL
 refine⟨?_,List.pairwise_append.2 ⟨p1,List.pairwise_cons.2 ⟨fun x hx=> .inl (h2 x hx),p2⟩,fun x hx z hz=> ?_⟩⟩
 ·rw[zqc]
  exact List.Perm.append_left _ (by simpa using (List.perm_append_comm (l₁:=[y]) (l₂:=L2)))
 ·rcases List.mem_cons.1 hz with rfl|hz
  ·have a1:=h1 x hx
   have a2:=hc x (List.mem_append_left _ hx)
   unfold ltK;omega
  ·exact p3 x hx z hz
structure Cut (f:Int→Int) (L R:List Int) (s t:Nat):Prop where
 sle:s≤L.length
 tle:t≤R.length
 lo:∀x∈L.take s,∀y∈R.drop t,f x≤f y
 hi:∀x∈L.drop s,∀y∈R.take t,f y<f x
theorem Cut.merge{f:Int→Int}{L R A B:List Int}{s t:Nat}(hL:L.Pairwise (ltK f))(hR:R.Pairwise (ltK f))(hc:zjd L R)(h:Cut f L R s t)
  (ha:Mg f (L.take s++R.take t) A) (hb:Mg f (L.drop s++R.drop t) B):Mg f (L++R) (A++B):=by
 have hp:(L.take s++R.take t++(L.drop s++R.drop t)).Perm (L++R):=by
  conv=>rhs;rw[←List.take_append_drop s L,←List.take_append_drop t R]
  simp only[zqc]
  refine List.Perm.append_left _ ?_
  rw[←List.append_assoc,←List.append_assoc]
  exact List.Perm.append_right _ List.perm_append_comm
 have hm:=ha.app hb (fun x hx y hy=> ?_)
 ·exact⟨hm.perm.trans hp,hm.pw⟩
 ·have hL':=hL
  have hR':=hR
  rw[←List.take_append_drop s L] at hL'
  rw[←List.take_append_drop t R] at hR'
  rcases List.mem_append.1 hx with hx|hx<;>rcases List.mem_append.1 hy with hy|hy
  ·exact(List.pairwise_append.1 hL').2.2 x hx y hy
  ·have a1:=h.lo x hx y hy
   have a2:=hc x (List.mem_of_mem_take hx) y (List.mem_of_mem_drop hy)
   unfold ltK;omega
  ·exact .inl (h.hi y hy x hx)
  ·exact(List.pairwise_append.1 hR').2.2 x hx y hy
def Wv(f:Int→Int)(L R:List Int)(a mid:Int)(c:Int):Bool:= !decide (f ((R[(mid-1-c).toNat]?).getD 0)<f ((L[(c-a).toNat]?).getD 0))
theorem zwk{f:Int→Int}{L R:List Int}(hL:L.Pairwise (ltK f))(hR:R.Pairwise (ltK f)){a mid c c':Int}(h1:a≤c)(h2:c≤c')(h3:c'<a+L.length)(h4:c'<mid)(h5:mid-1-c<R.length)(h:Wv f L R a mid c'=true):Wv f L R a mid c=true:=by
 simp only[Wv,Bool.not_eq_true',decide_eq_false_iff_not,Int.not_lt] at h ⊢
 have g1:=List.getElem?_eq_getElem (l:=L) (i:=(c-a).toNat) (by omega)
 have g2:=List.getElem?_eq_getElem (l:=L) (i:=(c'-a).toNat) (by omega)
 have g3:=List.getElem?_eq_getElem (l:=R) (i:=(mid-1-c).toNat) (by omega)
 have g4:=List.getElem?_eq_getElem (l:=R) (i:=(mid-1-c').toNat) (by omega)
 have e1:=qL hL (by omega) g1 g2
 have e2:=qL hR (by omega) g4 g3
 rw[g1,g3]
 rw[g2,g4] at h
 simp only[Option.getD_some] at h ⊢
 omega
theorem zq1{f:Int→Int}{L R:List Int}(hL:L.Pairwise (ltK f))(hR:R.Pairwise (ltK f)){a m b mid st:Int}(hm:m=a+L.length)(hb:b=m+R.length)(hmid:mid=(a+b) / 2)(hL0:0<L.length)(hR0:0<R.length){s0 r0:Int}
  (hs:s0=if mid<m then mid+m-b else a) (hr:r0=if mid<m then mid else m) (h1:s0≤st) (h2:st≤r0) (h3:∀k,s0≤k→k<st→Wv f L R a mid k=true) (h4:∀k,st≤k→k<r0→Wv f L R a mid k=false) :
  Cut f L R (st-a).toNat (mid-st).toNat∧a≤st∧st≤m∧st≤mid∧m+(mid-st)≤b:=by
 have b1:a≤s0∧r0≤m∧r0≤mid∧mid-s0≤b-m:=by
  by_cases h:mid<m
  ·rw[if_pos h] at hs hr;omega
  ·rw[if_neg h] at hs hr;omega
 refine⟨⟨by omega,by omega,fun x hx y hy=> ?_,fun x hx y hy=> ?_⟩,by omega,by omega,by omega,by omega⟩
 ·obtain⟨i,hi,rfl⟩:=List.getElem_of_mem hx
  obtain⟨j,hj,rfl⟩:=List.getElem_of_mem hy
  rw[List.length_take] at hi
  rw[List.length_drop] at hj
  rw[List.getElem_take,List.getElem_drop]
  have hst:s0<st:=by
   by_cases h:mid<m
   ·rw[if_pos h] at hs hr;omega
   ·rw[if_neg h] at hs hr;omega
  have hp:=h3 (st-1) (by omega) (by omega)
  simp only[Wv,Bool.not_eq_true',decide_eq_false_iff_not,Int.not_lt] at hp
  have g1:=List.getElem?_eq_getElem (l:=L) (i:=(st-1-a).toNat) (by omega)
  have g2:=List.getElem?_eq_getElem (l:=R) (i:=(mid-1-(st-1)).toNat) (by omega)
  rw[g1,g2] at hp
  simp only[Option.getD_some] at hp
  have e1:=qL hL (i:=i) (j:=(st-1-a).toNat) (by omega) (List.getElem?_eq_getElem (by omega)) g1
  have e2:=qL hR (i:=(mid-1-(st-1)).toNat) (j:=(mid-st).toNat+j) (by omega) g2 (List.getElem?_eq_getElem (by omega))
  omega
 ·obtain⟨i,hi,rfl⟩:=List.getElem_of_mem hx
  obtain⟨j,hj,rfl⟩:=List.getElem_of_mem hy
  rw[List.length_take] at hj
  rw[List.length_drop] at hi
  rw[List.getElem_take,List.getElem_drop]
  have hst:st<r0:=by
   by_cases h:mid<m
   ·rw[if_pos h] at hs hr;omega
   ·rw[if_neg h] at hs hr;omega
  have hp:=h4 st (by omega) hst
  simp only[Wv,Bool.not_eq_false',zqd] at hp
  have g1:=List.getElem?_eq_getElem (l:=L) (i:=(st-a).toNat) (by omega)
  have g2:=List.getElem?_eq_getElem (l:=R) (i:=(mid-1-st).toNat) (by omega)
  rw[g1,g2] at hp
  simp only[Option.getD_some] at hp
  have e1:=qL hL (i:=(st-a).toNat) (j:=(st-a).toNat+i) (by omega) g1 (List.getElem?_eq_getElem (by omega))
  have e2:=qL hR (i:=j) (j:=(mid-1-st).toNat) (by omega) (List.getElem?_eq_getElem (by omega)) g2
  omega
theorem Mg.unique{f:Int→Int}{L A B:List Int}(a:Mg f L A)(b:Mg f L B):A=B :=
 List.Perm.eq_of_pairwise (le:=ltK f) (fun x y _ _ h1 h2=>by unfold ltK at h1 h2;omega) a.pw b.pw (a.perm.trans b.perm.symm)
set_option maxRecDepth 8000
set_option maxHeartbeats 4000000
variable{H0:Heap}{kd kf fc:Nat}
abbrev sH(H0:Heap)(kd:Nat)(zs:List Int):Heap:=upd H0 (0,kd) (some (.s 1 (aG zs)))
abbrev cl(fc kf:Nat):X:= .clo fc [.ptr (0,kf) [] 0 0]
def vN(H0:Heap)(kd:Nat):Prop:=∀fr,1≤fr→∀x,cC fr (upd H0 (0,kd) x)=upd H0 (0,kd) x
theorem dL(zs:List Int)(j:Nat)(z:Int):(aG zs).set j [DI z]=aG (zs.set j z):=by simp[aG,List.map_set]
theorem gB{zs:List Int}{j:Nat}{y:Int}(h:zs[j]? = some y):(aG zs)[j]? = some [DI y]:=by simp[aG,h]
theorem H8(hS:vN H0 kd)(fr:Nat)(h1:1≤fr)(a b n:Int)(ha:0≤a)(hb:0≤b):∀(m:Nat) (j:Int) (zs:List Int),n-j=m→0≤j→a+n≤zs.length→b+n≤zs.length→zs.length≤250 →
  loopW tab [0,1,2,3,10] cZ {env:=upd (upd (upd (upd (upd emp 10 (some (I j))) 3 (some (I n))) 2 (some (I b))) 1 (some (I a))) 0 (some (.ref (0,kd) [])),heap:=sH H0 kd zs,fr:=fr,next:=0} =
  some (.ext 0,{env:=emp,heap:=sH H0 kd (Wg zs (a+j).toNat (b+j).toNat m),fr:=fr,next:=0})
 |0,j,zs,hm,hj,hl1,hl2,hl=>by
  have hd:=hS fr h1
  unfold loopW
  conv=>lhs;arg 1;unfold cZ
  simp -implicitDefEqProofs (disch:=first|assumption|omega) only[go_sem,simprocAttr,show n≤j by omega,Wg,hd,show ¬0=fr by omega]
 |m+1,j,zs,hm,hj,hl1,hl2,hl=>by
  have hd:=hS fr h1
  have ih:=H8 hS fr h1 a b n ha hb m (j+1) (zkn zs (a+j).toNat (b+j).toNat) (by omega) (by omega) (by rw[Q9];exact hl1) (by rw[Q9];exact hl2) (by rw[Q9];exact hl)
  rw[Wg,←show(a+(j+1)).toNat=(a+j).toNat+1 by omega,←show(b+(j+1)).toNat=(b+j).toNat+1 by omega,←ih]
  have e1:=List.getElem?_eq_getElem (l:=zs) (i:=(a+j).toNat) (by omega)
  have e2:=List.getElem?_eq_getElem (l:=zs) (i:=(b+j).toNat) (by omega)
  unfold zkn
  rw[e1,e2,Option.getD_some,Option.getD_some]
  generalize zs[(a+j).toNat]'(by omega)=x at e1
  generalize zs[(b+j).toNat]'(by omega)=y at e2
  have f1:=gB e1
  have f2:=gB e2
  have f3:=dL zs (a+j).toNat
  have f4:=dL (zs.set (a+j).toNat y) (b+j).toNat
  have f5:∃z,(zs.set (a+j).toNat y)[(b+j).toNat]? = some z:=⟨_,List.getElem?_eq_getElem (by rw[List.length_set];omega)⟩
  obtain⟨z,f5⟩:=f5
  have f6:=gB f5
  conv=>lhs;unfold loopW;arg 1;unfold cZ
  simp -implicitDefEqProofs (disch:=first|assumption|omega) only[go_sem,simprocAttr,show j<n by omega,f1,f2,f3,f4,f6,hd,show ¬0=fr by omega,List.length_set]
theorem yF(hS:vN H0 kd)(fr:Nat)(h1:1≤fr)(a b n:Int)(ha:0≤a)(hb:0≤b)(hn:0≤n)(zs:List Int)(hl1:a+n≤zs.length)(hl2:b+n≤zs.length)(hl:zs.length≤250)(c:X) :
  evCW tab cV [.ref (0,kd) [],I a,I b,I n,c] (sH H0 kd zs) fr=some (.tup [],sH H0 kd (Wg zs a.toNat b.toNat n.toNat)):=by
 rw[aR qF _ _ _ rfl,jI]
 have hd:=hS fr h1
 have h0:=H8 hS fr h1 a b n ha hb n.toNat 0 zs (by omega) (by omega) hl1 hl2 hl
 rw[Int.add_zero,Int.add_zero] at h0
 simp -implicitDefEqProofs (disch:=first|assumption|omega) only[go_sem,simprocAttr,h0,hd,show ¬0=fr by omega]
set_option maxRecDepth 8000
set_option maxHeartbeats 4000000
variable{H0:Heap}{kd kf fc:Nat}
theorem Jr(hS:vN H0 kd)(fr:Nat)(h1:1≤fr)(m:Int)(c:X)(hc:c.keeps=true)(hc2:c.root=true)(hco:c.offs fr=[])(hcr:∀g,c.ren (kid fr g)=c):∀(n:Nat) (P Q W Y:List Int),P.length+Q.length≤n→0<P.length→0<Q.length→m=W.length+P.length→(W++P++Q++Y).length≤250 →
  ∃d zs,loopW tab [0,2,4,10,11] cR {env:=upd (upd (upd (upd (upd emp 11 (some (I (Q.length:Int)))) 10 (some (I (P.length:Int)))) 4 (some c)) 2 (some (I m))) 0 (some (.ref (0,kd) [])),heap:=sH H0 kd (W++P++Q++Y),fr:=fr,next:=0} =
   some (.ext 0,{env:=upd (upd (upd (upd emp 10 (some (I d))) 4 (some c)) 2 (some (I m))) 0 (some (.ref (0,kd) [])),heap:=sH H0 kd zs,fr:=fr,next:=0})∧zs.length=(W++P++Q++Y).length∧0<d∧d≤m∧m+d≤zs.length∧Wg zs (m-d).toNat m.toNat d.toNat=W++Q++P++Y
 |0,P,Q,W,Y,hn,hP,hQ,hm,hl=>by omega
 |n+1,P,Q,W,Y,hn,hP,hQ,hm,hl=>by
  have hd:=hS fr h1
  have hll:(W++P++Q++Y).length=W.length+P.length+Q.length+Y.length:=by simp;omega
  by_cases e:P.length=Q.length
  ·have hs:=My P Q W [] Y e
   simp only[zqe,ln,Nat.add_zero] at hs
   refine⟨P.length,W++P++Q++Y,?_,rfl,by omega,by omega,by omega,by rw[show(m-(P.length:Int)).toNat=W.length by omega,show m.toNat=W.length+P.length by omega,Int.toNat_natCast];exact hs⟩
   unfold loopW
   conv=>lhs;arg 1;unfold cR
   generalize W++P++Q++Y=zs at *
   rw[←e]
   generalize (P.length:Int)=p at *
   simp -implicitDefEqProofs (disch:=first|assumption|omega) only[go_sem,simprocAttr,hd,show ¬0=fr by omega,hc,hco,hcr]
  by_cases e2:Q.length<P.length
  ·have hp:=List.take_append_drop Q.length P
   have hl1:(P.take Q.length).length=Q.length:=by rw[List.length_take];omega
   have hl2:(P.drop Q.length).length=P.length-Q.length:=by rw[List.length_drop]
   generalize P.take Q.length=P1 at *
   generalize P.drop Q.length=P2 at *
   have hs:=My P1 Q W P2 Y hl1
   obtain⟨d,zs,a1,a2,a3,a4,a5,a6⟩:=Jr hS fr h1 m c hc hc2 hco hcr n P2 P1 (W++Q) Y (by omega) (by omega) (by omega) (by rw[la];omega) (by simp only[la] at hl ⊢;omega)
   have g:=yF hS (fr+1) (by omega) (m-P.length) m Q.length (by omega) (by omega) (by omega) (W++P++Q++Y) (by omega) (by omega) hl c
   rw[←hp,←List.append_assoc W P1 P2,show(m-((P1++P2).length:Int)).toNat=W.length by rw[hp];omega,show m.toNat=W.length+P1.length+P2.length by omega,Int.toNat_natCast,←hl1,hs] at g
   refine⟨d,zs,?_,by rw[a2];simp only[la];omega,a3,a4,a5,by rw[a6,←hp];simp⟩
   rw[←a1]
   have e3:W++P++Q++Y=W++P1++P2++Q++Y:=by rw[←hp];simp
   rw[e3,show W++Q++P2++P1++Y=W++Q++P2++P1++Y from rfl] at *
   generalize W++P1++P2++Q++Y=z1 at *
   generalize W++Q++P2++P1++Y=z2 at *
   rw[show(P2.length:Int)=(P.length:Int)-(Q.length:Int) by omega,hl1]
   rw[hp,hl1] at g
   have b1:(Q.length:Int)<P.length:=by omega
   have b2:(P.length:Int)≤250:=by omega
   have b3:(0:Int)≤Q.length:=by omega
   generalize (P.length:Int)=p at *
   generalize (Q.length:Int)=q at *
   conv=>lhs;unfold loopW;arg 1;unfold cR
   simp -implicitDefEqProofs (disch:=first|assumption|omega) only[go_sem,simprocAttr,hd,show ¬0=fr by omega,hc,hc2,hco,hcr,g,b1,show ¬p=q by omega]
  ·have hp:=List.take_append_drop (Q.length-P.length) Q
   have hl1:(Q.take (Q.length-P.length)).length=Q.length-P.length:=by rw[List.length_take];omega
   have hl2:(Q.drop (Q.length-P.length)).length=P.length:=by rw[List.length_drop];omega
   generalize Q.take (Q.length-P.length)=Q1 at *
   generalize Q.drop (Q.length-P.length)=Q2 at *
   have hs:=My P Q2 W Q1 Y hl2.symm
   obtain⟨d,zs,a1,a2,a3,a4,a5,a6⟩:=Jr hS fr h1 m c hc hc2 hco hcr n Q2 Q1 W (P++Y) (by omega) (by omega) (by omega) (by omega) (by simp only[la] at hl ⊢;omega)
   have g:=yF hS (fr+1) (by omega) (m-P.length) (m+Q.length-P.length) P.length (by omega) (by omega) (by omega) (W++P++Q++Y) (by omega) (by omega) hl c
   have e3:W++P++Q++Y=W++P++Q1++Q2++Y:=by rw[←hp];simp
   rw[e3,show(m-(P.length:Int)).toNat=W.length by omega,show(m+Q.length-P.length:Int).toNat=W.length+P.length+Q1.length by omega,Int.toNat_natCast,hs] at g
   refine⟨d,zs,?_,by rw[a2];simp only[la];omega,a3,a4,a5,by rw[a6,←hp];simp⟩
   rw[←a1,e3,show W++Q2++Q1++(P++Y)=W++Q2++Q1++P++Y by simp]
   generalize W++P++Q1++Q2++Y=z1 at *
   generalize W++Q2++Q1++P++Y=z2 at *
   rw[show(Q1.length:Int)=(Q.length:Int)-(P.length:Int) by omega,hl2]
   have b1:(P.length:Int)<Q.length:=by omega
   have b2:(Q.length:Int)≤250:=by omega
   generalize (P.length:Int)=p at *
   generalize (Q.length:Int)=q at *
   conv=>lhs;unfold loopW;arg 1;unfold cR
   simp -implicitDefEqProofs (disch:=first|assumption|omega) only[go_sem,simprocAttr,hd,show ¬0=fr by omega,hc,hc2,hco,hcr,g,b1,show ¬p=q by omega,show ¬q<p by omega]
theorem zxD(hS:vN H0 kd)(fr:Nat)(h1:1≤fr)(P Q W Y:List Int)(hP:0<P.length)(hQ:0<Q.length)(hl:(W++P++Q++Y).length≤250) :
  evCW tab dN [.ref (0,kd) [],I (W.length:Int),I ((W.length:Int)+P.length),I ((W.length:Int)+P.length+Q.length),cl fc kf] (sH H0 kd (W++P++Q++Y)) fr=some (.tup [],sH H0 kd (W++Q++P++Y)):=by
 rw[aR s9 _ _ _ rfl,lQ]
 have hd:=hS fr h1
 have hll:(W++P++Q++Y).length=W.length+P.length+Q.length+Y.length:=by simp;omega
 obtain⟨d,zs,a1,a2,a3,a4,a5,a6⟩:=Jr hS fr h1 ((W.length:Int)+P.length) (cl fc kf) (by simp[X.keeps,X.flat]) (by simp[X.root,Bf,X.rootC]) (by simp[X.offs,Gb,X.offC];omega) (fun g=>by simp[X.ren,X.renC,kid];omega) _ P Q W Y (Nat.le_refl _) hP hQ rfl hl
 have g:=yF hS (fr+1) (by omega) ((W.length:Int)+P.length-d) ((W.length:Int)+P.length) d (by omega) (by omega) (by omega) zs (by omega) (by omega) (by omega) (cl fc kf)
 rw[a6] at g
 rw[a2] at a5
 have b1:(0:Int)≤W.length:=by omega
 have b2:(0:Int)<P.length:=by omega
 have b3:(0:Int)<Q.length:=by omega
 have b4:(W.length:Int)+P.length+Q.length≤250:=by omega
 generalize (Q.length:Int)=q at *
 generalize (P.length:Int)=p at *
 generalize (W.length:Int)=w at *
 simp -implicitDefEqProofs (disch:=first|assumption|omega) only[go_sem,simprocAttr,hd,show ¬0=fr by omega,a1,g,show w+p+q-(w+p)=q by omega,show w+p-w=p by omega]
abbrev aC(zs:List Int)(k:Int):Int:=(zs[k.toNat]?).getD 0
theorem bN{zs:List Int}{k:Int}(h0:0≤k)(h:k<zs.length):(aG zs)[k.toNat]? = some [DI (aC zs k)]∧aC zs k∈zs:=by
 have e:=List.getElem?_eq_getElem (l:=zs) (i:=k.toNat) (by omega)
 refine⟨by simp[aG,aC,e],?_⟩
 simp only[aC,e,Option.getD_some]
 exact List.getElem_mem _
def Cmp(H0:Heap)(kd kf fc:Nat)(F:Int→Int)(V:Int→Prop):Prop:=∀(zs:List Int) (fr:Nat) (x y:Int),2≤fr→V x→V y→evCW tab fc [I x,I y,.ptr (0,kf) [] 0 0] (sH H0 kd zs) fr=some (I (F x-F y),sH H0 kd zs)
theorem Wk{n:Int}(h0:0≤n)(h:n≤9223372036854775807):IntKind.u64.wrap n=n:=by
 unfold IntKind.wrap
 simp only[IntKind.bits,IntKind.signed]
 simp
 omega
theorem V6{n:Int}(h0:0≤n):n.fdiv (2 ^ min 1 64)=n / 2:=by
 rw[show(2:Int) ^ min 1 64=2 from rfl]
 exact Int.fdiv_eq_ediv_of_nonneg n (by omega)
theorem zjP{F:Int→Int}{V:Int→Prop}(hS:vN H0 kd)(hC:Cmp H0 kd kf fc F V)(fr:Nat)(h1:1≤fr)(zs:List Int)(hV:∀x∈zs,V x)(hl:zs.length≤250)(a:Int)(ha:0≤a)(ha2:a<zs.length):∀(n:Nat) (i j:Int),0≤i→i≤j→j≤zs.length→j-i≤n →
  loopW tab [0,1,4,10,11] cA {env:=upd (upd (upd (upd (upd emp 11 (some (I j))) 10 (some (I i))) 4 (some (cl fc kf))) 1 (some (I a))) 0 (some (.ref (0,kd) [])),heap:=sH H0 kd zs,fr:=fr,next:=0} =
  some (.ext 0,{env:=upd (upd (upd emp 10 (some (I (bsr (fun k=>decide (F (aC zs k)<F (aC zs a))) n i j)))) 1 (some (I a))) 0 (some (.ref (0,kd) [])),heap:=sH H0 kd zs,fr:=fr,next:=0})
 |0,i,j,h0,hij,hj,hn=>by
  have hd:=hS fr h1
  unfold loopW
  conv=>lhs;arg 1;unfold cA
  simp -implicitDefEqProofs (disch:=first|assumption|omega) only[go_sem,simprocAttr,bsr,show j≤i by omega,hd,show ¬0=fr by omega]
 |n+1,i,j,h0,hij,hj,hn=>by
  have hd:=hS fr h1
  rw[bsr]
  by_cases e:i<j
  ·rw[if_pos e]
   obtain⟨f1,f2⟩:=bN (zs:=zs) (k:=(i+j) / 2) (by omega) (by omega)
   obtain⟨f3,f4⟩:=bN ha ha2
   have g:=hC zs (fr+1) (aC zs ((i+j) / 2)) (aC zs a) (by omega) (hV _ f2) (hV _ f4)
   have w1:=Wk (n:=i+j) (by omega) (by omega)
   have w2:=V6 (n:=i+j) (by omega)
   have w3:IntKind.i64.wrap ((i+j) / 2)=(i+j) / 2:=Iq ⟨by omega,by omega⟩
   by_cases hp:F (aC zs ((i+j) / 2))<F (aC zs a)
   ·rw[if_pos (by simpa using hp)]
    have ih:=zjP hS hC fr h1 zs hV hl a ha ha2 n ((i+j) / 2+1) j (by omega) (by omega) hj (by omega)
    rw[←ih]
    conv=>lhs;unfold loopW;arg 1;unfold cA
    have hp2:F (aC zs ((i+j) / 2))-F (aC zs a)<0:=by omega
    have b1:0≤(i+j) / 2:=by omega
    have b2:(i+j) / 2<zs.length:=by omega
    generalize (i+j) / 2=hh at *
    simp -implicitDefEqProofs (disch:=first|assumption|omega) only[go_sem,simprocAttr,e,f1,f3,g,w1,w2,w3,hp2,hd,show ¬0=fr by omega]
   ·rw[if_neg (by simpa using hp)]
    have ih:=zjP hS hC fr h1 zs hV hl a ha ha2 n i ((i+j) / 2) h0 (by omega) (by omega) (by omega)
    rw[←ih]
    conv=>lhs;unfold loopW;arg 1;unfold cA
    have hp2:¬F (aC zs ((i+j) / 2))-F (aC zs a)<0:=by omega
    have b1:0≤(i+j) / 2:=by omega
    have b2:(i+j) / 2<zs.length:=by omega
    generalize (i+j) / 2=hh at *
    simp -implicitDefEqProofs (disch:=first|assumption|omega) only[go_sem,simprocAttr,e,f1,f3,g,w1,w2,w3,hp2,hd,show ¬0=fr by omega]
  ·rw[if_neg e]
   unfold loopW
   conv=>lhs;arg 1;unfold cA
   simp -implicitDefEqProofs (disch:=first|assumption|omega) only[go_sem,simprocAttr,show j≤i by omega,hd,show ¬0=fr by omega]
theorem zjG{F:Int→Int}{V:Int→Prop}(hS:vN H0 kd)(hC:Cmp H0 kd kf fc F V)(fr:Nat)(h1:1≤fr)(zs:List Int)(hV:∀x∈zs,V x)(hl:zs.length≤250)(m:Int)(ha:0≤m)(ha2:m<zs.length):∀(n:Nat) (i j:Int),0≤i→i≤j→j≤zs.length→j-i≤n →
  loopW tab [0,2,4,14,15] b9 {env:=upd (upd (upd (upd (upd emp 15 (some (I j))) 14 (some (I i))) 4 (some (cl fc kf))) 2 (some (I m))) 0 (some (.ref (0,kd) [])),heap:=sH H0 kd zs,fr:=fr,next:=0} =
  some (.ext 4,{env:=upd (upd (upd emp 14 (some (I (bsr (fun k=> !decide (F (aC zs m)<F (aC zs k))) n i j)))) 2 (some (I m))) 0 (some (.ref (0,kd) [])),heap:=sH H0 kd zs,fr:=fr,next:=0})
 |0,i,j,h0,hij,hj,hn=>by
  have hd:=hS fr h1
  unfold loopW
  conv=>lhs;arg 1;unfold b9
  simp -implicitDefEqProofs (disch:=first|assumption|omega) only[go_sem,simprocAttr,bsr,show j≤i by omega,hd,show ¬0=fr by omega]
 |n+1,i,j,h0,hij,hj,hn=>by
  have hd:=hS fr h1
  rw[bsr]
  by_cases e:i<j
  ·rw[if_pos e]
   obtain⟨f1,f2⟩:=bN (zs:=zs) (k:=(i+j) / 2) (by omega) (by omega)
   obtain⟨f3,f4⟩:=bN ha ha2
   have g:=hC zs (fr+1) (aC zs m) (aC zs ((i+j) / 2)) (by omega) (hV _ f4) (hV _ f2)
   have w1:=Wk (n:=i+j) (by omega) (by omega)
   have w2:=V6 (n:=i+j) (by omega)
   have w3:IntKind.i64.wrap ((i+j) / 2)=(i+j) / 2:=Iq ⟨by omega,by omega⟩
   by_cases hp:F (aC zs m)<F (aC zs ((i+j) / 2))
   ·rw[if_neg (by simpa using hp)]
    have ih:=zjG hS hC fr h1 zs hV hl m ha ha2 n i ((i+j) / 2) h0 (by omega) (by omega) (by omega)
    rw[←ih]
    conv=>lhs;unfold loopW;arg 1;unfold b9
    have hp2:F (aC zs m)-F (aC zs ((i+j) / 2))<0:=by omega
    have b1:0≤(i+j) / 2:=by omega
    have b2:(i+j) / 2<zs.length:=by omega
    generalize (i+j) / 2=hh at *
    simp -implicitDefEqProofs (disch:=first|assumption|omega) only[go_sem,simprocAttr,e,f1,f3,g,w1,w2,w3,hp2,hd,show ¬0=fr by omega]
   ·rw[if_pos (by simpa using hp)]
    have ih:=zjG hS hC fr h1 zs hV hl m ha ha2 n ((i+j) / 2+1) j (by omega) (by omega) hj (by omega)
    rw[←ih]
    conv=>lhs;unfold loopW;arg 1;unfold b9
    have hp2:¬F (aC zs m)-F (aC zs ((i+j) / 2))<0:=by omega
    have b1:0≤(i+j) / 2:=by omega
    have b2:(i+j) / 2<zs.length:=by omega
    generalize (i+j) / 2=hh at *
    simp -implicitDefEqProofs (disch:=first|assumption|omega) only[go_sem,simprocAttr,e,f1,f3,g,w1,w2,w3,hp2,hd,show ¬0=fr by omega]
  ·rw[if_neg e]
   unfold loopW
   conv=>lhs;arg 1;unfold b9
   simp -implicitDefEqProofs (disch:=first|assumption|omega) only[go_sem,simprocAttr,show j≤i by omega,hd,show ¬0=fr by omega]
theorem zqH{F:Int→Int}{V:Int→Prop}(hS:vN H0 kd)(hC:Cmp H0 kd kf fc F V)(fr:Nat)(h1:1≤fr)(zs:List Int)(hV:∀x∈zs,V x)(hl:zs.length≤250)(a m b md nn p:Int):∀(n:Nat) (i j:Int),0≤i→i≤j→j≤zs.length→j-i≤n→(∀k,i≤k→k<j→0≤p-k∧p-k<zs.length)→p≤1000 →
  loopW tab [0,1,2,3,4,18,19,20,21,22] bV {env:=upd (upd (upd (upd (upd (upd (upd (upd (upd (upd emp 22 (some (I p))) 21 (some (I j))) 20 (some (I i))) 19 (some (I nn))) 18 (some (I md))) 4 (some (cl fc kf))) 3 (some (I b))) 2 (some (I m))) 1 (some (I a))) 0 (some (.ref (0,kd) [])),heap:=sH H0 kd zs,fr:=fr,next:=0} =
  some (.ext 8,{env:=upd (upd (upd (upd (upd (upd (upd (upd emp 20 (some (I (bsr (fun k=> !decide (F (aC zs (p-k))<F (aC zs k))) n i j)))) 19 (some (I nn))) 18 (some (I md))) 4 (some (cl fc kf))) 3 (some (I b))) 2 (some (I m))) 1 (some (I a))) 0 (some (.ref (0,kd) [])),heap:=sH H0 kd zs,fr:=fr,next:=0})
 |0,i,j,h0,hij,hj,hn,hk,hp=>by
  have hd:=hS fr h1
  unfold loopW
  conv=>lhs;arg 1;unfold bV
  simp -implicitDefEqProofs (disch:=first|assumption|omega) only[go_sem,simprocAttr,bsr,show j≤i by omega,hd,show ¬0=fr by omega]
 |n+1,i,j,h0,hij,hj,hn,hk,hp=>by
  have hd:=hS fr h1
  rw[bsr]
  by_cases e:i<j
  ·rw[if_pos e]
   obtain⟨k1,k2⟩:=hk ((i+j) / 2) (by omega) (by omega)
   obtain⟨f1,f2⟩:=bN (zs:=zs) (k:=(i+j) / 2) (by omega) (by omega)
   obtain⟨f3,f4⟩:=bN k1 k2
   have g:=hC zs (fr+1) (aC zs (p-(i+j) / 2)) (aC zs ((i+j) / 2)) (by omega) (hV _ f4) (hV _ f2)
   have w1:=Wk (n:=i+j) (by omega) (by omega)
   have w2:=V6 (n:=i+j) (by omega)
   have w3:IntKind.i64.wrap ((i+j) / 2)=(i+j) / 2:=Iq ⟨by omega,by omega⟩
   by_cases hq:F (aC zs (p-(i+j) / 2))<F (aC zs ((i+j) / 2))
   ·rw[if_neg (by simpa using hq)]
    have ih:=zqH hS hC fr h1 zs hV hl a m b md nn p n i ((i+j) / 2) h0 (by omega) (by omega) (by omega) (fun k c1 c2=>hk k c1 (by omega)) hp
    rw[←ih]
    conv=>lhs;unfold loopW;arg 1;unfold bV
    have hp2:F (aC zs (p-(i+j) / 2))-F (aC zs ((i+j) / 2))<0:=by omega
    have b1:0≤(i+j) / 2:=by omega
    have b2:(i+j) / 2<zs.length:=by omega
    generalize (i+j) / 2=hh at *
    simp -implicitDefEqProofs (disch:=first|assumption|omega) only[go_sem,simprocAttr,e,f1,f3,g,w1,w2,w3,hp2,hd,show ¬0=fr by omega]
   ·rw[if_pos (by simpa using hq)]
    have ih:=zqH hS hC fr h1 zs hV hl a m b md nn p n ((i+j) / 2+1) j (by omega) (by omega) hj (by omega) (fun k c1 c2=>hk k (by omega) c2) hp
    rw[←ih]
    conv=>lhs;unfold loopW;arg 1;unfold bV
    have hp2:¬F (aC zs (p-(i+j) / 2))-F (aC zs ((i+j) / 2))<0:=by omega
    have b1:0≤(i+j) / 2:=by omega
    have b2:(i+j) / 2<zs.length:=by omega
    generalize (i+j) / 2=hh at *
    simp -implicitDefEqProofs (disch:=first|assumption|omega) only[go_sem,simprocAttr,e,f1,f3,g,w1,w2,w3,hp2,hd,show ¬0=fr by omega]
  ·rw[if_neg e]
   unfold loopW
   conv=>lhs;arg 1;unfold bV
   simp -implicitDefEqProofs (disch:=first|assumption|omega) only[go_sem,simprocAttr,show j≤i by omega,hd,show ¬0=fr by omega]
set_option maxRecDepth 8000
set_option maxHeartbeats 4000000
variable{H0:Heap}{kd kf fc:Nat}
theorem J1(W:List Int)(x:Int)(Y:List Int){k:Int}(hk:k=W.length):(W++x::Y)[k.toNat]? = some x:=by
 rw[show k.toNat=W.length by omega,List.getElem?_append_right (Nat.le_refl _)]
 simp
theorem z7L(W:List Int)(x y:Int)(Y:List Int){k:Int}(hk:k=W.length):((W++x::y::Y).set k.toNat y).set (k+1).toNat x=W++y::x::Y:=by
 rw[show k.toNat=W.length by omega,show(k+1).toNat=W.length+1 by omega,List.set_append_right _ _ (Nat.le_refl _),Nat.sub_self,List.set_cons_zero,List.set_append_right _ _ (by omega),show W.length+1-W.length=1 by omega]
 rfl
theorem zvS(W:List Int)(x y:Int)(Y:List Int){k:Int}(hk:k=W.length):((W++x::y::Y).set (k+1).toNat x).set k.toNat y=W++y::x::Y:=by
 rw[show k.toNat=W.length by omega,show(k+1).toNat=W.length+1 by omega,List.set_append_right _ _ (by omega),show W.length+1-W.length=1 by omega]
 simp only[List.set_cons_succ,List.set_cons_zero]
 rw[List.set_append_right _ _ (Nat.le_refl _),Nat.sub_self,List.set_cons_zero]
theorem zVY(hS:vN H0 kd)(fr:Nat)(h1:1≤fr)(i:Int):∀(L1 W Y:List Int) (x k:Int),k=W.length→i-1=k+L1.length→(W++x::L1++Y).length≤250 →
  loopW tab [0,10,13] dD {env:=upd (upd (upd emp 13 (some (I k))) 10 (some (I i))) 0 (some (.ref (0,kd) [])),heap:=sH H0 kd (W++x::L1++Y),fr:=fr,next:=0} =
  some (.ext 2,{env:=emp,heap:=sH H0 kd (W++L1++x::Y),fr:=fr,next:=0})
 |[],W,Y,x,k,hk,hi,hl=>by
  have hd:=hS fr h1
  have hll:(W++x::([]:List Int)++Y).length=W.length+1+Y.length:=by simp;omega
  simp only[ln] at hi
  rw[show W++x::([]:List Int)++Y=W++[]++x::Y by simp] at *
  generalize W++[]++x::Y=zs at *
  unfold loopW
  conv=>lhs;arg 1;unfold dD
  simp -implicitDefEqProofs (disch:=first|assumption|omega) only[go_sem,simprocAttr,show i-1≤k by omega,hd,show ¬0=fr by omega]
 |y::L1,W,Y,x,k,hk,hi,hl=>by
  have hd:=hS fr h1
  have ih:=zVY hS fr h1 i L1 (W++[y]) Y x (k+1) (by simp;omega) (by simp at hi;omega) (by simp at hl ⊢;omega)
  have hll:(W++x::y::L1++Y).length=W.length+2+L1.length+Y.length:=by simp;omega
  have hs:=z7L W x y (L1++Y) hk
  have e1:=J1 W x (y::L1++Y) hk
  have e2:=J1 (W++[x]) y (L1++Y) (k:=k+1) (by simp;omega)
  rw[show W++[y]++x::L1++Y=W++y::x::(L1++Y) by simp,show W++[y]++L1++x::Y=W++y::L1++x::Y by simp] at ih
  rw[←ih]
  rw[show W++[x]++y::(L1++Y)=W++x::y::(L1++Y) by simp] at e2
  rw[show W++x::(y::L1++Y)=W++x::y::(L1++Y) by simp] at e1
  rw[show W++x::y::L1++Y=W++x::y::(L1++Y) by simp] at *
  generalize W++x::y::(L1++Y)=zs at *
  generalize W++y::x::(L1++Y)=z2 at *
  have f1:=gB e1
  have f2:=gB e2
  have f3:=dL zs k.toNat
  have f4:=dL (zs.set k.toNat y) (k+1).toNat
  have f5:=gB (zs:=zs.set k.toNat y) (j:=(k+1).toNat) (y:=y) (by rw[List.getElem?_set,if_neg (by omega)];exact e2)
  have b1:i-1>k:=by simp at hi;omega
  have b2:i≤251:=by simp at hi;omega
  conv=>lhs;unfold loopW;arg 1;unfold dD
  simp -implicitDefEqProofs (disch:=first|assumption|omega) only[go_sem,simprocAttr,b1,f1,f2,f3,f4,f5,hs,hd,show ¬0=fr by omega,List.length_set]
theorem zZ4(hS:vN H0 kd)(fr:Nat)(h1:1≤fr)(i:Int):∀(n:Nat) (L1 W Y:List Int) (x k:Int),L1.length=n→i=W.length→k=W.length+L1.length→(W++L1++x::Y).length≤250 →
  loopW tab [0,14,17] dA {env:=upd (upd (upd emp 17 (some (I k))) 14 (some (I i))) 0 (some (.ref (0,kd) [])),heap:=sH H0 kd (W++L1++x::Y),fr:=fr,next:=0} =
  some (.ext 6,{env:=emp,heap:=sH H0 kd (W++x::L1++Y),fr:=fr,next:=0})
 |0,L1,W,Y,x,k,hn,hi,hk,hl=>by
  have hd:=hS fr h1
  have e:L1=[]:=List.length_eq_zero_iff.1 hn
  subst e
  have hll:(W++[]++x::Y).length=W.length+1+Y.length:=by simp;omega
  simp only[ln] at hk
  rw[show W++x::([]:List Int)++Y=W++[]++x::Y by simp] at *
  generalize W++[]++x::Y=zs at *
  unfold loopW
  conv=>lhs;arg 1;unfold dA
  simp -implicitDefEqProofs (disch:=first|assumption|omega) only[go_sem,simprocAttr,show k≤i by omega,hd,show ¬0=fr by omega]
 |n+1,L1,W,Y,x,k,hn,hi,hk,hl=>by
  have hd:=hS fr h1
  obtain⟨L2,y,rfl⟩:∃L2 y,L1=L2++[y]:=by
   rcases List.eq_nil_or_concat L1 with e|⟨A,b,e⟩
   ·subst e;simp at hn
   ·exact⟨A,b,by simpa using e⟩
  have ih:=zZ4 hS fr h1 i n L2 W (y::Y) x (k-1) (by simpa using hn) hi (by simp at hk;omega) (by simp at hl ⊢;omega)
  have hk2:k-1=((W++L2).length:Int):=by simp at hk ⊢;omega
  have hs:=zvS (W++L2) y x Y hk2
  have e1:=J1 (W++L2) y (x::Y) hk2
  have e2:=J1 (W++L2++[y]) x Y (k:=k-1+1) (by simp at hk2 ⊢;omega)
  rw[show W++x::L2++y::Y=W++x::(L2++[y])++Y by simp] at ih
  rw[←ih]
  rw[show W++L2++[y]++x::Y=W++L2++y::x::Y by simp] at e2
  have hll:(W++(L2++[y])++x::Y).length=W.length+L2.length+2+Y.length:=by simp;omega
  have b3:k=W.length+L2.length+1:=by simp at hk;omega
  rw[show W++(L2++[y])++x::Y=W++L2++y::x::Y by simp] at *
  generalize W++L2++y::x::Y=zs at *
  generalize W++L2++x::y::Y=z2 at *
  rw[show k-1+1=k by omega] at *
  have f1:=gB e1
  have f2:=gB e2
  have f3:=dL zs k.toNat
  have f4:=dL (zs.set k.toNat y) (k-1).toNat
  have f5:=gB (zs:=zs.set k.toNat y) (j:=(k-1).toNat) (y:=y) (by rw[List.getElem?_set,if_neg (by omega)];exact e1)
  conv=>lhs;unfold loopW;arg 1;unfold dA
  simp -implicitDefEqProofs (disch:=first|assumption|omega) only[go_sem,simprocAttr,show i<k by omega,f1,f2,f3,f4,f5,hs,hd,show ¬0=fr by omega,List.length_set]
theorem zJI{F:Int→Int}{V:Int→Prop}(hS:vN H0 kd)(hC:Cmp H0 kd kf fc F V)(fr:Nat)(h1:1≤fr)(a b i:Int):∀(n:Nat) (S1 W Y:List Int) (x k:Int),S1.length=n→a=W.length→k=W.length+S1.length→(W++S1++x::Y).length≤250→(∀z∈W++S1++x::Y,V z) →
  ∃A B,S1=A++B∧(∀y∈B,F x<F y)∧(A=[]∨∃A' y,A=A'++[y]∧F y≤F x) ∧
  loopW tab [0,1,2,3,8,9] bZ {env:=upd (upd (upd (upd (upd (upd emp 9 (some (I k))) 8 (some (I i))) 3 (some (cl fc kf))) 2 (some (I b))) 1 (some (I a))) 0 (some (.ref (0,kd) [])),heap:=sH H0 kd (W++S1++x::Y),fr:=fr,next:=0} =
  some (.ext 2,{env:=upd (upd (upd (upd (upd emp 8 (some (I i))) 3 (some (cl fc kf))) 2 (some (I b))) 1 (some (I a))) 0 (some (.ref (0,kd) [])),heap:=sH H0 kd (W++A++x::B++Y),fr:=fr,next:=0})
 |0,S1,W,Y,x,k,hn,ha,hk,hl,hV=>by
  have hd:=hS fr h1
  have e:S1=[]:=List.length_eq_zero_iff.1 hn
  subst e
  refine⟨[],[],rfl,by simp,Or.inl rfl,?_⟩
  have hll:(W++[]++x::Y).length=W.length+1+Y.length:=by simp;omega
  simp only[ln] at hk
  rw[show W++[]++x::([]:List Int)++Y=W++[]++x::Y by simp] at *
  generalize W++[]++x::Y=zs at *
  unfold loopW
  conv=>lhs;arg 1;unfold bZ
  simp -implicitDefEqProofs (disch:=first|assumption|omega) only[go_sem,simprocAttr,show k≤a by omega,hd,show ¬0=fr by omega]
 |n+1,S1,W,Y,x,k,hn,ha,hk,hl,hV=>by
  have hd:=hS fr h1
  obtain⟨L2,y,rfl⟩:∃L2 y,S1=L2++[y]:=by
   rcases List.eq_nil_or_concat S1 with e|⟨A,b,e⟩
   ·subst e;simp at hn
   ·exact⟨A,b,by simpa using e⟩
  have hll:(W++(L2++[y])++x::Y).length=W.length+L2.length+2+Y.length:=by simp;omega
  have hk2:k-1=((W++L2).length:Int):=by simp at hk ⊢;omega
  have e1:=J1 (W++L2) y (x::Y) hk2
  have e2:=J1 (W++L2++[y]) x Y (k:=k) (by simp at hk2 ⊢;omega)
  rw[show W++L2++[y]++x::Y=W++L2++y::x::Y by simp] at e2
  have b3:k=W.length+L2.length+1:=by simp at hk;omega
  have ez:W++(L2++[y])++x::Y=W++L2++y::x::Y:=by simp
  have g:=hC (W++L2++y::x::Y) (fr+1) x y (by omega) (hV x (by simp)) (hV y (by simp))
  by_cases hp:F x<F y
  ·obtain⟨A,B,q1,q2,q3,q4⟩:=zJI hS hC fr h1 a b i n L2 W (y::Y) x (k-1) (by simpa using hn) ha (by omega) (by simp at hl ⊢;omega) (fun z hz=>hV z (by simp at hz ⊢;rcases hz with h|h|h|h|h<;>simp[h]))
   refine⟨A,B++[y],by rw[q1,zqc],fun z hz=> ?_,q3,?_⟩
   ·rcases List.mem_append.1 hz with h|h
    ·exact q2 z h
    ·rw[List.mem_singleton.1 h];exact hp
   ·have hs:=zvS (W++L2) y x Y hk2
    rw[show W++A++x::B++y::Y=W++A++x::(B++[y])++Y by simp] at q4
    rw[←q4,ez]
    rw[ez] at hl hll
    generalize W++L2++y::x::Y=zs at *
    generalize W++L2++x::y::Y=z2 at *
    rw[show k-1+1=k by omega] at *
    have f1:=gB e1
    have f2:=gB e2
    have f3:=dL zs k.toNat
    have f4:=dL (zs.set k.toNat y) (k-1).toNat
    have f5:=gB (zs:=zs.set k.toNat y) (j:=(k-1).toNat) (y:=y) (by rw[List.getElem?_set,if_neg (by omega)];exact e1)
    conv=>lhs;unfold loopW;arg 1;unfold bZ
    simp -implicitDefEqProofs (disch:=first|assumption|omega) only[go_sem,simprocAttr,show a<k by omega,show F x-F y<0 by omega,g,f1,f2,f3,f4,f5,hs,hd,show ¬0=fr by omega,List.length_set]
  ·refine⟨L2++[y],[],by simp,by simp,Or.inr ⟨L2,y,rfl,by omega⟩,?_⟩
   rw[show W++(L2++[y])++x::([]:List Int)++Y=W++(L2++[y])++x::Y by simp,ez]
   rw[ez] at hl hll
   generalize W++L2++y::x::Y=zs at *
   have f1:=gB e1
   have f2:=gB e2
   unfold loopW
   conv=>lhs;arg 1;unfold bZ
   simp -implicitDefEqProofs (disch:=first|assumption|omega) only[go_sem,simprocAttr,show a<k by omega,show ¬F x-F y<0 by omega,g,f1,f2,hd,show ¬0=fr by omega]
theorem Mg.ins{F:Int→Int}{T A B:List Int}{x:Int}(h:Mg F T (A++B))(hx:∀y∈T,y<x)(hB:∀y∈B,F x<F y)(hA:A=[]∨∃A' y,A=A'++[y]∧F y≤F x):Mg F (T++[x]) (A++x::B):=by
 have hx':∀y∈A++B,y<x:=fun y hy=>hx y (h.perm.subset hy)
 have hA':∀y∈A,F y≤F x:=fun y hy=>by
  rcases hA with e|⟨A',z,e,hz⟩
  ·rw[e] at hy;simp at hy
  ·have hp:=(List.pairwise_append.1 h.pw).1
   rw[e] at hp hy
   rcases List.mem_append.1 hy with h1|h1
   ·have:=zQg ((List.pairwise_append.1 hp).2.2 y h1 z (by simp))
    omega
   ·rw[List.mem_singleton.1 h1];exact hz
 have:=Mg.right h.pw hx' hA' hB
 exact⟨this.perm.trans (List.Perm.append_right _ h.perm),this.pw⟩
theorem zQB{F:Int→Int}{V:Int→Prop}(hS:vN H0 kd)(hC:Cmp H0 kd kf fc F V)(fr:Nat)(h1:1≤fr)(a b:Int):∀(R T M W Y:List Int) (i:Int),Mg F T M→(T++R).Pairwise (· < ·)→a=W.length→i=W.length+M.length→b=W.length+M.length+R.length→(W++M++R++Y).length≤250→(∀z∈W++M++R++Y,V z) →
  ∃M',Mg F (T++R) M' ∧
  loopW tab [0,1,2,3,8] bP {env:=upd (upd (upd (upd (upd emp 8 (some (I i))) 3 (some (cl fc kf))) 2 (some (I b))) 1 (some (I a))) 0 (some (.ref (0,kd) [])),heap:=sH H0 kd (W++M++R++Y),fr:=fr,next:=0} =
  some (.ext 0,{env:=emp,heap:=sH H0 kd (W++M'++Y),fr:=fr,next:=0})
 |[],T,M,W,Y,i,hM,hT,ha,hi,hb,hl,hV=>by
  have hd:=hS fr h1
  refine⟨M,by simpa using hM,?_⟩
  simp only[ln] at hb
  rw[zqe] at *
  generalize W++M++Y=zs at *
  unfold loopW
  conv=>lhs;arg 1;unfold bP
  simp -implicitDefEqProofs (disch:=first|assumption|omega) only[go_sem,simprocAttr,show b≤i by omega,hd,show ¬0=fr by omega]
 |x::R,T,M,W,Y,i,hM,hT,ha,hi,hb,hl,hV=>by
  have hd:=hS fr h1
  have hll:(W++M++x::R++Y).length=W.length+M.length+1+R.length+Y.length:=by simp;omega
  have ez:W++M++x::R++Y=W++M++x::(R++Y):=by simp
  rw[ez] at hl hV hll
  obtain⟨A,B,q1,q2,q3,q4⟩:=zJI hS hC fr h1 a b i M.length M W (R++Y) x i rfl ha hi hl hV
  have hm:Mg F (T++[x]) (A++x::B):=by
   rw[q1] at hM
   exact hM.ins (fun y hy=>(List.pairwise_append.1 hT).2.2 y hy x (by simp)) q2 q3
  have hlen:(A++x::B).length=M.length+1:=by rw[q1];simp;omega
  have hV':∀z∈W++(A++x::B)++R++Y,V z:=fun z hz=>hV z (by rw[q1];simp at hz ⊢;rcases hz with h|h|h|h|h|h<;>simp[h])
  obtain⟨M',p1,p2⟩:=zQB hS hC fr h1 a b R (T++[x]) (A++x::B) W Y (i+1) hm (by simpa using hT) ha (by omega) (by simp only[lc] at hb;omega) (by simp only[la,lc] at hl hlen ⊢;omega) hV'
  refine⟨M',by simpa using p1,?_⟩
  rw[←p2,ez]
  rw[show W++A++x::B++(R++Y)=W++(A++x::B)++R++Y by simp] at q4
  generalize W++M++x::(R++Y)=z1 at *
  generalize W++(A++x::B)++R++Y=z2 at *
  have b1:i<b:=by simp only[lc] at hb;omega
  conv=>lhs;unfold loopW;arg 1;unfold bP
  simp -implicitDefEqProofs (disch:=first|assumption|omega) only[go_sem,simprocAttr,b1,q4,hd,show ¬0=fr by omega]
theorem zQf{F:Int→Int}{V:Int→Prop}(hS:vN H0 kd)(hC:Cmp H0 kd kf fc F V)(fr:Nat)(h1:1≤fr)(a b:Int)(T W Y:List Int)(hT:T.Pairwise (· < ·))(ha:a=W.length)(hb:b=W.length+T.length)(hl:(W++T++Y).length≤250)(hV:∀z∈W++T++Y,V z) :
  ∃M,Mg F T M∧evCW tab cY [.ref (0,kd) [],I a,I b,cl fc kf] (sH H0 kd (W++T++Y)) fr=some (.tup [],sH H0 kd (W++M++Y)):=by
 have hd:=hS fr h1
 have hll:(W++T++Y).length=W.length+T.length+Y.length:=by simp;omega
 cases T with
 |nil =>
  refine⟨[],⟨List.Perm.refl _,List.Pairwise.nil⟩,?_⟩
  rw[aR gM _ _ _ rfl,dV]
  simp only[ln] at hb
  generalize W++[]++Y=zs at *
  have e:loopW tab [0,1,2,3,8] bP {env:=upd (upd (upd (upd (upd emp 8 (some (I (a+1)))) 3 (some (cl fc kf))) 2 (some (I b))) 1 (some (I a))) 0 (some (.ref (0,kd) [])),heap:=sH H0 kd zs,fr:=fr,next:=0}=some (.ext 0,{env:=emp,heap:=sH H0 kd zs,fr:=fr,next:=0}):=by
   unfold loopW
   conv=>lhs;arg 1;unfold bP
   simp -implicitDefEqProofs (disch:=first|assumption|omega) only[go_sem,simprocAttr,show b≤a+1 by omega,hd,show ¬0=fr by omega]
  simp -implicitDefEqProofs (disch:=first|assumption|omega) only[go_sem,simprocAttr,e,hd,show ¬0=fr by omega]
 |cons x T =>
  have hm:Mg F [x] [x]:=⟨List.Perm.refl _,by simp⟩
  rw[show W++x::T++Y=W++[x]++T++Y by simp] at *
  obtain⟨M,p1,p2⟩:=zQB hS hC fr h1 a b T [x] [x] W Y (a+1) hm (by simpa using hT) ha (by simp;omega) (by simp at hb ⊢;omega) hl hV
  refine⟨M,by simpa using p1,?_⟩
  rw[aR gM _ _ _ rfl,dV]
  generalize W++[x]++T++Y=zs at *
  simp -implicitDefEqProofs (disch:=first|assumption|omega) only[go_sem,simprocAttr,p2,hd,show ¬0=fr by omega]
set_option maxRecDepth 8000
set_option maxHeartbeats 8000000
variable{H0:Heap}{kd kf fc:Nat}
theorem zvW{F:Int→Int}{A:List Int}(h:A.Pairwise (ltK F)):Mg F A A:=⟨List.Perm.refl _,h⟩
theorem H5{W L Y:List Int}{k:Int}(h0:(W.length:Int)≤k)(h:k<W.length+L.length):aC (W++L++Y) k=(L[(k-W.length).toNat]?).getD 0:=by
 unfold aC
 rw[zqc,List.getElem?_append_right (by omega),List.getElem?_append_left (by omega),show k.toNat-W.length=(k-W.length).toNat by omega]
theorem zJk{F:Int→Int}{V:Int→Prop}(hS:vN H0 kd)(hC:Cmp H0 kd kf fc F V)(fr:Nat)(h1:1≤fr)(x:Int)(R W Y:List Int)(hR:R.Pairwise (ltK F))(hc:∀y∈R,x<y)(hR0:0<R.length)(hl:(W++x::R++Y).length≤250)(hV:∀z∈W++x::R++Y,V z) :
  ∃M,Mg F (x::R) M∧evCW tab bC [.ref (0,kd) [],I (W.length:Int),I ((W.length:Int)+1),I ((W.length:Int)+1+R.length),cl fc kf] (sH H0 kd (W++x::R++Y)) fr=some (.tup [],sH H0 kd (W++M++Y)):=by
 have hd:=hS fr h1
 have hll:(W++x::R++Y).length=W.length+1+R.length+Y.length:=by simp;omega
 have ez:W++x::R++Y=(W++[x])++R++Y:=by simp
 have hx:aC (W++x::R++Y) W.length=x:=by
  unfold aC
  rw[zqc,List.getElem?_append_right (by simp)]
  simp
 have hget:∀k:Int,(W.length:Int)+1≤k→k<W.length+1+R.length→aC (W++x::R++Y) k=(R[(k-W.length-1).toNat]?).getD 0:=fun k b1 b2=>by
  rw[ez,H5 (by simp;omega) (by simp;omega)]
  congr 2
  simp;omega
 have hb:=Pc (fun k=>decide (F (aC (W++x::R++Y) k)<F (aC (W++x::R++Y) W.length))) R.length ((W.length:Int)+1) ((W.length:Int)+1+R.length) (by omega) (by omega) (fun k k' b1 b2 b3 b4=>by
  rw[hx] at *
  rw[hget k b1 (by omega)]
  rw[hget k' (by omega) b3] at b4
  simp only[zqd] at b4 ⊢
  have g1:=List.getElem?_eq_getElem (l:=R) (i:=(k-W.length-1).toNat) (by omega)
  have g2:=List.getElem?_eq_getElem (l:=R) (i:=(k'-W.length-1).toNat) (by omega)
  have:=qL hR (by omega) g1 g2
  rw[g1]
  rw[g2] at b4
  simp only[Option.getD_some] at b4 ⊢
  omega)
 have g1:=zjP hS hC fr h1 (W++x::R++Y) hV hl W.length (by omega) (by omega) R.length ((W.length:Int)+1) ((W.length:Int)+1+R.length) (by omega) (by omega) (by omega) (by omega)
 rw[hx] at hb g1
 generalize bsr (fun k=>decide (F (aC (W++x::R++Y) k)<F x)) R.length ((W.length:Int)+1) ((W.length:Int)+1+R.length)=st at *
 obtain⟨b1,b2,b3,b4⟩:=hb
 have hsp:=List.take_append_drop (st-W.length-1).toNat R
 have hl1:(R.take (st-W.length-1).toNat).length=(st-W.length-1).toNat:=by rw[List.length_take];omega
 have hlo:∀y∈R.take (st-W.length-1).toNat,F y<F x:=fun y hy=>by
  obtain⟨k,hk,rfl⟩:=List.getElem_of_mem hy
  rw[List.length_take] at hk
  rw[List.getElem_take]
  have:=b3 ((W.length:Int)+1+k) (by omega) (by omega)
  rw[hget _ (by omega) (by omega),show((W.length:Int)+1+k-W.length-1).toNat=k by omega,List.getElem?_eq_getElem (by omega)] at this
  simpa using this
 have hhi:∀y∈R.drop (st-W.length-1).toNat,F x≤F y:=fun y hy=>by
  obtain⟨k,hk,rfl⟩:=List.getElem_of_mem hy
  rw[List.length_drop] at hk
  rw[List.getElem_drop]
  have:=b4 (st+k) (by omega) (by omega)
  rw[hget _ (by omega) (by omega),show(st+k-W.length-1).toNat=(st-W.length-1).toNat+k by omega,List.getElem?_eq_getElem (by omega)] at this
  simpa using this
 generalize R.take (st-W.length-1).toNat=R1 at *
 generalize R.drop (st-W.length-1).toNat=R2 at *
 subst hsp
 have hm:=Mg.left hR hc hlo hhi
 refine⟨R1++x::R2,hm,?_⟩
 have g2:=zVY hS fr h1 st R1 W (R2++Y) x W.length rfl (by omega) (by simp at hl ⊢;omega)
 rw[show W++x::R1++(R2++Y)=W++x::(R1++R2)++Y by simp,show W++R1++x::(R2++Y)=W++(R1++x::R2)++Y by simp] at g2
 rw[aR eY _ _ _ rfl,dQ]
 have c1:(0:Int)≤W.length:=by omega
 have c2:(W.length:Int)+1+(R1++R2).length≤250:=by omega
 have c3:(0:Int)<(R1++R2).length:=by omega
 generalize W++x::(R1++R2)++Y=z1 at *
 generalize W++(R1++x::R2)++Y=z2 at *
 generalize ((R1++R2).length:Int)=rl at *
 generalize (W.length:Int)=w at *
 simp -implicitDefEqProofs (disch:=first|assumption|omega) only[go_sem,simprocAttr,g1,g2,hd,show ¬0=fr by omega,show w+1-w=1 by omega]
theorem zxV{F:Int→Int}{V:Int→Prop}(hS:vN H0 kd)(hC:Cmp H0 kd kf fc F V)(fr:Nat)(h1:1≤fr)(y:Int)(L W Y:List Int)(hL:L.Pairwise (ltK F))(hc:∀x∈L,x<y)(hL0:1<L.length)(hl:(W++L++y::Y).length≤250)(hV:∀z∈W++L++y::Y,V z) :
  ∃M,Mg F (L++[y]) M∧evCW tab bC [.ref (0,kd) [],I (W.length:Int),I ((W.length:Int)+L.length),I ((W.length:Int)+L.length+1),cl fc kf] (sH H0 kd (W++L++y::Y)) fr=some (.tup [],sH H0 kd (W++M++Y)):=by
 have hd:=hS fr h1
 have hll:(W++L++y::Y).length=W.length+L.length+1+Y.length:=by simp;omega
 have hx:aC (W++L++y::Y) (W.length+L.length)=y:=by
  unfold aC
  rw[List.getElem?_append_right (by simp;omega)]
  rw[show((W.length:Int)+L.length).toNat-(W++L).length=0 by rw[la];omega]
  simp
 have hget:∀k:Int,(W.length:Int)≤k→k<W.length+L.length→aC (W++L++y::Y) k=(L[(k-W.length).toNat]?).getD 0:=fun k b1 b2=>H5 b1 b2
 have hb:=Pc (fun k=> !decide (F (aC (W++L++y::Y) ((W.length:Int)+L.length))<F (aC (W++L++y::Y) k))) L.length (W.length:Int) ((W.length:Int)+L.length) (by omega) (by omega) (fun k k' b1 b2 b3 b4=>by
  rw[hx] at *
  rw[hget k b1 (by omega)]
  rw[hget k' (by omega) b3] at b4
  simp only[Bool.not_eq_true',decide_eq_false_iff_not] at b4 ⊢
  have g1:=List.getElem?_eq_getElem (l:=L) (i:=(k-W.length).toNat) (by omega)
  have g2:=List.getElem?_eq_getElem (l:=L) (i:=(k'-W.length).toNat) (by omega)
  have:=qL hL (by omega) g1 g2
  rw[g1]
  rw[g2] at b4
  simp only[Option.getD_some] at b4 ⊢
  omega)
 have g1:=zjG hS hC fr h1 (W++L++y::Y) hV hl ((W.length:Int)+L.length) (by omega) (by omega) L.length (W.length:Int) ((W.length:Int)+L.length) (by omega) (by omega) (by omega) (by omega)
 rw[hx] at hb g1
 generalize bsr (fun k=> !decide (F y<F (aC (W++L++y::Y) k))) L.length (W.length:Int) ((W.length:Int)+L.length)=st at *
 obtain⟨b1,b2,b3,b4⟩:=hb
 have hsp:=List.take_append_drop (st-W.length).toNat L
 have hl1:(L.take (st-W.length).toNat).length=(st-W.length).toNat:=by rw[List.length_take];omega
 have hlo:∀x∈L.take (st-W.length).toNat,F x≤F y:=fun x hx=>by
  obtain⟨k,hk,rfl⟩:=List.getElem_of_mem hx
  rw[List.length_take] at hk
  rw[List.getElem_take]
  have:=b3 ((W.length:Int)+k) (by omega) (by omega)
  rw[hget _ (by omega) (by omega),show((W.length:Int)+k-W.length).toNat=k by omega,List.getElem?_eq_getElem (by omega)] at this
  simpa using this
 have hhi:∀x∈L.drop (st-W.length).toNat,F y<F x:=fun x hx=>by
  obtain⟨k,hk,rfl⟩:=List.getElem_of_mem hx
  rw[List.length_drop] at hk
  rw[List.getElem_drop]
  have:=b4 (st+k) (by omega) (by omega)
  rw[hget _ (by omega) (by omega),show(st+k-W.length).toNat=(st-W.length).toNat+k by omega,List.getElem?_eq_getElem (by omega)] at this
  simpa using this
 generalize L.take (st-W.length).toNat=L1 at *
 generalize L.drop (st-W.length).toNat=L2 at *
 subst hsp
 have hm:=Mg.right hL hc hlo hhi
 refine⟨L1++y::L2,hm,?_⟩
 have g2:=zZ4 hS fr h1 st L2.length L2 (W++L1) Y y ((W.length:Int)+(L1++L2).length) rfl (by simp;omega) (by simp;omega) (by simp at hl ⊢;omega)
 rw[show W++L1++L2++y::Y=W++(L1++L2)++y::Y by simp,show W++L1++y::L2++Y=W++(L1++y::L2)++Y by simp] at g2
 rw[aR eY _ _ _ rfl,dQ]
 have c1:(0:Int)≤W.length:=by omega
 have c2:(W.length:Int)+(L1++L2).length≤250:=by omega
 have c3:(1:Int)<(L1++L2).length:=by omega
 generalize W++(L1++L2)++y::Y=z1 at *
 generalize W++(L1++y::L2)++Y=z2 at *
 generalize ((L1++L2).length:Int)=rl at *
 generalize (W.length:Int)=w at *
 simp -implicitDefEqProofs (disch:=first|assumption|omega) only[go_sem,simprocAttr,g1,g2,hd,show ¬0=fr by omega,show w+rl-w=rl by omega,show ¬rl=1 by omega,show w+rl+1-(w+rl)=1 by omega]
set_option maxRecDepth 8000
set_option maxHeartbeats 8000000
variable{H0:Heap}{kd kf fc:Nat}
theorem zWn(fr:Nat)(h1:1≤fr)(hd:∀x,cC fr (upd H0 (0,kd) x)=upd H0 (0,kd) x)(z1 z2 z3 z4:List Int)(w ll rl md st s0 r0:Int)
  (hw0:0≤w) (hl1:1<ll) (hr1:1<rl) (hb:w+ll+rl≤250) (hmd:(w+(w+ll+rl)) / 2=md)
  (hs0:s0=if md<w+ll then md+(w+ll)-(w+ll+rl) else w) (hr0:r0=if md<w+ll then md else w+ll)
  (k1:w≤st) (k2:st≤w+ll) (k3:st≤md) (k4:md-st≤rl)
  (g0:loopW tab [0,1,2,3,4,18,19,20,21,22] bV {env:=upd (upd (upd (upd (upd (upd (upd (upd (upd (upd emp 22 (some (I (md+(w+ll)-1)))) 21 (some (I r0))) 20 (some (I s0))) 19 (some (I (md+(w+ll))))) 18 (some (I md))) 4 (some (cl fc kf))) 3 (some (I (w+ll+rl)))) 2 (some (I (w+ll)))) 1 (some (I w))) 0 (some (.ref (0,kd) [])),heap:=sH H0 kd z1,fr:=fr,next:=0} =
  some (.ext 8,{env:=upd (upd (upd (upd (upd (upd (upd (upd emp 20 (some (I st))) 19 (some (I (md+(w+ll))))) 18 (some (I md))) 4 (some (cl fc kf))) 3 (some (I (w+ll+rl)))) 2 (some (I (w+ll)))) 1 (some (I w))) 0 (some (.ref (0,kd) [])),heap:=sH H0 kd z1,fr:=fr,next:=0}))
  (q1:st<w+ll→w+ll<md+(w+ll)-st→evCW tab dN [.ref (0,kd) [],I st,I (w+ll),I (md+(w+ll)-st),cl fc kf] (sH H0 kd z1) (fr+1)=some (.tup [],sH H0 kd z2))
  (q1':¬(st<w+ll∧st<md)→z1=z2)
  (q2:w<st→st<md→evCW tab bC [.ref (0,kd) [],I w,I st,I md,cl fc kf] (sH H0 kd z2) (fr+1)=some (.tup [],sH H0 kd z3))
  (q2':¬(w<st∧st<md)→z2=z3)
  (q3:md<md+(w+ll)-st→md+(w+ll)-st<w+ll+rl→evCW tab bC [.ref (0,kd) [],I md,I (md+(w+ll)-st),I (w+ll+rl),cl fc kf] (sH H0 kd z3) (fr+1)=some (.tup [],sH H0 kd z4))
  (q3':¬(st<w+ll∧md+(w+ll)-st<w+ll+rl)→z3=z4) :
  evCW tab bC [.ref (0,kd) [],I w,I (w+ll),I (w+ll+rl),cl fc kf] (sH H0 kd z1) fr=some (.tup [],sH H0 kd z4):=by
 have w1:=Wk (n:=w+(w+ll+rl)) (by omega) (by omega)
 have w2:=V6 (n:=w+(w+ll+rl)) (by omega)
 rw[hmd] at w2
 have w3:IntKind.i64.wrap md=md:=Iq ⟨by omega,by omega⟩
 have e4:¬w+ll-w=1:=by omega
 have e5:¬w+ll+rl-(w+ll)=1:=by omega
 have e6:md≤250∧0≤md:=by omega
 rw[aR eY _ _ _ rfl,dQ]
 by_cases hA:md<w+ll
 ·rw[if_pos hA] at hs0 hr0
  subst s0 r0
  by_cases hp:st<w+ll<;>by_cases hq:st<md<;>by_cases hr:w<st<;>by_cases hs:md+(w+ll)-st<w+ll+rl<;>try(exfalso;omega)
  ·
   have p1:w+ll<md+(w+ll)-st:=by omega
   have p2:md<md+(w+ll)-st:=by omega
   have p3:md+(w+ll)-st<w+ll+rl:=by omega
   simp -implicitDefEqProofs (disch:=first|assumption|omega) only[go_sem,simprocAttr,g0,w1,w2,w3,hd,show ¬0=fr by omega,e4,e5,hA,hp,p1,hr,hq,p2,p3,q1 hp p1,q2 hr hq,q3 p2 p3]
  ·
   have p1:w+ll<md+(w+ll)-st:=by omega
   have p2:md<md+(w+ll)-st:=by omega
   have p3n:¬md+(w+ll)-st<w+ll+rl:=by omega
   have z:=q3' (by omega);subst z
   simp -implicitDefEqProofs (disch:=first|assumption|omega) only[go_sem,simprocAttr,g0,w1,w2,w3,hd,show ¬0=fr by omega,e4,e5,hA,hp,p1,hr,hq,p2,p3n,q1 hp p1,q2 hr hq]
  ·
   have p1:w+ll<md+(w+ll)-st:=by omega
   have p2:md<md+(w+ll)-st:=by omega
   have p3n:¬md+(w+ll)-st<w+ll+rl:=by omega
   have z:=q2' (by omega);subst z
   have z:=q3' (by omega);subst z
   simp -implicitDefEqProofs (disch:=first|assumption|omega) only[go_sem,simprocAttr,g0,w1,w2,w3,hd,show ¬0=fr by omega,e4,e5,hA,hp,p1,hr,p2,p3n,q1 hp p1]
  ·
   have p1n:¬w+ll<md+(w+ll)-st:=by omega
   have p2:md<md+(w+ll)-st:=by omega
   have p3:md+(w+ll)-st<w+ll+rl:=by omega
   have z:=q1' (by omega);subst z
   have z:=q2' (by omega);subst z
   simp -implicitDefEqProofs (disch:=first|assumption|omega) only[go_sem,simprocAttr,g0,w1,w2,w3,hd,show ¬0=fr by omega,e4,e5,hA,hp,p1n,hr,hq,p2,p3,q3 p2 p3]
 ·rw[if_neg hA] at hs0 hr0
  subst s0 r0
  by_cases hp:st<w+ll<;>by_cases hq:st<md<;>by_cases hr:w<st<;>by_cases hs:md+(w+ll)-st<w+ll+rl<;>try(exfalso;omega)
  ·
   have p1:w+ll<md+(w+ll)-st:=by omega
   have p2:md<md+(w+ll)-st:=by omega
   have p3:md+(w+ll)-st<w+ll+rl:=by omega
   simp -implicitDefEqProofs (disch:=first|assumption|omega) only[go_sem,simprocAttr,g0,w1,w2,w3,hd,show ¬0=fr by omega,e4,e5,hA,hp,p1,hr,hq,p2,p3,q1 hp p1,q2 hr hq,q3 p2 p3]
  ·
   have p1:w+ll<md+(w+ll)-st:=by omega
   have p2:md<md+(w+ll)-st:=by omega
   have p3:md+(w+ll)-st<w+ll+rl:=by omega
   have z:=q2' (by omega);subst z
   simp -implicitDefEqProofs (disch:=first|assumption|omega) only[go_sem,simprocAttr,g0,w1,w2,w3,hd,show ¬0=fr by omega,e4,e5,hA,hp,p1,hr,p2,p3,q1 hp p1,q3 p2 p3]
  ·
   have p1:w+ll<md+(w+ll)-st:=by omega
   have p2:md<md+(w+ll)-st:=by omega
   have p3n:¬md+(w+ll)-st<w+ll+rl:=by omega
   have z:=q2' (by omega);subst z
   have z:=q3' (by omega);subst z
   simp -implicitDefEqProofs (disch:=first|assumption|omega) only[go_sem,simprocAttr,g0,w1,w2,w3,hd,show ¬0=fr by omega,e4,e5,hA,hp,p1,hr,p2,p3n,q1 hp p1]
  ·
   have p2n:¬md<md+(w+ll)-st:=by omega
   have z:=q1' (by omega);subst z
   have z:=q3' (by omega);subst z
   simp -implicitDefEqProofs (disch:=first|assumption|omega) only[go_sem,simprocAttr,g0,w1,w2,w3,hd,show ¬0=fr by omega,e4,e5,hA,hp,hr,hq,p2n,q2 hr hq]
  ·
   have p2n:¬md<md+(w+ll)-st:=by omega
   have z:=q1' (by omega);subst z
   have z:=q2' (by omega);subst z
   have z:=q3' (by omega);subst z
   simp -implicitDefEqProofs (disch:=first|assumption|omega) only[go_sem,simprocAttr,g0,w1,w2,w3,hd,show ¬0=fr by omega,e4,e5,hA,hp,hr,hq,p2n]
set_option maxRecDepth 8000
set_option maxHeartbeats 8000000
variable{H0:Heap}{kd kf fc:Nat}
theorem u4{F:Int→Int}{V:Int→Prop}(hS:vN H0 kd)(hC:Cmp H0 kd kf fc F V):∀(N:Nat) (L R W Y:List Int) (fr:Nat),L.length+R.length≤N→1≤fr→0<L.length→0<R.length→L.Pairwise (ltK F)→R.Pairwise (ltK F)→zjd L R→(W++L++R++Y).length≤250→(∀z∈W++L++R++Y,V z) →
  ∃M,Mg F (L++R) M∧evCW tab bC [.ref (0,kd) [],I (W.length:Int),I ((W.length:Int)+L.length),I ((W.length:Int)+L.length+R.length),cl fc kf] (sH H0 kd (W++L++R++Y)) fr=some (.tup [],sH H0 kd (W++M++Y))
 |0,L,R,W,Y,fr,hN,h1,hL0,hR0,hL,hR,hc,hl,hV=>by omega
 |N+1,L,R,W,Y,fr,hN,h1,hL0,hR0,hL,hR,hc,hl,hV=>by
  have hd:=hS fr h1
  have hll:(W++L++R++Y).length=W.length+L.length+R.length+Y.length:=by simp;omega
  by_cases e1:L.length=1
  ·obtain⟨x,rfl⟩:=List.length_eq_one_iff.1 e1
   obtain⟨M,a1,a2⟩:=zJk hS hC fr h1 x R W Y hR (fun y hy=>hc x (by simp) y hy) hR0 (by simpa using hl) (by simpa using hV)
   refine⟨M,a1,?_⟩
   simpa using a2
  by_cases e2:R.length=1
  ·obtain⟨y,rfl⟩:=List.length_eq_one_iff.1 e2
   obtain⟨M,a1,a2⟩:=zxV hS hC fr h1 y L W Y hL (fun x hx=>hc x hx y (by simp)) (by omega) (by simpa using hl) (by simpa using hV)
   refine⟨M,a1,?_⟩
   simpa using a2
  have hmid:((W.length:Int)+((W.length:Int)+L.length+R.length)) / 2=((W.length:Int)+((W.length:Int)+L.length+R.length)) / 2:=rfl
  generalize hmd:((W.length:Int)+((W.length:Int)+L.length+R.length)) / 2=md at hmid
  have hs0:∃s0:Int,s0=if md<(W.length:Int)+L.length then md+((W.length:Int)+L.length)-((W.length:Int)+L.length+R.length) else W.length:=⟨_,rfl⟩
  obtain⟨s0,hs0⟩:=hs0
  have hr0:∃r0:Int,r0=if md<(W.length:Int)+L.length then md else(W.length:Int)+L.length:=⟨_,rfl⟩
  obtain⟨r0,hr0⟩:=hr0
  have hsr:(W.length:Int)≤s0∧s0≤r0∧r0≤W.length+L.length∧r0≤md∧md-s0≤R.length:=by
   by_cases h:md<(W.length:Int)+L.length
   ·rw[if_pos h] at hs0 hr0;omega
   ·rw[if_neg h] at hs0 hr0;omega
  have hgl:∀k:Int,(W.length:Int)≤k→k<W.length+L.length→aC (W++L++R++Y) k=(L[(k-W.length).toNat]?).getD 0:=fun k b1 b2=>by
   rw[List.append_assoc (W++L) R Y];exact H5 b1 b2
  have hgr:∀k:Int,(W.length:Int)+L.length≤k→k<W.length+L.length+R.length→aC (W++L++R++Y) k=(R[(k-W.length-L.length).toNat]?).getD 0:=fun k b1 b2=>by
   rw[H5 (by rw[la];omega) (by rw[la];omega)]
   congr 2
   rw[la];omega
  have hP:∀k,s0≤k→k<r0→(!decide (F (aC (W++L++R++Y) (md+((W.length:Int)+L.length)-1-k))<F (aC (W++L++R++Y) k)))=Wv F L R W.length md k:=fun k b1 b2=>by
   rw[hgl k (by omega) (by omega),hgr _ (by omega) (by omega),Wv,show(md+((W.length:Int)+L.length)-1-k-W.length-L.length).toNat=(md-1-k).toNat by omega]
  have hb:=Pc (fun k=> !decide (F (aC (W++L++R++Y) (md+((W.length:Int)+L.length)-1-k))<F (aC (W++L++R++Y) k))) (r0-s0).toNat s0 r0 (by omega) (by omega) (fun k k' b1 b2 b3 b4=>by
   rw[hP k' (by omega) b3] at b4
   rw[hP k b1 (by omega)]
   exact zwk hL hR (by omega) b2 (by omega) (by omega) (by omega) b4)
  have g0:=zqH hS hC fr h1 (W++L++R++Y) hV hl (W.length:Int) ((W.length:Int)+L.length) ((W.length:Int)+L.length+R.length) md (md+((W.length:Int)+L.length)) (md+((W.length:Int)+L.length)-1) (r0-s0).toNat s0 r0 (by omega) (by omega) (by omega) (by omega) (fun k b1 b2=>by omega) (by omega)
  obtain⟨b1,b2,b3,b4⟩:=hb
  generalize bsr (fun k=> !decide (F (aC (W++L++R++Y) (md+((W.length:Int)+L.length)-1-k))<F (aC (W++L++R++Y) k))) (r0-s0).toNat s0 r0=st at *
  obtain⟨hcut,k1,k2,k3,k4⟩:=zq1 (a:=W.length) (m:=(W.length:Int)+L.length) (b:=(W.length:Int)+L.length+R.length) (mid:=md) (st:=st) hL hR rfl rfl hmd.symm hL0 hR0 hs0 hr0 b1 b2 (fun k c1 c2=>by rw[←hP k c1 (by omega)];exact b3 k c1 c2) (fun k c1 c2=>by rw[←hP k (by omega) c2];exact b4 k c1 c2)
  have spL:=List.take_append_drop (st-W.length).toNat L
  have spR:=List.take_append_drop (md-st).toNat R
  have lL1:(L.take (st-W.length).toNat).length=(st-W.length).toNat:=by rw[List.length_take];omega
  have lL2:(L.drop (st-W.length).toNat).length=L.length-(st-W.length).toNat:=by rw[List.length_drop]
  have lR1:(R.take (md-st).toNat).length=(md-st).toNat:=by rw[List.length_take];omega
  have lR2:(R.drop (md-st).toNat).length=R.length-(md-st).toNat:=by rw[List.length_drop]
  have hmerge:=fun A B=>hcut.merge (A:=A) (B:=B) hL hR hc
  generalize L.take (st-W.length).toNat=L1 at *
  generalize L.drop (st-W.length).toNat=L2 at *
  generalize R.take (md-st).toNat=R1 at *
  generalize R.drop (md-st).toNat=R2 at *
  subst spL spR
  obtain⟨pL1,pL2,_⟩:=List.pairwise_append.1 hL
  obtain⟨pR1,pR2,_⟩:=List.pairwise_append.1 hR
  have hc1:zjd L1 R1:=fun x hx y hy=>hc x (List.mem_append_left _ hx) y (List.mem_append_left _ hy)
  have hc2:zjd L2 R2:=fun x hx y hy=>hc x (List.mem_append_right _ hx) y (List.mem_append_right _ hy)
  simp only[la] at *
  have q1:(st<(W.length:Int)+(L1.length+L2.length:Nat)→(W.length:Int)+(L1.length+L2.length:Nat)<md+((W.length:Int)+(L1.length+L2.length:Nat))-st →
    evCW tab dN [.ref (0,kd) [],I st,I ((W.length:Int)+(L1.length+L2.length:Nat)),I (md+((W.length:Int)+(L1.length+L2.length:Nat))-st),cl fc kf] (sH H0 kd (W++(L1++L2)++(R1++R2)++Y)) (fr+1)=some (.tup [],sH H0 kd (W++L1++R1++L2++R2++Y))):=fun c1 c2=>by
   have:=zxD (fc:=fc) (kf:=kf) hS (fr+1) (by omega) L2 R1 (W++L1) (R2++Y) (by omega) (by omega) (by simp only[la];omega)
   rw[show((W++L1).length:Int)=st by rw[la];omega,show st+(L2.length:Int)=(W.length:Int)+(L1.length+L2.length:Nat) by omega,show(W.length:Int)+(L1.length+L2.length:Nat)+(R1.length:Int)=md+((W.length:Int)+(L1.length+L2.length:Nat))-st by omega] at this
   simpa only[zqc] using this
  have q1':¬(st<(W.length:Int)+(L1.length+L2.length:Nat)∧(W.length:Int)+(L1.length+L2.length:Nat)<md+((W.length:Int)+(L1.length+L2.length:Nat))-st)→W++(L1++L2)++(R1++R2)++Y=W++L1++R1++L2++R2++Y:=fun c=>by
   by_cases h:L2.length=0
   ·rw[List.length_eq_zero_iff.1 h];simp
   ·rw[List.length_eq_zero_iff.1 (show R1.length=0 by omega)];simp
  obtain⟨M1,m1,q2,q2'⟩:∃M1,Mg F (L1++R1) M1∧((W.length:Int)<st→st<md→evCW tab bC [.ref (0,kd) [],I (W.length:Int),I st,I md,cl fc kf] (sH H0 kd (W++L1++R1++L2++R2++Y)) (fr+1)=some (.tup [],sH H0 kd (W++M1++L2++R2++Y)))∧(¬((W.length:Int)<st∧st<md)→W++L1++R1++L2++R2++Y=W++M1++L2++R2++Y):=by
   by_cases h:(W.length:Int)<st∧st<md
   ·obtain⟨M,a1,a2⟩:=u4 hS hC N L1 R1 W (L2++R2++Y) (fr+1) (by omega) (by omega) (by omega) (by omega) pL1 pR1 hc1 (by simp only[la];omega) (fun z hz=>hV z (by simp only[List.mem_append] at hz ⊢;rcases hz with ((h|h)|h)|((h|h)|h)<;>simp[h]))
    rw[show(W.length:Int)+(L1.length:Int)=st by omega,show st+(R1.length:Int)=md by omega] at a2
    exact⟨M,a1,fun _ _=>by simpa only[zqc] using a2,fun hn=>absurd h hn⟩
   ·refine⟨L1++R1,zvW ?_,fun c1 c2=>absurd ⟨c1,c2⟩ h,fun _=>by simp⟩
    by_cases h2:L1.length=0
    ·rw[List.length_eq_zero_iff.1 h2];simpa using pR1
    ·rw[List.length_eq_zero_iff.1 (show R1.length=0 by omega)];simpa using pL1
  have lM1:=m1.perm.length_eq
  rw[la] at lM1
  obtain⟨M2,m2,q3,q3'⟩:∃M2,Mg F (L2++R2) M2∧(md<md+((W.length:Int)+(L1.length+L2.length:Nat))-st→md+((W.length:Int)+(L1.length+L2.length:Nat))-st<(W.length:Int)+(L1.length+L2.length:Nat)+(R1.length+R2.length:Nat)→evCW tab bC [.ref (0,kd) [],I md,I (md+((W.length:Int)+(L1.length+L2.length:Nat))-st),I ((W.length:Int)+(L1.length+L2.length:Nat)+(R1.length+R2.length:Nat)),cl fc kf] (sH H0 kd (W++M1++L2++R2++Y)) (fr+1)=some (.tup [],sH H0 kd (W++(M1++M2)++Y)))∧(¬(md<md+((W.length:Int)+(L1.length+L2.length:Nat))-st∧md+((W.length:Int)+(L1.length+L2.length:Nat))-st<(W.length:Int)+(L1.length+L2.length:Nat)+(R1.length+R2.length:Nat))→W++M1++L2++R2++Y=W++(M1++M2)++Y):=by
   by_cases h:md<md+((W.length:Int)+(L1.length+L2.length:Nat))-st∧md+((W.length:Int)+(L1.length+L2.length:Nat))-st<(W.length:Int)+(L1.length+L2.length:Nat)+(R1.length+R2.length:Nat)
   ·obtain⟨M,a1,a2⟩:=u4 hS hC N L2 R2 (W++M1) Y (fr+1) (by omega) (by omega) (by omega) (by omega) pL2 pR2 hc2 (by simp only[la];omega) (fun z hz=>hV z (by
     simp only[List.mem_append] at hz ⊢
     rcases hz with (((h|h)|h)|h)|h
     ·simp[h]
     ·rcases List.mem_append.1 (m1.perm.subset h) with h|h<;>simp[h]
     ·simp[h]
     ·simp[h]
     ·simp[h]))
    rw[show((W++M1).length:Int)=md by rw[la];omega,show md+(L2.length:Int)=md+((W.length:Int)+(L1.length+L2.length:Nat))-st by omega,show md+((W.length:Int)+(L1.length+L2.length:Nat))-st+(R2.length:Int)=(W.length:Int)+(L1.length+L2.length:Nat)+(R1.length+R2.length:Nat) by omega] at a2
    exact⟨M,a1,fun _ _=>by simpa only[zqc] using a2,fun hn=>absurd h hn⟩
   ·refine⟨L2++R2,zvW ?_,fun c1 c2=>absurd ⟨c1,c2⟩ h,fun _=>by simp⟩
    by_cases h2:L2.length=0
    ·rw[List.length_eq_zero_iff.1 h2];simpa using pR2
    ·rw[List.length_eq_zero_iff.1 (show R2.length=0 by omega)];simpa using pL2
  refine⟨M1++M2,hmerge M1 M2 m1 m2,?_⟩
  have c1:(0:Int)≤W.length:=by omega
  have c2:(W.length:Int)+(L1.length+L2.length:Nat)+(R1.length+R2.length:Nat)≤250:=by omega
  have c3:(1:Int)<(L1.length+L2.length:Nat):=by omega
  have c4:(1:Int)<(R1.length+R2.length:Nat):=by omega
  clear hmerge hcut hgl hgr hP b3 b4 hll hV hC hS m1 m2 hc hc1 hc2 pL1 pL2 pR1 pR2 hL hR
  generalize W++(L1++L2)++(R1++R2)++Y=z1 at *
  generalize W++L1++R1++L2++R2++Y=z2 at *
  generalize W++M1++L2++R2++Y=z3 at *
  generalize W++(M1++M2)++Y=z4 at *
  exact zWn fr h1 hd z1 z2 z3 z4 W.length (L1.length+L2.length:Nat) (R1.length+R2.length:Nat) md st s0 r0 c1 c3 c4 c2 hmd hs0 hr0 k1 k2 k3 (by omega) g0 q1 (fun hn=>q1' (by omega)) q2 q2' q3 (fun hn=>q3' (by omega))
set_option maxRecDepth 8000
set_option maxHeartbeats 8000000
variable{H0:Heap}{kd kf fc:Nat}
inductive Blk (F:Int→Int) (bs:Nat):List Int→List Int→Prop
 |last {T M:List Int}:T.length≤bs→Mg F T M→Blk F bs T M
 |cons {P A T M:List Int}:P.length=bs→Mg F P A→Blk F bs T M→Blk F bs (P++T) (A++M)
theorem Mg.len{F:Int→Int}{T M:List Int}(h:Mg F T M):M.length=T.length:=h.perm.length_eq
theorem Blk.perm{F:Int→Int}{bs:Nat}{T M:List Int}(h:Blk F bs T M):M.Perm T:=by
 induction h with
 |last _ h=>exact h.perm
 |cons _ h _ ih=>exact h.perm.append ih
theorem Blk.len{F:Int→Int}{bs:Nat}{T M:List Int}(h:Blk F bs T M):M.length=T.length:=h.perm.length_eq
theorem Blk.short{F:Int→Int}{bs:Nat}(hb:0<bs){T M:List Int}(h:Blk F bs T M)(hl:T.length≤bs):Mg F T M:=by
 cases h with
 |last _ h=>exact h
 | @cons P A T M h1 h2 h3 =>
  rw[la] at hl
  have e:T=[]:=List.length_eq_zero_iff.1 (by omega)
  have e2:M=[]:=List.length_eq_zero_iff.1 (by rw[h3.len,e];rfl)
  subst e e2
  simpa using h2
theorem Blk.split{F:Int→Int}{bs:Nat}{T M:List Int}(h:Blk F bs T M)(hl:bs<T.length):∃P A T' M',T=P++T'∧M=A++M'∧P.length=bs∧Mg F P A∧Blk F bs T' M':=by
 cases h with
 |last h1 h=>omega
 |cons h1 h2 h3=>exact⟨_,_,_,_,rfl,rfl,h1,h2,h3⟩
theorem U3{P T A M:List Int}(hT:(P++T).Pairwise (· < ·))(hA:A.Perm P)(hM:M.Perm T):zjd A M:=fun x hx y hy =>
 (List.pairwise_append.1 hT).2.2 x (hA.subset hx) y (hM.subset hy)
theorem Uo{F:Int→Int}{V:Int→Prop}(hS:vN H0 kd)(hC:Cmp H0 kd kf fc F V)(fr:Nat)(h1:1≤fr):∀(k:Nat) (R W:List Int) (a n:Int),R.length≤k→a=W.length→n=W.length+R.length→R.Pairwise (· < ·)→(W++R).length≤250→(∀z∈W++R,V z) →
  ∃W' T2,T2.length<20∧T2.Pairwise (· < ·)∧(∀M,Mg F T2 M→Blk F 20 R (W'++M))∧(∀z∈W++W'++T2,V z)∧(W++W'++T2).length=(W++R).length ∧
  loopW tab [0,1,2,6,7,8] cS {env:=upd (upd (upd (upd (upd (upd emp 8 (some (I (a+20)))) 7 (some (I a))) 6 (some (I 20))) 2 (some (cl fc kf))) 1 (some (I n))) 0 (some (.ref (0,kd) [])),heap:=sH H0 kd (W++R),fr:=fr,next:=0} =
  some (.ext 0,{env:=upd (upd (upd (upd (upd emp 7 (some (I ((W++W').length:Int)))) 6 (some (I 20))) 2 (some (cl fc kf))) 1 (some (I n))) 0 (some (.ref (0,kd) [])),heap:=sH H0 kd (W++W'++T2),fr:=fr,next:=0})
 |0,R,W,a,n,hk,ha,hn,hp,hl,hV=>by
  have hd:=hS fr h1
  refine⟨[],R,by omega,hp,fun M hM=> .last (by omega) hM,by simpa using hV,by simp,?_⟩
  rw[zqe,ha]
  have e:¬(W.length:Int)+20≤n:=by omega
  generalize W++R=zs at *
  generalize (W.length:Int)=w at *
  unfold loopW
  conv=>lhs;arg 1;unfold cS
  simp -implicitDefEqProofs (disch:=first|assumption|omega) only[go_sem,simprocAttr,e,hd,show ¬0=fr by omega]
 |k+1,R,W,a,n,hk,ha,hn,hp,hl,hV=>by
  have hd:=hS fr h1
  have hll:(W++R).length=W.length+R.length:=by simp
  by_cases h:R.length<20
  ·refine⟨[],R,by omega,hp,fun M hM=> .last (by omega) hM,by simpa using hV,by simp,?_⟩
   rw[zqe,ha]
   have e:¬(W.length:Int)+20≤n:=by omega
   generalize W++R=zs at *
   generalize (W.length:Int)=w at *
   unfold loopW
   conv=>lhs;arg 1;unfold cS
   simp -implicitDefEqProofs (disch:=first|assumption|omega) only[go_sem,simprocAttr,e,hd,show ¬0=fr by omega]
  ·have hsp:=List.take_append_drop 20 R
   have hl1:(R.take 20).length=20:=by rw[List.length_take];omega
   generalize R.take 20=R1 at *
   generalize R.drop 20=R2 at *
   subst hsp
   rw[la] at hk hn hll
   obtain⟨p1,p2,p3⟩:=List.pairwise_append.1 hp
   rw[←List.append_assoc] at hl hV
   obtain⟨A,m1,g1⟩:=zQf hS hC (fr+1) (by omega) a (a+20) R1 W R2 p1 ha (by omega) hl hV
   have hV':∀z∈W++A++R2,V z:=fun z hz=>hV z (by
    simp only[List.mem_append] at hz ⊢
    rcases hz with (h|h)|h
    ·simp[h]
    ·simp[m1.perm.subset h]
    ·simp[h])
   have hA:=m1.len
   obtain⟨W',T2,a1,a2,a3,a4,a5,a6⟩:=Uo hS hC fr h1 k R2 (W++A) (a+20) n (by omega) (by rw[la];omega) (by rw[la];omega) p2 (by simp only[la] at hl ⊢;omega) hV'
   refine⟨A++W',T2,a1,a2,fun M hM=> ?_,by simpa using a4,?_,?_⟩
   ·rw[zqc];exact .cons hl1 m1 (a3 M hM)
   ·simp only[la] at a5 ⊢;omega
   rw[show W++(A++W')=W++A++W' by simp,←a6]
   rw[←List.append_assoc]
   have e:a+20≤n:=by omega
   have e2:0≤a∧a≤250:=by simp only[la] at hl;omega
   generalize W++R1++R2=z1 at *
   generalize W++A++R2=z2 at *
   conv=>lhs;unfold loopW;arg 1;unfold cS
   simp -implicitDefEqProofs (disch:=first|assumption|omega) only[go_sem,simprocAttr,e,hd,g1,show ¬0=fr by omega]
theorem zxH{F:Int→Int}{V:Int→Prop}(hS:vN H0 kd)(hC:Cmp H0 kd kf fc F V)(fr:Nat)(h1:1≤fr)(bs:Nat)(hb0:0<bs)(hb:bs≤250):∀(k:Nat) (T R W:List Int) (a n:Int),R.length≤k→a=W.length→n=W.length+R.length→T.Pairwise (· < ·)→Blk F bs T R→(W++R).length≤250→(∀z∈W++R,V z) →
  ∃W' T' M',T'.length<2*bs∧T'.Pairwise (· < ·)∧Blk F bs T' M'∧(∀M,Mg F T' M→Blk F (2*bs) T (W'++M))∧(∀z∈W++W'++M',V z)∧(W++W'++M').length=(W++R).length ∧
  loopW tab [0,1,2,6,7,8] cT {env:=upd (upd (upd (upd (upd (upd emp 8 (some (I (a+2*bs)))) 7 (some (I a))) 6 (some (I bs))) 2 (some (cl fc kf))) 1 (some (I n))) 0 (some (.ref (0,kd) [])),heap:=sH H0 kd (W++R),fr:=fr,next:=0} =
  some (.ext 4,{env:=upd (upd (upd (upd (upd emp 7 (some (I ((W++W').length:Int)))) 6 (some (I bs))) 2 (some (cl fc kf))) 1 (some (I n))) 0 (some (.ref (0,kd) [])),heap:=sH H0 kd (W++W'++M'),fr:=fr,next:=0}):=by
 intro k
 induction k with
 |zero =>
  intro T R W a n hk ha hn hp hB hl hV
  have hd:=hS fr h1
  have hTl:=hB.len
  refine⟨[],T,R,by omega,hp,hB,fun M hM=> .last (by omega) hM,by simpa using hV,by simp,?_⟩
  rw[zqe,ha]
  have e:¬(W.length:Int)+2*bs≤n:=by omega
  clear hB
  generalize W++R=zs at *
  generalize (W.length:Int)=w at *
  generalize (bs:Int)=c at *
  unfold loopW
  conv=>lhs;arg 1;unfold cT
  simp -implicitDefEqProofs (disch:=first|assumption|omega) only[go_sem,simprocAttr,e,hd,show ¬0=fr by omega]
 |succ k ih =>
  intro T R W a n hk ha hn hp hB hl hV
  have hd:=hS fr h1
  have hTl:=hB.len
  have hll:(W++R).length=W.length+R.length:=by simp
  by_cases h:R.length<2*bs
  ·refine⟨[],T,R,by omega,hp,hB,fun M hM=> .last (by omega) hM,by simpa using hV,by simp,?_⟩
   rw[zqe,ha]
   have e:¬(W.length:Int)+2*bs≤n:=by omega
   clear hB
   generalize W++R=zs at *
   generalize (W.length:Int)=w at *
   generalize (bs:Int)=c at *
   unfold loopW
   conv=>lhs;arg 1;unfold cT
   simp -implicitDefEqProofs (disch:=first|assumption|omega) only[go_sem,simprocAttr,e,hd,show ¬0=fr by omega]
  ·obtain⟨P1,A1,T1,R1,e1,e2,l1,m1,hB1⟩:=hB.split (by omega)
   subst e1 e2
   have lA1:=m1.len
   simp only[la] at hk hn hll h hTl
   have lR1:=hB1.len
   obtain⟨p1,p2,p3⟩:=List.pairwise_append.1 hp
   have hs2:∃P2 A2 T2 R2,T1=P2++T2∧R1=A2++R2∧P2.length=bs∧Mg F P2 A2∧Blk F bs T2 R2:=by
    by_cases hh:bs<T1.length
    ·exact hB1.split hh
    ·exact⟨T1,R1,[],[],by simp,by simp,by omega,hB1.short hb0 (by omega),.last (by simp) ⟨List.Perm.refl _,List.Pairwise.nil⟩⟩
   obtain⟨P2,A2,T2,R2,e1,e2,l2,m2,hB2⟩:=hs2
   subst e1 e2
   have lA2:=m2.len
   simp only[la] at hk hn hll h hTl lR1
   have p4:(P1++P2).Pairwise (· < ·):=by
    rw[←List.append_assoc] at hp;exact(List.pairwise_append.1 hp).1
   have p5:=(List.pairwise_append.1 p2).2.1
   obtain⟨M,mm,g1⟩:=u4 hS hC (A1.length+A2.length) A1 A2 W R2 (fr+1) (by omega) (by omega) (by omega) (by omega) m1.pw m2.pw (U3 p4 m1.perm m2.perm) (by simp only[la] at hl ⊢;omega) (by simpa using hV)
   have mM:Mg F (P1++P2) M:=⟨mm.perm.trans (m1.perm.append m2.perm),mm.pw⟩
   have hM:=mm.len
   rw[la] at hM
   have hV':∀z∈W++M++R2,V z:=fun z hz=>hV z (by
    simp only[List.mem_append] at hz ⊢
    rcases hz with (h|h)|h
    ·simp[h]
    ·rcases List.mem_append.1 (mm.perm.subset h) with h|h<;>simp[h]
    ·simp[h])
   obtain⟨W',T',M',a1,a2,a3,a4,a5,a6,a7⟩:=ih T2 R2 (W++M) (a+2*bs) n (by omega) (by rw[la];omega) (by rw[la];omega) p5 hB2 (by simp only[la] at hl ⊢;omega) hV'
   refine⟨M++W',T',M',a1,a2,a3,fun M2 hM2=> ?_,by simpa using a5,?_,?_⟩
   ·rw[zqc,←List.append_assoc P1];exact .cons (by rw[la];omega) mM (a4 M2 hM2)
   ·simp only[la] at a6 ⊢;omega
   rw[show W++(M++W')=W++M++W' by simp,←a7]
   rw[show W++(A1++(A2++R2))=W++A1++A2++R2 by simp]
   have e:a+2*bs≤n:=by omega
   have e2:0≤a∧a≤250:=by simp only[la] at hl;omega
   rw[show(W.length:Int)=a from ha.symm,show a+(A1.length:Int)=a+bs by omega,show a+(bs:Int)+A2.length=a+2*bs by omega] at g1
   clear hB hB1 hB2 ih a4 a5 hV hV' mM mm hp p1 p2 p3 p4 p5 m1 m2 hC
   generalize W++A1++A2++R2=z1 at *
   generalize W++M++R2=z2 at *
   have e3:(0:Int)<bs∧(bs:Int)≤250:=by omega
   generalize (bs:Int)=c at *
   conv=>lhs;unfold loopW;arg 1;unfold cT
   simp -implicitDefEqProofs (disch:=first|assumption|omega) only[go_sem,simprocAttr,e,hd,g1,show ¬0=fr by omega]
set_option maxRecDepth 8000
set_option maxHeartbeats 8000000
variable{H0:Heap}{kd kf fc:Nat}
theorem zyU{F:Int→Int}{V:Int→Prop}(hS:vN H0 kd)(hC:Cmp H0 kd kf fc F V)(fr:Nat)(h1:1≤fr)(n:Int):∀(k:Nat) (bs:Nat) (T R:List Int),0<bs→R.length≤bs+k→n=R.length→T.Pairwise (· < ·)→Blk F bs T R→R.length≤250→(∀z∈R,V z)→bs≤500 →
  ∃M,Mg F T M ∧
  loopW tab [0,1,2,6] cE {env:=upd (upd (upd (upd emp 6 (some (I bs))) 2 (some (cl fc kf))) 1 (some (I n))) 0 (some (.ref (0,kd) [])),heap:=sH H0 kd R,fr:=fr,next:=0} =
  some (.ext 2,{env:=emp,heap:=sH H0 kd M,fr:=fr,next:=0}):=by
 intro k
 induction k with
 |zero =>
  intro bs T R hb hk hn hp hB hl hV hb5
  have hd:=hS fr h1
  have hTl:=hB.len
  refine⟨R,hB.short hb (by omega),?_⟩
  have e:n≤bs:=by omega
  clear hB
  generalize (bs:Int)=c at *
  unfold loopW
  conv=>lhs;arg 1;unfold cE
  simp -implicitDefEqProofs (disch:=first|assumption|omega) only[go_sem,simprocAttr,e,hd,show ¬0=fr by omega]
 |succ k ih =>
  intro bs T R hb hk hn hp hB hl hV hb5
  have hd:=hS fr h1
  have hTl:=hB.len
  by_cases h:R.length≤bs
  ·refine⟨R,hB.short hb (by omega),?_⟩
   have e:n≤bs:=by omega
   clear hB
   generalize (bs:Int)=c at *
   unfold loopW
   conv=>lhs;arg 1;unfold cE
   simp -implicitDefEqProofs (disch:=first|assumption|omega) only[go_sem,simprocAttr,e,hd,show ¬0=fr by omega]
  ·obtain⟨W',T',M',a1,a2,a3,a4,a5,a6,a7⟩:=zxH hS hC fr h1 bs hb (by omega) R.length T R [] 0 n (by omega) rfl (by simpa using hn) hp hB (by simpa using hl) (by simpa using hV)
   simp only[zqf] at a5 a6 a7
   have hM'l:=a3.len
   have hl6:W'.length+M'.length=R.length:=by rw[←a6,la]
   have a4':∀M,Mg F T' M→R.Perm (W'++M):=fun M hM=>hB.perm.trans (a4 M hM).perm.symm
   rw[show(0:Int)+2*(bs:Int)=2*bs by omega] at a7
   by_cases h2:M'.length≤bs
   ·have mT:=a3.short hb (by omega)
    have hB2:=a4 M' mT
    obtain⟨M,m1,g1⟩:=ih (2*bs) T (W'++M') (by omega) (by simp only[la];omega) (by simp only[la];omega) hp hB2 (by simp only[la];omega) a5 (by omega)
    refine⟨M,m1,?_⟩
    rw[←g1]
    have e:¬n≤bs:=by omega
    have e2:n≤W'.length+bs:=by omega
    have e3:(0:Int)<bs∧(bs:Int)≤250:=by omega
    have e4:(W'.length:Int)≤250:=by omega
    have e5:(0:Int)≤W'.length:=by omega
    rw[show((2*bs:Nat):Int)=2*(bs:Int) by omega,show 2*(bs:Int)=(bs:Int)*2 by omega] at *
    clear hB hB2 ih a4 a4' a5 hV mT m1 g1 a3 hC
    generalize W'++M'=z2 at *
    generalize (W'.length:Int)=w at *
    generalize (bs:Int)=c at *
    conv=>lhs;unfold loopW;arg 1;unfold cE
    simp -implicitDefEqProofs (disch:=first|assumption|omega) only[go_sem,simprocAttr,show c<n by omega,show ¬w+c<n by omega,a7,hd,show 2*c=c*2 by omega,show ¬0=fr by omega]
   ·obtain⟨P1,A1,T1,R1,e1,e2,l1,m1,hB1⟩:=a3.split (by omega)
    have m2:=hB1.short hb (by rw[e1,la] at a1;omega)
    subst e1 e2
    have lA1:=m1.len
    have lR1:=m2.len
    simp only[la] at hl6 hM'l h2
    obtain⟨M,mm,g0⟩:=u4 hS hC (A1.length+R1.length) A1 R1 W' [] (fr+1) (by omega) (by omega) (by omega) (by omega) m1.pw m2.pw (U3 a2 m1.perm m2.perm) (by simp only[la,ln];omega) (by simpa using a5)
    have mM:Mg F (P1++T1) M:=⟨mm.perm.trans (m1.perm.append m2.perm),mm.pw⟩
    have hMl:=mm.len
    rw[la] at hMl
    have hB2:=a4 M mM
    have hV2:∀z∈W'++M,V z:=fun z hz=>hV z ((a4' M mM).mem_iff.2 hz)
    obtain⟨M2,mf,g1⟩:=ih (2*bs) T (W'++M) (by omega) (by simp only[la];omega) (by simp only[la];omega) hp hB2 (by simp only[la];omega) hV2 (by omega)
    refine⟨M2,mf,?_⟩
    rw[←g1]
    have e:¬n≤bs:=by omega
    have e2:W'.length+bs<n:=by omega
    have e3:(0:Int)<bs∧(bs:Int)≤250:=by omega
    have e4:(W'.length:Int)≤250:=by omega
    have e5:(0:Int)≤W'.length:=by omega
    rw[show(W'.length:Int)+A1.length=W'.length+bs by omega,show(W'.length:Int)+bs+R1.length=n by omega,zqe,zqe,zqc] at g0
    rw[show((2*bs:Nat):Int)=2*(bs:Int) by omega,show 2*(bs:Int)=(bs:Int)*2 by omega] at *
    clear hB hB2 ih a4 a4' a5 hV hV2 mM m1 m2 mm mf g1 a3 hC hB1 a2
    generalize W'++(A1++R1)=z2 at *
    generalize W'++M=z3 at *
    generalize (W'.length:Int)=w at *
    generalize (bs:Int)=c at *
    conv=>lhs;unfold loopW;arg 1;unfold cE
    simp -implicitDefEqProofs (disch:=first|assumption|omega) only[go_sem,simprocAttr,show c<n by omega,e2,a7,g0,hd,show 2*c=c*2 by omega,show ¬0=fr by omega]
theorem zxG{F:Int→Int}{V:Int→Prop}(hS:vN H0 kd)(hC:Cmp H0 kd kf fc F V)(fr:Nat)(h1:1≤fr)(T:List Int)(n:Int)(hn:n=T.length)(hT:T.Pairwise (· < ·))(hl:T.length≤250)(hV:∀z∈T,V z) :
  ∃M,Mg F T M∧evCW tab hX [.ref (0,kd) [],I n,cl fc kf] (sH H0 kd T) fr=some (.tup [],sH H0 kd M):=by
 have hd:=hS fr h1
 obtain⟨W',T2,a1,a2,a3,a4,a5,a6⟩:=Uo hS hC fr h1 T.length T [] 0 n (by omega) rfl (by simpa using hn) hT (by simpa using hl) (by simpa using hV)
 simp only[zqf] at a4 a5 a6
 have hl6:W'.length+T2.length=T.length:=by rw[←a5,la]
 obtain⟨A,m1,g0⟩:=zQf hS hC (fr+1) (by omega) W'.length n T2 W' [] a2 rfl (by omega) (by simp only[la,ln];omega) (by simpa using a4)
 have hB:=a3 A m1
 have hA:=m1.len
 obtain⟨M,mf,g1⟩:=zyU hS hC fr h1 n T.length 20 T (W'++A) (by omega) (by simp only[la];omega) (by simp only[la];omega) hT hB (by simp only[la];omega) (fun z hz=>hV z (hB.perm.mem_iff.1 hz)) (by omega)
 refine⟨M,mf,?_⟩
 rw[aR tK _ _ _ rfl,lW]
 rw[zqe,zqe] at g0
 rw[show(0:Int)+20=20 from rfl] at a6
 rw[show((20:Nat):Int)=20 from rfl] at g1
 have e5:(0:Int)≤W'.length:=by omega
 clear hC hB a3 a4 m1 mf hV
 generalize W'++T2=z2 at *
 generalize W'++A=z3 at *
 generalize (W'.length:Int)=w at *
 simp -implicitDefEqProofs (disch:=first|assumption|omega) only[go_sem,simprocAttr,a6,g0,g1,hd,show ¬0=fr by omega]
theorem Rh{F:Int→Int}{V:Int→Prop}(hS:vN H0 kd)(hC:Cmp H0 kd kf fc F V)(fr:Nat)(h1:1≤fr)(T:List Int)(hT:T.Pairwise (· < ·))(hl:T.length≤250)(hV:∀z∈T,V z) :
  ∃M,Mg F T M∧evCW tab eP [.ref (0,kd) [],cl fc kf] (sH H0 kd T) fr=some (.tup [],sH H0 kd M):=by
 have hd:=hS fr h1
 obtain⟨M,m,g⟩:=zxG hS hC (fr+1) (by omega) T T.length rfl hT hl hV
 refine⟨M,m,?_⟩
 rw[aR o9 _ _ _ rfl,iQ]
 have e5:(0:Int)≤T.length:=by omega
 simp -implicitDefEqProofs (disch:=first|assumption|omega) only[go_sem,simprocAttr,g,hd,aG,lm,show ¬0=fr by omega]
end Go.Ev.G
