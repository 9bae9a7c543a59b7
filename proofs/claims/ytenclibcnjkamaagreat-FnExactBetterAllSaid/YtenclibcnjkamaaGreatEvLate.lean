import Derived.Test.YtenclibcnjkamaaGreatEvDraw
set_option linter.all false
namespace Go.Ev
def kQ:Option O→Bool
 |none=>true
 |some (.c _)=>true
 |_=>false
def SItem.late(it:SItem):Option (Nat×Nat×Nat×Option O×Option O):=match it.g,it.d,it.o with
 |none,some d,.cutm sz (.t k) lo hi=>if k≠d∧kQ lo=true∧kQ hi=true then some (d,sz,k,lo,hi) else none
 |_,_,_=>none
def SItem.loose(x z:SItem):Bool:=x.o.quiet&&(match x.d with|some d=> !z.rds.contains d|none=>true)&&(match z.d with|some d=> !x.rds.contains d|none=>true)
def SItem.free(l:List SItem)(k:Nat)(it:SItem):Bool:=match it.g,it.d,it.o with
 |none,some e,.mov (.t t)=>e != k&&l.all fun q=>q.d != some t
 |_,_,_=>false
def N0(bf:List Nat)(l:List DItem)(z k:Nat):Bool:=(List.range l.length).all fun j=>(List.range j).all fun i=>match l[i]?,l[j]? with
 |some x,some y=>y.it.unlike x.it&&(!x.it.tied y.it||(bf.getD y.ix 0).testBit x.ix||(decide (j=z)&&x.it.loose y.it&&(List.range l.length).all fun m=>decide (m≤z)||match l[m]? with|some q=>q.it.free (l.map DItem.it) k||(bf.getD q.ix 0).testBit x.ix|none=>true) ||
   (decide (i=z)&&y.it.free (l.map DItem.it) k&&(List.range j).all fun m=>decide (m≤z)||match l[m]? with|some q=>q.it.o.quiet|none=>true))
 |_,_=>true
def Td(P:Program)(nt:Nat)(ops:Array Oper)(l:List DItem):Bool:=match (List.range l.length).find? fun m=>match l[m]? with|some y=>y.it.late.isSome|none=>false with
 |some z=>match l[z]?.bind fun y=>y.it.late with
  |some (_,_,k,_,_)=>P.follows .mixedOrders&&decide (l.length=ops.size)&&(List.range ops.size).all (fun j=>l.any fun y=>y.ix==j)&&vO 0 ops.toList&&l.all (fun y=>match ops[y.ix]? with|some o=>y.it.chk P nt ops o|none=>false) &&
   Ik (fun x y=>x.ix != y.ix) l&&N0 (zz3 ops.toList []) l z k
  |none=>false
 |none=>false
theorem zWK{it:SItem}{d sz k:Nat}{lo hi:Option O}(h:it.late=some (d,sz,k,lo,hi)):it.g=none∧it.d=some d∧it.o= .cutm sz (.t k) lo hi∧k≠d∧kQ lo=true∧kQ hi=true:=by
 unfold SItem.late at h
 split at h
 ·rename_i h1 h2 h3
  split at h
  ·rename_i hc
   simp only[oi,zqb] at h
   obtain⟨rfl,rfl,rfl,rfl,rfl⟩:=h
   exact⟨h1,h2,h3,hc⟩
  ·simp at h
 ·simp at h
theorem rB{x z:SItem}(h:x.loose z=true):x.o.quiet=true∧(∀t,x.d=some t→t∉z.rds)∧∀t,z.d=some t→t∉x.rds:=by
 unfold SItem.loose at h
 simp only[bE] at h
 obtain⟨⟨h1,h2⟩,h3⟩:=h
 refine⟨h1,fun t ht hm=> ?_,fun t ht hm=> ?_⟩
 ·rw[ht] at h2;simp[hm] at h2
 ·rw[ht] at h3;simp[hm] at h3
theorem xB{l:List SItem}{k:Nat}{it:SItem}(h:it.free l k=true):∃e u,it.g=none∧it.d=some e∧it.o= .mov (.t u)∧e≠k∧∀q∈l,q.d≠some u:=by
 unfold SItem.free at h
 split at h
 ·rename_i e u h1 h2 h3
  simp only[bE,bne_iff_ne,ne_eq,List.all_eq_true] at h
  exact⟨e,u,h1,h2,h3,h.1,h.2⟩
 ·simp at h
theorem Ym{bf:List Nat}{l:List DItem}{z k:Nat}(h:N0 bf l z k=true)(i j:Nat)(x y:DItem)(hij:i<j)(hx:l[i]? = some x)(hy:l[j]? = some y) :
  y.it.unlike x.it=true∧(x.it.tied y.it=true→(bf.getD y.ix 0).testBit x.ix=true∨(j=z∧x.it.loose y.it=true∧∀m q,z<m→l[m]? = some q→q.it.free (l.map DItem.it) k=false→(bf.getD q.ix 0).testBit x.ix=true) ∨
   (i=z∧y.it.free (l.map DItem.it) k=true∧∀m q,z<m→m<j→l[m]? = some q→q.it.o.quiet=true)):=by
 unfold N0 at h
 have hj:=(List.getElem?_eq_some_iff.1 hy).1
 have h1:=List.all_eq_true.1 (List.all_eq_true.1 h j (List.mem_range.2 hj)) i (List.mem_range.2 hij)
 rw[hx,hy] at h1
 simp only[bE,Bool.or_eq_true,Bool.not_eq_true',zqd] at h1
 refine⟨h1.1,fun ht=> ?_⟩
 rcases h1.2 with ((h2|h2)|⟨⟨h2,h3⟩,h4⟩)|⟨⟨h2,h3⟩,h4⟩
 ·rw[ht] at h2;simp at h2
 ·exact .inl h2
 ·refine .inr (.inl ⟨h2,h3,fun m q hm hl hf=> ?_⟩)
  have:=List.all_eq_true.1 h4 m (List.mem_range.2 (List.getElem?_eq_some_iff.1 hl).1)
  simp only[Bool.or_eq_true,zqd,hl,hf,Bool.false_eq_true,false_or] at this
  exact this.resolve_left (by omega)
 ·refine .inr (.inr ⟨h2,h3,fun m q hm hmj hl=> ?_⟩)
  have:=List.all_eq_true.1 h4 m (List.mem_range.2 hmj)
  simp only[Bool.or_eq_true,zqd,hl] at this
  exact this.resolve_left (by omega)
theorem lY{o:Option O}(h:kQ o=true)(s s2:St)(n:Int):bN s n o=bN s2 n o:=by
 match o,h with
 |none,_=>rfl
 |some (.c _),_=>rfl
abbrev st0:St:=⟨emp,emp,0,0⟩
section
variable{c:Ctx}{C:Cl}{s st':St}{U:Nat→Prop}{γ:Gm}{S:Nat→Prop}{a:Act}{w:World}{o:Oper}{d sz k n:Nat}{lo hi:Option O}
def zkt(d sz k:Nat)(lo hi:Option O)(a:Act):Prop:=∃A n cap l h,a.tmps.getD k undef= .slice A n cap∧bN st0 0 lo=some l∧bN st0 (n:Int) hi=some h∧a.tmps.getD d undef=sliced A l.toNat h.toNat cap sz
theorem zkY(hk:k≠d)(c1:kQ lo=true)(c2:kQ hi=true):opS C (s.lose (some d)) (some d) n (.cutm sz (.t k) lo hi)=opS C s (some d) n (.cutm sz (.t k) lo hi):=by
 have e1:rdO (s.lose (some d)) (.t k)=rdO s (.t k):=by simp[rdO,St.lose,upd,hk]
 have e2:∀q x,((s.lose (some d)).with q).put (some d) x=(s.with q).put (some d) x:=by
  intro q x
  simp only[St.lose,St.with,St.put]
  congr 1
  funext j
  simp only[upd]
  split<;>rfl
 have e3:∀q,bN (s.lose (some d)) q lo=bN s q lo:=fun q=>lY c1 _ _ q
 have e4:∀q,bN (s.lose (some d)) q hi=bN s q hi:=fun q=>lY c2 _ _ q
 simp only[opS,e1,e2,e3,e4,kE,jK]
theorem T1{s2:St}(hs:opS C s (some d) n (.cutm sz (.t k) lo hi)=some st')(hh:s2.heap=s.heap)(hf:s2.fr=s.fr)(hk:s2.env k=s.env k)(c1:kQ lo=true)(c2:kQ hi=true) :
  ∃H r,st'=(s.with H).put (some d) r∧opS C s2 (some d) n (.cutm sz (.t k) lo hi)=some ((s2.with H).put (some d) r):=by
 simp only[opS,aA] at hs
 obtain⟨x,g4,lv,g8,els,g5,hv,g9,g10⟩:=hs
 have e1:rdO s2 (.t k)=some x:=hk.trans g4
 split at g10
 ·rename_i hbd
  simp only[oi] at g10
  refine⟨_,_,g10.symm,?_⟩
  simp only[opS,e1,obs,(lY c1 s2 s 0).trans g8,hh,g5,(lY c2 s2 s _).trans g9,hf]
  rw[if_pos hbd]
 ·simp at g10
theorem Yx(R:Rep c s U γ S a w)(hc:cH c.P o (.cutm sz (.t k) lo hi)=true)(c1:kQ lo=true)(c2:kQ hi=true)(hs:opS C s (some d) n (.cutm sz (.t k) lo hi)=some st') :
  ∃A n cap l h,a.tmps.getD k undef= .slice A n cap∧bN st0 0 lo=some l∧bN st0 (n:Int) hi=some h∧(execOp a.eval o).run c.P w= .ok (.value (sliced A l.toNat h.toNat cap sz)) w:=by
 simp only[cH] at hc
 split at hc
 ·rename_i t y l h m ho
  simp only[bE,Option.isNone_iff_eq_none] at hc
  obtain⟨⟨⟨⟨h1,h2⟩,h3⟩,rfl⟩,h4⟩:=hc
  split at h4
  ·rename_i e ht
   simp only[zqd] at h4
   simp only[opS,aA] at hs
   obtain⟨x,g4,lv,g8,⟨els,hp⟩,g5,hv,g9,g10⟩:=hs
   split at g10
   ·rename_i hb
    obtain⟨b1,b2,b3,b4⟩:=hb
    obtain⟨h6,h7⟩:=bV R h1 g4
    obtain⟨γ1,i1,bb,ges,t1,e1,e2⟩:=So R.mm h6 g5
    have hl1:ges.length=els.length:=by rw[←e1,cY]
    simp only at b3 g9
    have hok1:=t1.mm.ok _ _ t1.at_
    obtain⟨A,cap,v1,v2,v3⟩:=zq7 hok1 (lo:=lv.toNat) (hi:=hv.toNat) (by omega) (by omega) (by omega)
    rw[e2] at v1
    rw[←hl1] at g9 b3
    have hrun:=zqy R ho h2 h3 ht h4 v1 g8 g9 b1 b2 b3 v2
    refine⟨A,ges.length,cap,lv,hv,?_,(lY c1 _ _ _).trans g8,(lY c2 _ _ _).trans g9,hrun⟩
    unfold eqO at h1
    split at h1
    ·rename_i t' n' _ e
     simp only[beq_iff_eq] at h1
     simp only[O.t.injEq] at e
     subst e;subst h1
     exact v1
    all_goals simp_all
   ·simp at g10
  ·simp at h4
 ·simp at hc
theorem zxo{v:Value}(h:a.tmps.getD d undef=v):a.put (some d) v=a:=by
 unfold Act.put
 obtain⟨tm,df⟩:=a
 simp only at h ⊢
 congr 1
 apply Array.ext
 ·simp
 ·intro i h1 h2
  rw[Array.getElem_setIfInBounds]
  split
  ·rename_i e
   subst e
   rw[←h,Array.getD_eq_getD_getElem?,Array.getElem?_eq_getElem h2,Option.getD_some]
  ·rfl
theorem zzz(R:Rep c (s.lose (some d)) U γ S a w)(hd:∀k,o.dst=some k→k<c.nt)(hc:cH c.P o (.cutm sz (.t k) lo hi)=true)(hod:o.dst=some d)(hk:k≠d)(c1:kQ lo=true)(c2:kQ hi=true)(hC:CallOk c.P C)(hF:zkt d sz k lo hi a)
  (hs:opS C s (some d) n (.cutm sz (.t k) lo hi)=some st') (hn:∀k,n≤k→k<n+32→¬U k) {U':Nat→Prop} (hU0:∀k,U k→U' k) (hU':∀k,n≤k→k<n+32→U' k):Ok c st' U' a w:=by
 have hs2:=(zkY (C:=C) (s:=s) (n:=n) (sz:=sz) hk c1 c2).trans hs
 have hr:=U9 R hd hc hC (fun _=>hn) hU0 (fun _=>hU') (by rw[hod];exact hs2)
 obtain⟨A,n1,cap,l1,h1,q1,q2,q3,q4⟩:=Yx R hc c1 c2 hs2
 obtain⟨A',n1',cap',l1',h1',r1,r2,r3,r4⟩:=hF
 rw[q1] at r1
 simp only[Value.slice.injEq] at r1
 obtain⟨rfl,rfl,rfl⟩:=r1
 rw[q2] at r2
 rw[q3] at r3
 simp only[oi] at r2 r3
 subst r2;subst r3
 cases hr with
 |value v w' h k0 =>
  rw[q4] at h
  injection h with e1 e2
  injection e1 with e1
  subst e1;subst e2
  rw[hod,zxo r4] at k0
  exact k0
 |skip w' h k0=>rw[q4] at h;simp at h
 |enter f args w1 h k0=>rw[q4] at h;simp at h
end
section
variable{c:Ctx}{C:Cl}{ops:Array Oper}{l:List SItem}{T:Nat→St}
theorem Mid.congr{D D':Nat→Prop}{p:Nat}{s:St}(h:Mid l T D p s)(e:∀j,D j↔D' j):Mid l T D' p s:=by
 have:D=D':=funext fun j=>propext (e j)
 rw[←this];exact h
theorem Mid.agree(hun:∀(i j:Nat) (x y:SItem),i<j→l[i]? = some x→l[j]? = some y→y.unlike x=true){D:Nat→Prop}{p i:Nat}{s:St}{it:SItem}(hm:Mid l T D p s)(ht:Mid l T (· < i) p (T i))(hit:l[i]? = some it)(hund:¬D i)
  (h1:∀j jt t,j<i→l[j]? = some jt→jt.d=some t→t∈it.rds→D j) (h2:∀j jt t,i<j→l[j]? = some jt→jt.d=some t→t∈it.rds→¬D j):pJ it.rds (T i) s:=by
 refine⟨hm.heap.trans ht.heap.symm,fun t htr=> ?_⟩
 by_cases hw:∃j jt,l[j]? = some jt∧p≤j∧j≠i∧jt.d=some t
 ·obtain⟨j,jt,h3,h4,h5,h6⟩:=hw
  rcases Nat.lt_or_ge j i with hlt|hge
  ·rw[hm.dn j jt t h3 h4 (h1 j jt t hlt h3 h6 htr) h6,ht.dn j jt t h3 h4 hlt h6]
  ·have hlt:i<j:=by omega
   have hd:=h2 j jt t hlt h3 h6 htr
   have huniq:∀k kt,l[k]? = some kt→kt.d=some t→k=j:=fun k kt h7 h8=>by
    rcases Nat.lt_trichotomy k j with h9|h9|h9
    ·have:=hun k j kt jt h9 h7 h3
     simp[SItem.unlike,h6,h8] at this
    ·exact h9
    ·have:=hun j k jt kt h9 h3 h7
     simp[SItem.unlike,h6,h8] at this
   rw[hm.old t (fun k kt h7 _ h9 h10=>by rw[huniq k kt h7 h10] at h9;exact hd h9),ht.old t (fun k kt h7 _ h9 h10=>by rw[huniq k kt h7 h10] at h9;omega)]
 ·rw[hm.old t (fun k kt h7 h8 h9 h10=>hw ⟨k,kt,h7,h8,fun e=>by subst e;exact hund h9,h10⟩),ht.old t (fun k kt h7 h8 h9 h10=>hw ⟨k,kt,h7,h8,by omega,h10⟩)]
theorem Rl{s:St}{d:Nat}{e:Option Nat}{x:Option X}(h:e≠some d):(s.lose (some d)).putO e x=(s.putO e x).lose (some d):=by
 have key:∀j v,j≠d→upd (upd s.env d none) j v=upd (upd s.env j v) d none:=fun j v hj=>by
  funext q
  simp only[upd]
  by_cases e1:q=j
  ·subst e1;simp[hj]
  ·by_cases e2:q=d<;>simp[e1,e2,Ne.symm hj]
 cases e with
 |none=>cases x<;>rfl
 |some j =>
  have hj:j≠d:=fun e=>h (by rw[e])
  cases x<;>simp only[St.putO,St.put,St.lose,key j _ hj]
theorem Mid.cut(hun:∀(i j:Nat) (x y:SItem),i<j→l[i]? = some x→l[j]? = some y→y.unlike x=true){D D':Nat→Prop}{p z d:Nat}{s:St}{iz:SItem}{H:Heap}{r:X}(hm:Mid l T D p s)(htz:Mid l T (· < z) p (T z))(hpz:p≤z)(hiz:l[z]? = some iz)(zd:iz.d=some d)
  (hlow:∀j,j<z→D j) (hnz:¬D z) (hT1:T (z+1)=((T z).with H).put (some d) r) (hD':∀j,D' j↔D j∨j=z):Mid l T D' (z+1) ((s.with H).put (some d) r):=by
 have hne:∀j jt t,l[j]? = some jt→j≠z→jt.d=some t→t≠d:=fun j jt t h1 h2 h3 e=>by
  subst e
  rcases Nat.lt_or_ge j z with h|h
  ·have:=hun j z jt iz h h1 hiz
   simp[SItem.unlike,h3,zd] at this
  ·have:=hun z j iz jt (by omega) hiz h1
   simp[SItem.unlike,h3,zd] at this
 refine⟨fun j hj=>(hD' j).2 ?_,fun j jt h1 h2 h3=> ?_,?_,?_,?_,fun j jt t h1 h2 h3 h4=> ?_,fun t ht=> ?_⟩
 ·rcases Nat.lt_or_ge j z with h|h
  ·exact .inl (hlow j h)
  ·exact .inr (by omega)
 ·rcases (hD' j).1 h3 with h|h
  ·exact hm.bar j jt h1 (by omega) h
  ·omega
 ·rw[hT1];rfl
 ·rw[hT1];exact hm.fr.trans htz.fr.symm
 ·rw[hT1];exact hm.nx.trans htz.nx.symm
 ·have h5:D j:=((hD' j).1 h3).resolve_right (by omega)
  show upd s.env d (some r) t=_
  rw[l6,if_neg (hne j jt t h1 (by omega) h4)]
  exact hm.dn j jt t h1 (by omega) h5 h4
 ·rw[hT1]
  show upd s.env d (some r) t=upd (T z).env d (some r) t
  rw[l6,l6]
  split
  ·rfl
  ·rename_i htd
   by_cases hw:∃j jt,l[j]? = some jt∧p≤j∧j<z∧jt.d=some t
   ·obtain⟨j,jt,h3,h4,h5,h6⟩:=hw
    rw[hm.dn j jt t h3 h4 (hlow j h5) h6,htz.dn j jt t h3 h4 h5 h6]
   ·rw[hm.old t (fun j jt h7 h8 h9 h10=> ?_),htz.old t (fun j jt h7 h8 h9 h10=>hw ⟨j,jt,h7,h8,h9,h10⟩)]
    rcases Nat.lt_trichotomy j z with h|h|h
    ·exact hw ⟨j,jt,h7,h8,h,h10⟩
    ·subst h;exact hnz h9
    ·exact ht j jt h7 (by omega) ((hD' j).2 (.inl h9)) h10
theorem M4{z d sz k nz:Nat}{lo hi:Option O}{iz:SItem}(hT':∀k it,l[k]? = some it→∃n,itS C (T k) n it=some (T (k+1)))(hz:l[z]? = some iz)(zg:iz.g=none)(zd:iz.d=some d)(zo:iz.o= .cutm sz (.t k) lo hi)(c1:kQ lo=true)(c2:kQ hi=true){u:Nat}(hu:∀q∈l,q.d≠some u){p:Nat} :
  ∀i,p≤i→i≤l.length→(∀j jt,l[j]? = some jt→p≤j→j<i→j≠z→jt.o.quiet=true)→(T i).env u=(T p).env u
 |0,h1,_,_=>by rw[show p=0 by omega]
 |i+1,h1,h2,h3=>by
  by_cases e:p=i+1
  ·rw[e]
  ·have ih:=M4 hT' hz zg zd zo c1 c2 hu i (by omega) (by omega) (fun j jt h4 h5 h6 h7=>h3 j jt h4 h5 (by omega) h7) (nz:=nz)
   obtain⟨it,hit⟩:∃it,l[i]? = some it:=⟨l[i]'(by omega),List.getElem?_eq_getElem (by omega)⟩
   obtain⟨n,hn⟩:=hT' i it hit
   have hd:=hu it (List.mem_of_getElem? hit)
   by_cases hiz:i=z
   ·subst hiz
    rw[hz] at hit
    simp only[oi] at hit
    subst hit
    have hop:opS C (T i) (some d) n (.cutm sz (.t k) lo hi)=some (T (i+1)):=by
     unfold itS at hn
     rw[zg] at hn
     simpa only[zd,zo] using hn
    obtain⟨H,r,e1,_⟩:=T1 hop rfl rfl rfl c1 c2
    rw[e1]
    show upd (T i).env d (some r) u=_
    rw[l6,if_neg (fun e=>hd (by rw[zd,e]))]
    exact ih
   ·obtain⟨x,hx,_⟩:=gC (h3 i it hit (by omega) (by omega) hiz) hn
    rw[hx,eQ,if_neg hd]
    exact ih
theorem Wg{it:SItem}{e u n n':Nat}{s s' s2:St}(h1:it.g=none)(h2:it.d=some e)(h3:it.o= .mov (.t u))(hs:itS C s n it=some s')(he:s2.env u=s.env u) :
  ∃v,s'=s.putO it.d (some v)∧itS C s2 n' it=some (s2.putO it.d (some v)):=by
 unfold itS at hs ⊢
 rw[h1] at hs ⊢
 simp only[h3,opS,rdO] at hs ⊢
 rw[aC] at hs
 obtain⟨v,h4,h5⟩:=hs
 refine⟨v,h5.symm,?_⟩
 rw[he,h4]
 rfl
abbrev Ls(l:List SItem)(π:Nat→Nat)(listed:Array Bool)(q:Nat):Prop:=q<l.length∧listed.getD (π q) false=true
abbrev Up(π:Nat→Nat)(nx p:Nat)(k:Nat):Prop:=k<nx∨∃q,q<p∧nx+32*π q≤k∧k<nx+32*π q+32
theorem zWJ(hC:CallOk c.P C){Q:Exit→Act→World→Prop}{nx z d sz k:Nat}{lo hi:Option O}{iz:SItem}(π:Nat→Nat)(hz:l[z]? = some iz)(hlt:iz.late=some (d,sz,k,lo,hi))
  (hπ:∀q,q<l.length→π q<ops.size) (hinj:∀q q',q<l.length→q'<l.length→π q=π q'→q=q') (hsur:∀i,i<ops.size→∃q,q<l.length∧π q=i)
  (hT:∀k it,l[k]? = some it→itS C (T k) (nx+32*π k) it=some (T (k+1)))
  (hun:∀(i j:Nat) (x y:SItem),i<j→l[i]? = some x→l[j]? = some y→y.unlike x=true)
  (hchk:∀(q:Nat) (o:Oper) (it:SItem),ops[π q]? = some o→l[q]? = some it→it.chk c.P c.nt ops o=true)
  (hedge:∀(k:Nat) (o:Oper),ops[k]? = some o→∀e∈o.after,Region.binds .any e=true→e.on<k)
  (htie:∀(i j:Nat) (x y:SItem),i<j→l[i]? = some x→l[j]? = some y→x.tied y=true→(∀D,Closed ops D→D (π j)→D (π i))∨(j=z∧x.loose y=true∧∀m mt,z<m→l[m]? = some mt→mt.free l k=false→∀D,Closed ops D→D (π m)→D (π i)) ∨
   (i=z∧y.free l k=true∧∀m mt,z<m→m<j→l[m]? = some mt→mt.o.quiet=true))
  (hQ:∀a w,Ok c (T l.length) (Up π nx l.length) a w→Q .normal a w) :
  ∀(fuel:Nat) (listed:Array Bool) (rem:List Nat) (p:Nat) (s:St) (a:Act) (w:World),listed.size=ops.size→rem.Nodup→(∀j,j<ops.size→(listed.getD j true=false↔j∈rem))→rem.length≤fuel →
   Closed ops (fun j=>listed.getD j false=true)→p≤l.length →
   ((Mid l T (Ls l π listed) p s∧Ok c s (Up π nx p) a w) ∨
    (p≤z∧listed.getD (π z) false=true∧(∃j,j<z∧¬listed.getD (π j) false=true)∧Mid l T (fun j=>Ls l π listed j∧j≠z) p s∧Ok c (s.lose (some d)) (Up π nx p) a w∧zkt d sz k lo hi a))→wpAny c.P .any ops Q fuel listed a w:=by
 have hT':∀k it,l[k]? = some it→∃n,itS C (T k) n it=some (T (k+1)):=fun k it h=>⟨_,hT k it h⟩
 obtain⟨zg,zd,zo,hkd,c1,c2⟩:=zWK hlt
 have hzq:iz.o.quiet=false:=by rw[zo];rfl
 have hzl:=(List.getElem?_eq_some_iff.1 hz).1
 have hkr:k∈iz.rds:=by unfold SItem.rds;rw[zo];simp[SOp.rds,O.rd]
 have hzr:∀t∈iz.rds,t=k:=fun t ht=>by
  have e:∀q:Option O,kQ q=true→Tt q=[]:=fun q hq=>by
   match q,hq with
   |none,_=>rfl
   |some (.c _),_=>rfl
  unfold SItem.rds at ht
  rw[zg,zo] at ht
  simpa[SOp.rds,O.rd,e _ c1,e _ c2] using ht
 have hUm:∀p p',p≤p'→∀k,Up π nx p k→Up π nx p' k:=fun p p' h k hk=>hk.imp id fun⟨q,h1,h2⟩=>⟨q,by omega,h2⟩
 have hUn:∀p,p<l.length→∀k,nx+32*π p≤k→k<nx+32*π p+32→¬Up π nx p k:=fun p hp k h1 h2 h3=>by
  rcases h3 with h3|⟨q,h4,h5,h6⟩
  ·omega
  ·have:=hinj p q hp (by omega) (by omega)
   omega
 have hUs:∀p k,nx+32*π p≤k→k<nx+32*π p+32→Up π nx (p+1) k:=fun p k h1 h2=> .inr ⟨p,by omega,h1,h2⟩
 intro fuel
 have hdone:∀(listed:Array Bool) (p:Nat) (s:St) (a:Act) (w:World),listed.size=ops.size→(∀j,j<ops.size→listed.getD j false=true)→p≤l.length→Mid l T (Ls l π listed) p s→Ok c s (Up π nx p) a w→Q .normal a w:=by
  intro listed p s a w hsz hall hp hm ⟨γ,S,R⟩
  have hl:∀j,j<l.length→Ls l π listed j:=fun j hj=>⟨hj,hall _ (hπ j hj)⟩
  have h1:=Mid.text (C:=C) hT' hun hp (Nat.le_refl _) (fun j it h1 h2 h3=>hm.bar j it h1 h2 (hl j h3))
  have h2:=hm.unique h1 (fun j hj=>⟨fun _=>hj,fun _=>hl j hj⟩)
  subst h2
  exact hQ a w ⟨γ,S,R.mono (hUm _ _ hp)⟩
 have hready:∀(listed:Array Bool),listed.size=ops.size→Region.ready .any ops listed=[]→∀j,j<ops.size→listed.getD j false=true:=by
  intro listed hsz hr j
  induction j using Nat.strongRecOn with
  |_ j ih =>
   intro hj
   refine Classical.byContradiction fun hne=> ?_
   have hf:listed.getD j true=false:=by
    rw[Array.getD_eq_getD_getElem?,Array.getElem?_eq_getElem (by omega),Option.getD_some] at hne ⊢
    simpa using hne
   have hmem:j∈Region.ready .any ops listed:=by
    rw[mem_ready]
    refine⟨hf,ops[j],Array.getElem?_eq_getElem hj,fun e he hb=> ?_⟩
    have:=hedge j ops[j] (Array.getElem?_eq_getElem hj) e he hb
    exact ih _ this (by omega)
   rw[hr] at hmem
   simp at hmem
 induction fuel with
 |zero =>
  intro listed rem p s a w hsz hnd hrem hfu hcl hp hst
  have hnil:rem=[]:=by cases rem with
   |nil=>rfl
   |cons=>simp at hfu
  subst hnil
  have hall:∀j,j<ops.size→listed.getD j false=true:=fun j hj=>by
   have:=(hrem j hj)
   rw[Array.getD_eq_getD_getElem?,Array.getElem?_eq_getElem (by omega),Option.getD_some] at this ⊢
   simpa using this
  rcases hst with⟨hm,hok⟩|⟨_,_,⟨j0,hj0,hj0n⟩,_⟩
  ·refine⟨?_,hdone listed p s a w hsz hall hp hm hok⟩
   cases hr:Region.ready .any ops listed with
   |nil=>rfl
   |cons x xs =>
    have hx:x∈Region.ready .any ops listed:=by rw[hr];simp
    obtain⟨h1,o,ho,_⟩:=mem_ready.1 hx
    have:=(hrem x (Array.getElem?_eq_some_iff.1 ho).1).1 h1
    simp at this
  ·exact absurd (hall _ (hπ j0 (by omega))) hj0n
 |succ fuel ih =>
  intro listed rem p s a w hsz hnd hrem hfu hcl hp hst
  refine⟨fun hr=> ?_,fun i0 hin=> ?_⟩
  ·rcases hst with⟨hm,hok⟩|⟨_,_,⟨j0,hj0,hj0n⟩,_⟩
   ·exact hdone listed p s a w hsz (hready listed hsz hr) hp hm hok
   ·exact absurd (hready listed hsz hr _ (hπ j0 (by omega))) hj0n
  obtain⟨h1,o,ho,h2⟩:=mem_ready.1 hin
  have hisz:=(Array.getElem?_eq_some_iff.1 ho).1
  obtain⟨i,hil,rfl⟩:=hsur i0 hisz
  obtain⟨it,hit⟩:∃it,l[i]? = some it:=⟨l[i]'(by omega),List.getElem?_eq_getElem (by omega)⟩
  have hir:=(hrem _ hisz).1 h1
  have hund:¬listed.getD (π i) false=true:=by
   rw[Array.getD_eq_getD_getElem?,Array.getElem?_eq_getElem (by omega),Option.getD_some] at h1 ⊢
   simp[h1]
  have hpi:p≤i:=Nat.le_of_not_lt fun hlt=>by
   rcases hst with⟨hm,_⟩|⟨_,_,_,hm,_⟩
   ·exact hund (hm.pre i hlt).2
   ·exact hund (hm.pre i hlt).1.2
  have hget:∀j,(listed.setIfInBounds (π i) true).getD j false=true↔listed.getD j false=true∨j=π i:=fun j=>by
   by_cases e:π i=j
   ·subst e
    simp[hsz,hisz]
   ·rw[getD_set_ne false e]
    simp[Ne.symm e]
  have hgetL:∀j,Ls l π (listed.setIfInBounds (π i) true) j↔Ls l π listed j∨j=i:=fun j=>by
   constructor
   ·rintro ⟨h3,h4⟩
    rcases (hget _).1 h4 with h5|h5
    ·exact .inl ⟨h3,h5⟩
    ·exact .inr (hinj _ _ h3 hil h5)
   ·rintro(⟨h3,h4⟩|rfl)
    ·exact⟨h3,(hget _).2 (.inl h4)⟩
    ·exact⟨hil,(hget _).2 (.inr rfl)⟩
  have hcl':Closed ops (fun j=>(listed.setIfInBounds (π i) true).getD j false=true):=fun j oj hj hd e he hb=>by
   rcases (hget j).1 hd with h3|rfl
   ·exact(hget _).2 (.inl (hcl j oj hj h3 e he hb))
   ·rw[ho] at hj
    simp only[oi] at hj
    subst hj
    exact(hget _).2 (.inl (h2 e he hb))
  have hdn:∀j,j<l.length→(∀D,Closed ops D→D (π i)→D (π j))→j≠i→Ls l π listed j:=fun j hj h3 hne=>((hgetL j).1 ⟨hj,h3 _ hcl' ((hget _).2 (.inr rfl))⟩).resolve_right hne
  have hnot:∀j,(∀D,Closed ops D→D (π j)→D (π i))→¬Ls l π listed j:=fun j h3 h4=>hund (h3 _ hcl h4.2)
  have hrem':∀j,j<ops.size→((listed.setIfInBounds (π i) true).getD j true=false↔j∈rem.erase (π i)):=fun j hj=>by
   rw[hnd.mem_erase_iff]
   by_cases e:π i=j
   ·subst e
    simp[hsz,hisz]
   ·rw[getD_set_ne true e,hrem j hj]
    simp[Ne.symm e]
  have hfu':(rem.erase (π i)).length≤fuel:=by
   rw[List.length_erase_of_mem hir]
   omega
  have hsz':(listed.setIfInBounds (π i) true).size=ops.size:=by simp[hsz]
  have hstep:=hT i it hit
  have hci:=hchk i o it ho hit
  have hundL:¬Ls l π listed i:=fun h=>hund h.2
  have hdat:∀j jt t,j<i→l[j]? = some jt→jt.d=some t→t∈it.rds→Ls l π listed j:=fun j jt t hlt h3 h6 htr=>by
   rcases htie j i jt it hlt h3 hit (by simp[SItem.tied,h6,htr]) with h|⟨e,hlo,_⟩|⟨rfl,hfr,_⟩
   ·exact hdn j (by omega) h (by omega)
   ·exact absurd htr ((rB hlo).2.1 t h6)
   ·obtain⟨e,u,f1,f2,f3,f4,f5⟩:=xB hfr
    have:t=u:=by
     unfold SItem.rds at htr
     rw[f1,f3] at htr
     simpa[SOp.rds,O.rd] using htr
    exact absurd (this ▸ h6) (f5 jt (List.mem_of_getElem? h3))
  have hdat2:∀j jt t,i<j→l[j]? = some jt→jt.d=some t→t∈it.rds→¬Ls l π listed j:=fun j jt t hlt h3 h6 htr=>by
   rcases htie i j it jt hlt hit h3 (by simp[SItem.tied,h6,htr]) with h|⟨e,hlo,_⟩|⟨rfl,hfr,_⟩
   ·exact hnot j h
   ·exact absurd htr ((rB hlo).2.2 t h6)
   ·obtain⟨e,u,f1,f2,f3,f4,f5⟩:=xB hfr
    rw[hz] at hit
    simp only[oi] at hit
    subst hit
    rw[f2] at h6
    simp only[oi] at h6
    exact absurd (h6 ▸ hzr t htr) f4
  rcases hst with⟨hm,hok⟩|⟨hpz,hzL,⟨j0,hj0,hj0n⟩,hm,hok,hF⟩
  ·
   obtain⟨γ,S,R⟩:=hok
   by_cases hfree:it.free l k=true∧p≤z∧z<i
   ·
    obtain⟨hfr,hpz,hzi⟩:=hfree
    obtain⟨e,u,f1,f2,f3,f4,f5⟩:=xB hfr
    have hq:it.o.quiet=true:=by rw[f3];rfl
    by_cases hcont:∀m mt,l[m]? = some mt→p≤m→m<i→m≠z→mt.o.quiet=true
    ·have h5:=M4 (C:=C) (nz:=0) hT' hz zg zd zo c1 c2 f5 i hpi (by omega) hcont
     have h6:s.env u=(T p).env u:=hm.old u (fun j jt h7 _ _ h9=>f5 jt (List.mem_of_getElem? h7) h9)
     obtain⟨v,hx,hrun⟩:=Wg (C:=C) (n':=nx+32*i) f1 f2 f3 hstep (h6.trans h5.symm)
     refine pM R hci hC (U':=Up π nx p) (fun h=>by rw[hq] at h;simp at h) (fun k h=>h) (fun h=>by rw[hq] at h;simp at h) hrun ho ?_
     intro a' w' hok'
     exact ih _ (rem.erase (π i)) p _ a' w' hsz' (hnd.erase _) hrem' hfu' hcl' hp (.inl ⟨Mid.step hun hm hit hpi hq hx hgetL,hok'⟩)
    ·exfalso
     refine hcont fun m mt h3 h4 h5 h6=> ?_
     cases hqm:mt.o.quiet with
     |true=>rfl
     |false =>
      rcases htie m i mt it h5 h3 hit (by simp[SItem.tied,hqm]) with h|⟨_,hlo,_⟩|⟨e1,_,_⟩
      ·have:=hm.bar m mt h3 h4 (hdn m (by omega) h (by omega))
       rw[hqm] at this;simp at this
      ·rw[(rB hlo).1] at hqm;simp at hqm
      ·exact absurd e1 h6
   have hbetween:∀j jt,l[j]? = some jt→p≤j→j<i→jt.o.quiet=true:=fun j jt h3 h4 h5=>by
    cases hq:jt.o.quiet with
    |true=>rfl
    |false =>
     have hd:Ls l π listed j:=by
      rcases htie j i jt it h5 h3 hit (by simp[SItem.tied,hq]) with h|⟨_,hlo,_⟩|⟨rfl,hfr,_⟩
      ·exact hdn j (by omega) h (by omega)
      ·rw[(rB hlo).1] at hq;simp at hq
      ·exact absurd ⟨hfr,h4,h5⟩ hfree
     rw[hm.bar j jt h3 h4 hd] at hq
     simp at hq
   have htext:=Mid.text (C:=C) hT' hun hpi (by omega) hbetween
   have hag:=Mid.agree hun hm htext hit hundL hdat hdat2
   cases hq:it.o.quiet with
   |true =>
    obtain⟨x,hx,hx2⟩:=gC hq hstep
    have hrun:=hx2 s (nx+32*i) hag
    refine pM R hci hC (U':=Up π nx p) (fun h=>by rw[hq] at h;simp at h) (fun k h=>h) (fun h=>by rw[hq] at h;simp at h) hrun ho ?_
    intro a' w' hok'
    exact ih _ (rem.erase (π i)) p _ a' w' hsz' (hnd.erase _) hrem' hfu' hcl' hp (.inl ⟨Mid.step hun hm hit hpi hq hx hgetL,hok'⟩)
   |false =>
    by_cases hiz:i=z
    case neg =>
     have hafter:∀j,i<j→j<l.length→¬Ls l π listed j:=fun j hj hjl=>by
      obtain⟨jt,hjt⟩:∃jt,l[j]? = some jt:=⟨l[j],List.getElem?_eq_getElem hjl⟩
      rcases htie i j it jt hj hit hjt (by simp[SItem.tied,hq]) with h|⟨_,hlo,_⟩|⟨e,_⟩
      ·exact hnot j h
      ·rw[(rB hlo).1] at hq;simp at hq
      ·exact absurd e hiz
     have hb:∀j,j<i→Ls l π listed j:=fun j hj=>by
      obtain⟨jt,hjt⟩:∃jt,l[j]? = some jt:=⟨l[j]'(by omega),List.getElem?_eq_getElem (by omega)⟩
      rcases htie j i jt it hj hjt hit (by simp[SItem.tied,hq]) with h|⟨e,_⟩|⟨_,hfr,_⟩
      ·exact hdn j (by omega) h (by omega)
      ·exact absurd e hiz
      ·obtain⟨e,u,f1,f2,f3,f4,f5⟩:=xB hfr
       rw[f3] at hq;simp[SOp.quiet] at hq
     have hs:s=T i:=hm.unique htext (fun j hj=>⟨fun h3=>by
      rcases Nat.lt_trichotomy j i with h4|h4|h4
      ·exact h4
      ·subst h4;exact absurd h3 hundL
      ·exact absurd h3 (hafter j h4 hj),fun h3=>hb j h3⟩)
     subst hs
     refine pM R hci hC (U':=Up π nx (i+1)) (fun _ k h3 h4 h5=>hUn i hil k h3 h4 (hUm _ _ hpi k h5)) (hUm _ _ (by omega)) (fun _ k h3 h4=>hUs i k h3 h4) hstep ho ?_
     intro a' w' hok'
     refine ih _ (rem.erase (π i)) (i+1) _ a' w' hsz' (hnd.erase _) hrem' hfu' hcl' (by omega) (.inl ⟨?_,hok'⟩)
     refine⟨fun j hj=>(hgetL j).2 ?_,fun j jt h3 h4 h5=> ?_,rfl,rfl,rfl,fun j jt t h3 h4 h5=> ?_,fun t _=>rfl⟩
     ·rcases Nat.lt_or_ge j i with h|h
      ·exact .inl (hb j h)
      ·exact .inr (by omega)
     ·rcases (hgetL j).1 h5 with h6|h6
      ·exact absurd h6 (hafter j (by omega) (List.getElem?_eq_some_iff.1 h3).1)
      ·omega
     ·rcases (hgetL j).1 h5 with h6|h6
      ·exact absurd h6 (hafter j (by omega) (List.getElem?_eq_some_iff.1 h3).1)
      ·omega
    case pos =>
    subst hiz
    rw[hz] at hit
    simp only[oi] at hit
    subst hit
    have hop:opS C (T i) (some d) (nx+32*π i) (.cutm sz (.t k) lo hi)=some (T (i+1)):=by
     have:=hstep
     unfold itS at this
     rw[zg] at this
     simpa only[zd,zo] using this
    obtain⟨H,r,hT1,hop2⟩:=T1 hop hag.1 (hm.fr.trans htext.fr.symm) (hag.2 k hkr) c1 c2
    by_cases hb:∀j,j<i→Ls l π listed j
    ·have hstep2:itS C s (nx+32*π i) iz=some ((s.with H).put (some d) r):=by
      unfold itS
      rw[zg]
      simpa only[zd,zo] using hop2
     refine pM R hci hC (U':=Up π nx (i+1)) (fun _ k h3 h4 h5=>hUn i hil k h3 h4 (hUm _ _ hpi k h5)) (hUm _ _ (by omega)) (fun _ k h3 h4=>hUs i k h3 h4) hstep2 ho ?_
     intro a' w' hok'
     exact ih _ (rem.erase (π i)) (i+1) _ a' w' hsz' (hnd.erase _) hrem' hfu' hcl' (by omega) (.inl ⟨Mid.cut hun hm htext hpi hz zd hb hundL hT1 hgetL,hok'⟩)
    ·
     obtain⟨j0,hj0'⟩:=Classical.not_forall.1 hb
     obtain⟨hj0,hj0n⟩:=Classical.not_imp.1 hj0'
     unfold SItem.chk at hci
     simp only[bE,zqd] at hci
     obtain⟨⟨⟨k1,k2⟩,k3⟩,k4⟩:=hci
     rw[zo] at k3
     obtain⟨A,n1,cap,l1,h1',q1,q2,q3,q4⟩:=Yx R k3 c1 c2 hop2
     have hwanted:Region.wanted o (yielded ops a.tmps)=true:=by
      unfold Region.wanted
      rw[zg] at k4
      cases hog:o.guard with
      |none=>rfl
      |some x=>rw[hog] at k4;simp at k4
     unfold wpOp
     rw[ho]
     simp only
     rw[if_pos hwanted]
     refine .inl ?_
     unfold Oper.wp
     rw[q4,Oper.upon_value,k1,zd]
     have hds:d<a.tmps.size:=by rw[R.sz (w:=w)];rw[k1,zd] at k2;simpa using k2
     refine ih _ (rem.erase (π i)) p s _ w hsz' (hnd.erase _) hrem' hfu' hcl' hp (.inr ⟨hpi,(hget _).2 (.inr rfl),⟨j0,hj0,fun h=> ?_⟩,hm.congr (fun j=>⟨fun h=>⟨(hgetL j).2 (.inl h),fun e=>by subst e;exact hundL h⟩,fun h=>((hgetL j).1 h.1).resolve_right h.2⟩),⟨γ,S,R.lose (w:=w) _⟩,⟨A,n1,cap,l1,h1',?_,q2,q3,?_⟩⟩)
     ·rcases (hgetL j0).1 ⟨by omega,h⟩ with h|h
      ·exact hj0n h
      ·omega
     ·rw[oB,if_neg (fun h=>hkd (by simpa using h.1.symm)),q1]
     ·rw[oB,if_pos ⟨rfl,hds⟩]
  ·
   obtain⟨γ,S,R⟩:=hok
   have hine:i≠z:=fun e=>by subst e;exact hund hzL
   have hallz:∀m mt,l[m]? = some mt→z<m→mt.free l k=false→¬Ls l π (listed.setIfInBounds (π i) true) m:=fun m mt hmt hzm hfm h=>by
    have hml:=h.1
    obtain⟨jt,hjt⟩:∃jt,l[j0]? = some jt:=⟨l[j0]'(by omega),List.getElem?_eq_getElem (by omega)⟩
    have hz1:(listed.setIfInBounds (π i) true).getD (π z) false=true:=(hget _).2 (.inl hzL)
    have h3:(listed.setIfInBounds (π i) true).getD (π j0) false=true:=by
     rcases htie j0 z jt iz hj0 hjt hz (by simp[SItem.tied,hzq]) with h4|⟨_,_,h4⟩|⟨e,_⟩
     ·exact h4 _ hcl' hz1
     ·exact h4 m mt hzm hmt hfm _ hcl' h.2
     ·omega
    rcases (hgetL j0).1 ⟨by omega,h3⟩ with h4|h4
    ·exact hj0n h4.2
    ·subst h4
     rcases htie j0 z jt iz hj0 hjt hz (by simp[SItem.tied,hzq]) with h5|⟨_,_,h5⟩|⟨e,_⟩
     ·exact hund (h5 _ hcl hzL)
     ·rcases (hgetL m).1 h with h6|h6
      ·exact hund (h5 m mt hzm hmt hfm _ hcl h6.2)
      ·omega
     ·omega
   have hbz:∀j jt,l[j]? = some jt→p≤j→j<z→jt.o.quiet=true:=fun j jt h3 h4 h5=>by
    cases hqj:jt.o.quiet with
    |true=>rfl
    |false =>
     rcases htie j z jt iz h5 h3 hz (by simp[SItem.tied,hqj]) with h|⟨_,hlo,_⟩|⟨e,_⟩
     ·have:=hm.bar j jt h3 h4 ⟨⟨by omega,h _ hcl hzL⟩,by omega⟩
      rw[hqj] at this;simp at this
     ·rw[(rB hlo).1] at hqj;simp at hqj
     ·omega
   have hod:o.dst=it.d:=by
    unfold SItem.chk at hci
    simp only[bE,zqd] at hci
    exact hci.1.1.1
   by_cases hzi:z<i
   ·
    have hfr:it.free l k=true:=by
     cases hf:it.free l k with
     |true=>rfl
     |false=>exact absurd ((hgetL i).2 (.inr rfl)) (hallz i it hit hzi hf)
    obtain⟨e,u,f1,f2,f3,f4,f5⟩:=xB hfr
    have hq:it.o.quiet=true:=by rw[f3];rfl
    have hcont:∀m mt,l[m]? = some mt→p≤m→m<i→m≠z→mt.o.quiet=true:=fun m mt h3 h4 h5 h6=>by
     rcases Nat.lt_or_ge m z with h7|h7
     ·exact hbz m mt h3 h4 h7
     ·cases hqm:mt.o.quiet with
      |true=>rfl
      |false =>
       rcases htie m i mt it h5 h3 hit (by simp[SItem.tied,hqm]) with h|⟨e1,_⟩|⟨e1,_⟩
       ·have h9:=hdn m (by omega) h (by omega)
        refine absurd ((hgetL m).2 (.inl h9)) (hallz m mt h3 (by omega) ?_)
        cases hf:mt.free l k with
        |false=>rfl
        |true =>
         obtain⟨_,_,_,_,g3,_⟩:=xB hf
         rw[g3] at hqm;simp[SOp.quiet] at hqm
       ·omega
       ·exact absurd e1 h6
    have h5:=M4 (C:=C) (nz:=0) hT' hz zg zd zo c1 c2 f5 i hpi (by omega) hcont
    have h6:s.env u=(T p).env u:=hm.old u (fun j jt h7 _ _ h9=>f5 jt (List.mem_of_getElem? h7) h9)
    have hud:u≠d:=fun e=>f5 iz (List.mem_of_getElem? hz) (by rw[zd,e])
    have h7:(s.lose (some d)).env u=(T i).env u:=by
     show upd s.env d none u=_
     rw[l6,if_neg hud]
     exact h6.trans h5.symm
    obtain⟨v0,hx,hrun⟩:=Wg (C:=C) (n':=nx+32*i) f1 f2 f3 hstep h7
    have hide:it.d≠some d:=fun e=>by
     have:=hun z i iz it hzi hz hit
     simp[SItem.unlike,e,zd] at this
    have hidk:it.d≠some k:=fun e=>by rw[f2] at e;simp only[oi] at e;exact f4 e
    refine No R hci hC (U':=Up π nx p) (fun h=>by rw[hq] at h;simp at h) (fun k h=>h) (fun h=>by rw[hq] at h;simp at h) hrun ho ?_
    intro v w' hok'
    rw[Rl hide] at hok'
    have hF':zkt d sz k lo hi (a.put o.dst v):=by
     obtain⟨A,n1,cap,l1,h1',q1,q2,q3,q4⟩:=hF
     refine⟨A,n1,cap,l1,h1',?_,q2,q3,?_⟩
     ·rw[oB,if_neg (fun h=>hidk (hod ▸ h.1)),q1]
     ·rw[oB,if_neg (fun h=>hide (hod ▸ h.1)),q4]
    have hm':Mid l T (fun j=>Ls l π (listed.setIfInBounds (π i) true) j∧j≠z) p (s.putO it.d (some v0)):=Mid.step hun hm hit hpi hq hx (fun j=>by
     rw[hgetL j]
     constructor
     ·rintro ⟨h|h,h'⟩
      ·exact .inl ⟨h,h'⟩
      ·exact .inr h
     ·rintro(⟨h,h'⟩|h)
      ·exact⟨.inl h,h'⟩
      ·exact⟨.inr h,by omega⟩)
    refine ih _ (rem.erase (π i)) p _ _ w' hsz' (hnd.erase _) hrem' hfu' hcl' hp (.inr ⟨hpz,(hget _).2 (.inl hzL),⟨j0,hj0,fun h=> ?_⟩,hm',hok',hF'⟩)
    rcases (hgetL j0).1 ⟨by omega,h⟩ with h|h
    ·exact hj0n h.2
    ·omega
   have hiz:i<z:=by omega
   have hlo:it.loose iz=true:=by
    rcases htie i z it iz hiz hit hz (by simp[SItem.tied,hzq]) with h|⟨_,h,_⟩|⟨e,_⟩
    ·exact absurd (h _ hcl hzL) hund
    ·exact h
    ·omega
   obtain⟨hq,hl1,hl2⟩:=rB hlo
   have htext:=Mid.text (C:=C) hT' hun hpi (by omega) (fun j jt h3 h4 h5=>hbz j jt h3 h4 (by omega))
   have hag:=Mid.agree hun hm htext hit (fun h=>hundL h.1) (fun j jt t hlt h3 h6 htr=>⟨hdat j jt t hlt h3 h6 htr,by omega⟩) (fun j jt t hlt h3 h6 htr h=>hdat2 j jt t hlt h3 h6 htr h.1)
   have hag2:pJ it.rds (T i) (s.lose (some d)):=⟨by rw[kE];exact hag.1,fun t htr=>by
    have:t≠d:=fun e=>hl2 d zd (e ▸ htr)
    show upd s.env d none t=_
    rw[l6,if_neg this]
    exact hag.2 t htr⟩
   obtain⟨x,hx,hx2⟩:=gC hq hstep
   have hrun:=hx2 (s.lose (some d)) (nx+32*i) hag2
   have hide:it.d≠some d:=fun e=>by
    have:=hun i z it iz hiz hit hz
    simp[SItem.unlike,e,zd] at this
   have hidk:it.d≠some k:=fun e=>hl1 k e hkr
   refine No R hci hC (U':=Up π nx p) (fun h=>by rw[hq] at h;simp at h) (fun k h=>h) (fun h=>by rw[hq] at h;simp at h) hrun ho ?_
   intro v w' hok'
   rw[Rl hide] at hok'
   have hF':zkt d sz k lo hi (a.put o.dst v):=by
    obtain⟨A,n1,cap,l1,h1',q1,q2,q3,q4⟩:=hF
    refine⟨A,n1,cap,l1,h1',?_,q2,q3,?_⟩
    ·rw[oB,if_neg (fun h=>hidk (hod ▸ h.1)),q1]
    ·rw[oB,if_neg (fun h=>hide (hod ▸ h.1)),q4]
   have hm':Mid l T (fun j=>Ls l π (listed.setIfInBounds (π i) true) j∧j≠z) p (s.putO it.d x):=Mid.step hun hm hit hpi hq hx (fun j=>by
    rw[hgetL j]
    constructor
    ·rintro ⟨h|h,h'⟩
     ·exact .inl ⟨h,h'⟩
     ·exact .inr h
    ·rintro(⟨h,h'⟩|h)
     ·exact⟨.inl h,h'⟩
     ·exact⟨.inr h,by omega⟩)
   by_cases hb:∀j,j<z→(listed.setIfInBounds (π i) true).getD (π j) false=true
   ·
    have htz:=Mid.text (C:=C) hT' hun hpz (by omega) hbz
    have hag3:pJ iz.rds (T z) (s.putO it.d x):=Mid.agree hun hm' htz hz (fun h=>h.2 rfl) (fun j jt t hlt _ _ _=>⟨⟨by omega,hb j hlt⟩,by omega⟩) (fun j jt t hlt h3 h6 htr h=>by
     cases hf:jt.free l k with
     |false=>exact hallz j jt h3 hlt hf h.1
     |true =>
      obtain⟨e,u,f1,f2,f3,f4,f5⟩:=xB hf
      rw[f2] at h6
      simp only[oi] at h6
      exact f4 (h6 ▸ hzr t htr))
    obtain⟨γ',S',R'⟩:=hok'
    have hzs:=hπ z hzl
    obtain⟨oz,hoz⟩:∃oz,ops[π z]? = some oz:=⟨ops[π z],Array.getElem?_eq_getElem hzs⟩
    have hcz:=hchk z oz iz hoz hz
    unfold SItem.chk at hcz
    simp only[bE,zqd] at hcz
    obtain⟨⟨⟨k1,k2⟩,k3⟩,k4⟩:=hcz
    rw[zo] at k3
    have hop:opS C (T z) (some d) (nx+32*π z) (.cutm sz (.t k) lo hi)=some (T (z+1)):=by
     have:=hT z iz hz
     unfold itS at this
     rw[zg] at this
     simpa only[zd,zo] using this
    obtain⟨H,r,hT1,hop2⟩:=T1 hop hag3.1 (hm'.fr.trans htz.fr.symm) (hag3.2 k hkr) c1 c2
    have hok2:=zzz R' (fun k hk=>by rw[hk] at k2;simpa using k2) k3 (k1.trans zd) hkd c1 c2 hC hF' hop2 (U':=Up π nx (z+1)) (fun k h3 h4 h5=>hUn z hzl k h3 h4 (hUm _ _ hpz k h5)) (hUm _ _ (by omega)) (fun k h3 h4=>hUs z k h3 h4)
    refine ih _ (rem.erase (π i)) (z+1) _ _ w' hsz' (hnd.erase _) hrem' hfu' hcl' (by omega) (.inl ⟨Mid.cut hun hm' htz hpz hz zd (fun j h=>⟨⟨by omega,hb j h⟩,by omega⟩) (fun h=>h.2 rfl) hT1 (fun j=> ?_),hok2⟩)
    constructor
    ·intro h
     by_cases e:j=z
     ·exact .inr e
     ·exact .inl ⟨h,e⟩
    ·rintro(h|rfl)
     ·exact h.1
     ·exact⟨hzl,(hget _).2 (.inl hzL)⟩
   ·obtain⟨j1,hj1'⟩:=Classical.not_forall.1 hb
    obtain⟨hj1,hj1n⟩:=Classical.not_imp.1 hj1'
    exact ih _ (rem.erase (π i)) p _ _ w' hsz' (hnd.erase _) hrem' hfu' hcl' hp (.inr ⟨hpz,(hget _).2 (.inl hzL),⟨j1,hj1,hj1n⟩,hm',hok',hF'⟩)
theorem Ij{b:Nat}:∀{l:List DItem} {s s':St},opsD C b l s=some s'→∃T:Nat→St,T 0=s∧(∀k y,l[k]? = some y→itS C (T k) (b+32*y.ix) y.it=some (T (k+1)))∧s'=T l.length
 |[],s,s',h=>by
  simp only[opsD,oi] at h
  exact⟨fun _=>s,rfl,fun k it h=>by simp at h,h.symm⟩
 |y::l,s,s',h=>by
  simp only[opsD,aA] at h
  obtain⟨s1,h1,u,h0,h2⟩:=h
  obtain⟨T,h3,h4,h5⟩:=Ij h2
  refine⟨fun k=>match k with|0=>s|k+1=>T k,rfl,fun k y' hk=> ?_,h5⟩
  cases k with
  |zero =>
   simp only[List.getElem?_cons_zero,oi] at hk
   subst hk
   simp only[h3]
   exact h1
  |succ k=>exact h4 k y' (by simpa using hk)
theorem Wb{l:List DItem}{st st':St}{a:Act}{w:World}(hC:CallOk c.P C)(hc:Td c.P c.nt ops l=true)(hs:opsD C st.next l st=some st')(hok:Okn c st a w){Q:Exit→Act→World→Prop}(hQ:∀a' w',Okn c {st' with next:=st.next+32*l.length} a' w'→Q .normal a' w'){rid:Nat} :
  (Code.region rid ops true).wp c.P Q a w:=by
 unfold Td at hc
 split at hc
 ·rename_i z hf
  split at hc
  case h_2=>simp at hc
  rename_i d sz k lo hi hlz
  simp only[bE,zqd,List.all_eq_true] at hc
  obtain⟨⟨⟨⟨⟨⟨h1,h2⟩,hcov⟩,h3⟩,h4⟩,h5⟩,h6⟩:=hc
  obtain⟨yz,hz,hlt⟩:=Option.bind_eq_some_iff.1 hlz
  obtain⟨T,hT0,hT,hst⟩:=Ij hs
  have hties:=Ym h6
  refine wp_region_any h1 ?_
  obtain⟨γ,S,R⟩:=hok
  have hbf:∀i j,((zz3 ops.toList []).getD j 0).testBit i=true→∀D,Closed ops D→D j→D i:=fun i j h D hD hj=>Jy hD ops.toList [] (fun k=>by simp) (fun j i h=>by simp at h) j i h hj
  have hel:∀(k:Nat) (x:SItem),(l.map DItem.it)[k]? = some x→∃y,l[k]? = some y∧y.it=x:=fun k x h=>by
   rw[List.getElem?_map] at h
   exact Option.map_eq_some_iff.1 h
  have hget:∀q,q<l.length→∃y,l[q]? = some y∧y∈l:=fun q hq=>⟨l[q],List.getElem?_eq_getElem hq,List.getElem_mem hq⟩
  have hrep:∀j,¬(Array.replicate ops.size false).getD j false=true:=fun j h=>by
   by_cases h5:j<ops.size<;>simp[h5] at h
  have hsz:∀y∈l,y.ix<ops.size:=fun y hy=>by
   have h9:=h4 y hy
   split at h9
   ·rename_i o ho;exact(Array.getElem?_eq_some_iff.1 ho).1
   ·simp at h9
  have hpw:l.Pairwise fun x y=>x.ix≠y.ix:=(vG h5).imp (fun h=>by simpa using h)
  have hne:∀(q q':Nat) (y y':DItem),q<q'→l[q]? = some y→l[q']? = some y'→y.ix≠y'.ix:=fun q q' y y' hlt hq hq'=>by
   obtain⟨b1,e1⟩:=List.getElem?_eq_some_iff.1 hq
   obtain⟨b2,e2⟩:=List.getElem?_eq_some_iff.1 hq'
   have:=List.pairwise_iff_getElem.1 hpw q q' b1 b2 hlt
   rwa [e1,e2] at this
  refine zWJ (T:=T) (nx:=st.next) (l:=l.map DItem.it) hC (fun q=>match l[q]? with|some y=>y.ix|none=>0) (z:=z) (iz:=yz.it) (by simp[hz]) hlt (fun q hq=> ?_) (fun q q' hq hq' e=> ?_) (fun i hi'=> ?_) (fun k it hk=> ?_) (fun i j x y hij hx hy=> ?_) (fun q o it ho hit=> ?_)
   (fun k o ho e he hb=>by simpa using sE h3 k o (by simpa using ho) e he hb) (fun i j x y hij hx hy ht=> ?_) (fun a' w' hok'=> ?_)
   ops.size (Array.replicate ops.size false) (List.range ops.size) 0 st a _ (by simp) List.nodup_range (fun j hj=>by simp[hj]) (by simp) (fun j o hj h=> ?_) (Nat.zero_le _) (.inl ⟨?_,⟨γ,S,(R.drew).mono (fun k hk=> .inl hk)⟩⟩)
  ·rw[lm] at hq
   obtain⟨y,hy,hm⟩:=hget q hq
   simp only[hy]
   exact hsz y hm
  ·rw[lm] at hq hq'
   obtain⟨y,hy,_⟩:=hget q hq
   obtain⟨y',hy',_⟩:=hget q' hq'
   simp only[hy,hy'] at e
   rcases Nat.lt_trichotomy q q' with h|h|h
   ·exact absurd e (hne q q' y y' h hy hy')
   ·exact h
   ·exact absurd e.symm (hne q' q y' y h hy' hy)
  ·have:=hcov i (List.mem_range.2 hi')
   rw[List.any_eq_true] at this
   obtain⟨y,hy,e⟩:=this
   obtain⟨q,hq⟩:=List.mem_iff_getElem?.1 hy
   refine⟨q,by rw[lm];exact(List.getElem?_eq_some_iff.1 hq).1,?_⟩
   simp only[hq]
   simpa using e
  ·obtain⟨y,hy,rfl⟩:=hel k it hk
   simp only[hy]
   exact hT k y hy
  ·obtain⟨x',hx',rfl⟩:=hel i x hx
   obtain⟨y',hy',rfl⟩:=hel j y hy
   exact(hties i j x' y' hij hx' hy').1
  ·obtain⟨y,hy,rfl⟩:=hel q it hit
   simp only[hy] at ho
   have h9:=h4 y (List.mem_of_getElem? hy)
   rw[ho] at h9
   exact h9
  ·obtain⟨x',hx',rfl⟩:=hel i x hx
   obtain⟨y',hy',rfl⟩:=hel j y hy
   simp only[hx',hy']
   rcases (hties i j x' y' hij hx' hy').2 ht with h|⟨e,h5,h6⟩|⟨e,h5,h6⟩
   ·exact .inl (hbf _ _ h)
   ·refine .inr (.inl ⟨e,h5,fun m mt hm hl hfr=> ?_⟩)
    obtain⟨q,hq,rfl⟩:=hel m mt hl
    simp only[hq]
    exact hbf _ _ (h6 m q hm hq hfr)
   ·refine .inr (.inr ⟨e,h5,fun m mt hm hmj hl=> ?_⟩)
    obtain⟨q,hq,rfl⟩:=hel m mt hl
    exact h6 m q hm hmj hq
  ·refine hQ a' w' ?_
   rw[hst]
   rw[lm] at hok'
   obtain⟨γ',S',R'⟩:=hok'
   have R2:=R'.mono (U':=fun k=>k<st.next+32*l.length) (fun k hk=>by
    rcases hk with h|⟨q,hq,h7,h8⟩
    ·show k<_;omega
    ·obtain⟨y,hy,hm⟩:=hget q hq
     simp only[hy] at h7 h8
     have:=hsz y hm
     show k<_
     omega)
   exact⟨γ',S',⟨R2.mm,R2.os,R2.tape,R2.output,R2.size,R2.keep,R2.own,R2.hd,R2.sg,R2.s0,R2.s00,R2.env,R2.ids,R2.hid,R2.dom,R2.df,R2.sz,R2.iso⟩⟩
  ·by_cases h5:j<ops.size<;>simp[h5] at h
  ·rw[←hT0]
   refine⟨fun j h=>by omega,fun j it hj _ h=> ?_,rfl,rfl,rfl,fun j it t hj _ h=> ?_,fun t _=>rfl⟩
   ·exact absurd h.2 (hrep _)
   ·exact absurd h.2 (hrep _)
 ·simp at hc
end
end Go.Ev
