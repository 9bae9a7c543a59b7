import Derived.Test.YtenclibcnjkamaaGreatEvAdd
set_option linter.all false
namespace Go.Ev
structure Near (da:Nat) (s s2:St):Prop where
 heap:s2.heap=s.heap
 fr:s2.fr=s.fr
 next:s2.next=s.next
 env:∀t,t≠da→s2.env t=s.env t
section
variable{C:Cl}{da:Nat}{s s2 s':St}
theorem Near.ag(h:Near da s s2){l:List Nat}(hl:da∉l):pJ l s s2:=⟨h.heap,fun t ht=>h.env t (fun e=>hl (e ▸ ht))⟩
theorem Near.put(h:Near da s s2)(d:Option Nat)(x:X):Near da (s.put d x) (s2.put d x):=by
 cases d with
 |none=>exact h
 |some d =>
  refine⟨h.heap,h.fr,h.next,fun t ht=> ?_⟩
  simp only[St.put,upd]
  split
  ·rfl
  ·exact h.env t ht
theorem Near.lose(h:Near da s s2)(d:Option Nat):Near da (s.lose d) (s2.lose d):=by
 cases d with
 |none=>exact h
 |some d =>
  refine⟨h.heap,h.fr,h.next,fun t ht=> ?_⟩
  simp only[St.lose,upd]
  split
  ·rfl
  ·exact h.env t ht
theorem Near.with(h:Near da s s2)(m:Heap):Near da (s.with m) (s2.with m):=⟨rfl,h.fr,h.next,h.env⟩
theorem Near.purge(h:Near da s s2)(f:X→Bool)(m:Heap):Near da {s with heap:=m,env:=fun t=>(s.env t).bind fun x=>if f x then none else some x} {s2 with heap:=m,env:=fun t=>(s2.env t).bind fun x=>if f x then none else some x} :=
 ⟨rfl,h.fr,h.next,fun t ht=>by simp only[h.env t ht]⟩
theorem Bt(h:Near da s s2){d:Option Nat}{id:Nat}{x:X}{m:Heap}(hs:kP s d id x m=some s'):∃s2',kP s2 d id x m=some s2'∧Near da s' s2':=by
 unfold kP at hs ⊢
 split at hs
 ·rename_i hx
  simp only[oi] at hs
  subst hs
  rw[if_pos hx,h.fr]
  exact⟨_,rfl,(h.with _).put _ _⟩
 ·simp at hs
theorem H6(h:Near da s s2){n:Nat}{a:X}{cs:List X}(hs:sT s n a cs=some s'):∃s2',sT s2 n a cs=some s2'∧Near da s' s2':=by
 unfold sT at hs ⊢
 split at hs
 ·rename_i id q j i
  simp only[aA] at hs
  obtain⟨b,h1,hs⟩:=hs
  split at hs
  ·rename_i hn
   simp only[aA] at hs
   obtain⟨r,h2,el,h3,hs⟩:=hs
   split at hs
   ·rename_i hi
    simp only[aC] at hs
    obtain⟨m,h4,rfl⟩:=hs
    simp only[h.heap,h1,obs,if_pos hn,h2,h3,if_pos hi,h4,oms,oi,exists_eq_left']
    split
    ·exact⟨rfl,h.fr,h.next,h.env⟩
    ·exact h.purge (fun x=>x.hit id q j i n) m
   ·simp at hs
  ·simp at hs
 ·simp at hs
theorem Yq(h:Near da s s2){n:Nat}{o:O}{a y:X}(hs:uA s n o a y=some s'):∃s2',uA s2 n o a y=some s2'∧Near da s' s2':=by
 unfold uA at hs ⊢
 split at hs
 ·rename_i t id cs
  simp only[h.heap,h.fr]
  split at hs
  ·rename_i hc
   rw[if_pos hc]
   unfold Ch at hs ⊢
   split at hs
   ·rename_i sz el hd
    split at hs
    ·rename_i hel
     simp only[oi] at hs
     subst hs
     simp only[hd,if_pos hel,oi,exists_eq_left']
     refine⟨by simp only[h.heap],h.fr,h.next,fun t' ht=> ?_⟩
     simp only[upd]
     split
     ·rfl
     ·exact h.env t' ht
    ·simp at hs
   ·simp at hs
  ·simp at hs
 ·simp at hs
theorem Yk(h:Near da s s2){n:Nat}{o:O}{a y:X}(hs:qY s n o a y=some s'):∃s2',qY s2 n o a y=some s2'∧Near da s' s2':=by
 unfold qY at hs ⊢
 split at hs
 ·rw[if_pos ‹_›]
  generalize n-20000=k2 at *
  exact H6 h hs
 ·rw[if_neg ‹_›]
  generalize n-10000=k2 at *
  exact Yq h hs
theorem Es(h:Near da s s2){sz:Nat}:∀{os:List O} {m:Heap},da∉rG os→eS s2 sz m os=eS s sz m os
 |[],_,_=>rfl
 |o::os,m,hr=>by
  simp only[rG,List.mem_append,not_or] at hr
  simp only[eS,cO (h.ag hr.1) (fun t ht=>ht)]
  congr 1;funext x;congr 1;funext a
  split
  ·rw[Es h hr.2]
  ·rfl
theorem X9(h:Near da s s2){d:Option Nat}{id:Nat}{o:SOp}(hr:da∉o.rds)(hs:opS C s d id o=some s'):∃s2',opS C s2 d id o=some s2'∧Near da s' s2':=by
 by_cases hq:o.quiet=true
 ·obtain⟨x,rfl,hx⟩:=u6 hq hs
  exact⟨_,hx s2 id (h.ag hr),h.put d x⟩
 ·cases o with
  |store n x y =>
   simp only[SOp.rds,List.mem_append,not_or] at hr
   simp only[opS,aA,aC] at hs
   obtain⟨a,h1,b,h2,s1,h3,rfl⟩:=hs
   split at h3
   ·rename_i hk
    obtain⟨s1',h4,h5⟩:=Yk h h3
    exact⟨_,by simp only[opS,cO (h.ag hr.1) (fun t ht=>ht),cO (h.ag hr.2) (fun t ht=>ht),h1,h2,h4,obs,oms,if_pos hk],h5.lose d⟩
   ·rename_i hk
    obtain⟨s1',h4,h5⟩:=H6 h h3
    exact⟨_,by simp only[opS,cO (h.ag hr.1) (fun t ht=>ht),cO (h.ag hr.2) (fun t ht=>ht),h1,h2,h4,obs,oms,if_neg hk],h5.lose d⟩
  |box n x =>
   simp only[SOp.rds] at hr
   simp only[opS,aA] at hs
   obtain⟨a,h1,b,h2,h3⟩:=hs
   split at h3
   ·rename_i hn
    simp only[oi] at h3
    subst h3
    refine⟨_,by simp only[opS,cO (h.ag hr) (fun t ht=>ht),h.heap,h1,h2,obs,if_pos hn,h.fr],(h.with _).put _ _⟩
   ·simp at h3
  |clr x =>
   simp only[SOp.rds] at hr
   simp only[opS] at hs
   split at hs
   ·simp at hs
   ·rename_i hd
    simp only[aA] at hs
    obtain⟨p,h1,q,h2,r,h3,h4⟩:=hs
    split at h4
    ·rename_i hb
     rw[aC] at h4
     obtain⟨hh,h5,rfl⟩:=h4
     exact⟨_,by simp only[opS,if_neg hd,cO (h.ag hr) (fun t ht=>ht),h.heap,h1,h2,h3,h5,obs,if_pos hb,oms],h.with _⟩
    ·simp at h4
  |alloc zs =>
   simp only[opS,oi] at hs
   subst hs
   exact⟨_,by simp only[opS,h.heap,h.fr],(h.with _).put _ _⟩
  |lit sz ps =>
   simp only[SOp.rds] at hr
   simp only[opS,aC] at hs
   obtain⟨a,h1,rfl⟩:=hs
   exact⟨_,by simp only[opS,Es h hr,h.heap,h1,oms,h.fr],(h.with _).put _ _⟩
  |mk sz bytes zs m =>
   simp only[SOp.rds] at hr
   simp only[opS,aA] at hs
   obtain⟨p,h1,h3⟩:=hs
   split at h3
   ·rename_i hn
    simp only[oi] at h3
    subst h3
    exact⟨_,by simp only[opS,oT (h.ag hr) (fun t ht=>ht),h1,obs,if_pos hn,h.heap,h.fr],(h.with _).put _ _⟩
   ·simp at h3
  |cutm sz x lo hi =>
   simp only[SOp.rds,List.mem_append,not_or] at hr
   simp only[opS,aA] at hs
   obtain⟨p,h1,q,h2,l,h3,m,h4,h5⟩:=hs
   split at h5
   ·rename_i hn
    simp only[oi] at h5
    subst h5
    exact⟨_,by simp only[opS,cO (h.ag hr.1.1) (fun t ht=>ht),vB (h.ag hr.1.2) (fun t ht=>ht),vB (h.ag hr.2) (fun t ht=>ht),h.heap,h1,h2,h3,h4,obs,if_pos hn,h.fr],(h.with _).put _ _⟩
   ·simp at h5
  |app sz bytes x y =>
   simp only[SOp.rds,List.mem_append,not_or] at hr
   simp only[opS,aA] at hs
   obtain⟨p,h1,q,h2,l,h3,m,h4,h5⟩:=hs
   split at h5
   ·rename_i hn
    simp only[oi] at h5
    subst h5
    exact⟨_,by simp only[opS,cO (h.ag hr.1) (fun t ht=>ht),cO (h.ag hr.2) (fun t ht=>ht),h.heap,h1,h2,h3,h4,obs,if_pos hn,h.fr],(h.with _).put _ _⟩
   ·simp at h5
  |call f xs =>
   simp only[SOp.rds] at hr
   simp only[opS,aA] at hs
   obtain⟨as,h1,bs,h2,r,h3,h4⟩:=hs
   split at h4
   ·rename_i hn
    obtain⟨s2',h5,h6⟩:=Bt h h4
    exact⟨s2',by simp only[opS,vW (h.ag hr) (fun t ht=>ht),h1,h.heap,h2,h3,obs,if_pos hn,h5],h6⟩
   ·simp at h4
  |calli f xs =>
   simp only[SOp.rds,List.mem_append,not_or] at hr
   simp only[opS,aA] at hs
   obtain⟨x,h1,g,h2,as,h3,r,h4,h5⟩:=hs
   obtain⟨s2',h6,h7⟩:=Bt (da:=da) (s:={s with env:=qJ s.env}) (s2:={s2 with env:=qJ s2.env}) ⟨h.heap,h.fr,h.next,fun t ht=>by simp only[qJ,h.env t ht]⟩ h5
   refine⟨s2',?_,h7⟩
   simp only[opS,cO (h.ag hr.1) (fun t ht=>ht),vW (h.ag hr.2) (fun t ht=>ht),h1,h2,h3,obs]
   rw[h.heap,h.fr] at h6 ⊢
   rw[h4]
   exact h6
  |callb f xs bs =>
   simp only[SOp.rds] at hr
   simp only[opS,aA] at hs
   obtain⟨as,h1,m,h2,ys,h3,r,h4,h5⟩:=hs
   split at h5
   ·rename_i hn
    simp only[aA] at h5
    obtain⟨m2,h6,h7⟩:=h5
    obtain⟨s2',h8,h9⟩:=Bt (da:=da) (s:={s with env:=rO m.2.2 s.env}) (s2:={s2 with env:=rO m.2.2 s2.env}) ⟨h.heap,h.fr,h.next,fun t ht=>by simp only[rO,h.env t ht]⟩ h7
    refine⟨s2',?_,h9⟩
    simp only[opS,vW (h.ag hr) (fun t ht=>ht),h1,obs]
    rw[h.heap] at h8 ⊢
    simp only[h2,h3,h4,obs,if_pos hn,h6]
    exact h8
   ·simp at h5
  |_=>exact absurd rfl hq
theorem zVD(h:Near da s s2){id:Nat}{it:SItem}(hr:da∉it.rds)(hs:itS C s id it=some s'):∃s2',itS C s2 id it=some s2'∧Near da s' s2':=by
 unfold itS at hs ⊢
 unfold SItem.rds at hr
 split at hs
 ·rename_i hg
  simp only[hg,zqf] at hr
  exact X9 h hr hs
 ·rename_i g b hg
  simp only[hg,List.cons_append,zqf,List.mem_cons,not_or] at hr
  rw[h.env g (Ne.symm hr.1)]
  rw[aA] at hs
  obtain⟨t,h1,h2⟩:=hs
  simp only[h1,obs]
  split at h2
  ·rename_i e
   rw[if_pos e]
   exact X9 h hr.2 h2
  ·rename_i e
   simp only[oi] at h2
   subst h2
   rw[if_neg e]
   exact⟨_,rfl,h.put _ _⟩
end
def Re(C:Cl)(s:St)(x:SItem):Prop:=∃s2,itS C s 0 x=some s2∧∀d,x.d=some d→s2.env d=s.env d
inductive Run (C:Cl) (b:Nat):List DItem→List DItem→St→St→Prop where
 |nil {pre s}:Run C b pre [] s s
 |cons {pre y l s s1 t}:itS C s (b+32*y.ix) y.it=some s1→(y.it.o.quiet=false→∀x∈pre,x.it∈y.re→Re C s1 x.it)→Run C b (pre++[y]) l s1 t→Run C b pre (y::l) s t
theorem Run.less{C:Cl}{b:Nat}{pre l:List DItem}{s t:St}(h:Run C b pre l s t):∀{pre':List DItem},(∀x∈pre',x∈pre)→Run C b pre' l s t:=by
 induction h with
 |nil=>exact fun _=> .nil
 |cons h1 h2 _ ih =>
  intro pre' hp
  exact .cons h1 (fun hq x hx=>h2 hq x (hp x hx)) (ih (fun x hx=>by
   rcases List.mem_append.1 hx with h|h
   ·exact List.mem_append.2 (.inl (hp x h))
   ·exact List.mem_append.2 (.inr h)))
theorem zq4{C:Cl}{s:St}:∀{l:List SItem},reS C s l=some ()→∀x∈l,Re C s x
 |[],_,x,hx=>by simp at hx
 |y::l,h,x,hx=>by
  simp only[reS,aA] at h
  obtain⟨u,⟨s2,h1,h2⟩,h3⟩:=h
  rcases List.mem_cons.1 hx with rfl|hx
  ·refine⟨s2,h1,fun d hd=> ?_⟩
   unfold reK at h2
   rw[hd] at h2
   simp only at h2
   split at h2
   ·assumption
   ·simp at h2
  ·exact zq4 h3 x hx
theorem Wt{C:Cl}{b:Nat}:∀{l:List DItem} {pre:List DItem} {s t:St},opsD C b l s=some t→Run C b pre l s t
 |[],_,s,t,h=>by
  simp only[opsD,oi] at h
  subst h
  exact .nil
 |y::l,pre,s,t,h=>by
  simp only[opsD,aA] at h
  obtain⟨s1,h1,u,h2,h3⟩:=h
  exact .cons h1 (fun _ x _ hm=>zq4 h2 _ hm) (Wt h3)
structure Free (a i:DItem):Prop where
 q:a.it.o.quiet=true
 un:∀d,a.it.d=some d→i.it.d≠some d
 ai:∀d,a.it.d=some d→d∉i.it.rds
 ia:∀d,i.it.d=some d→d∉a.it.rds
 aa:i.it.o.quiet=false→∀d,a.it.d=some d→d∉a.it.rds
 re:i.it.o.quiet=false→a.it∈i.re
theorem Ra{s:St}{d e:Option Nat}{x y:Option X}(h:∀k,d=some k→e≠some k):(s.putO d x).putO e y=(s.putO e y).putO d x:=by
 have h1:=gA s d x
 have h2:=gA s e y
 have h3:=gA (s.putO d x) e y
 have h4:=gA (s.putO e y) d x
 have he:((s.putO d x).putO e y).env=((s.putO e y).putO d x).env:=funext fun t=>by
  rw[eQ,eQ,eQ,eQ]
  by_cases c1:e=some t
  ·by_cases c2:d=some t
   ·exact absurd c1 (h t c2)
   ·rw[if_pos c1,if_neg c2,if_pos c1]
  ·rw[if_neg c1,if_neg c1]
 have e1:((s.putO d x).putO e y).heap=((s.putO e y).putO d x).heap:=by rw[h3.1,h1.1,h4.1,h2.1]
 have e2:((s.putO d x).putO e y).fr=((s.putO e y).putO d x).fr:=by rw[h3.2.1,h1.2.1,h4.2.1,h2.2.1]
 have e3:((s.putO d x).putO e y).next=((s.putO e y).putO d x).next:=by rw[h3.2.2,h1.2.2,h4.2.2,h2.2.2]
 generalize (s.putO d x).putO e y=u at *
 generalize (s.putO e y).putO d x=v at *
 cases u;cases v
 simp only at he e1 e2 e3
 subst he;subst e1;subst e2;subst e3
 rfl
theorem zjD{s:St}{d:Option Nat}{x:Option X}{l:List Nat}(h:∀k,d=some k→k∉l):pJ l (s.putO d x) s :=
 ⟨(gA s d x).1.symm,fun t ht=>by
  rw[eQ]
  split
  ·rename_i e;exact absurd ht (h t e)
  ·rfl⟩
theorem Rr{s:St}{d:Nat}{x:Option X}:Near d (s.putO (some d) x) s :=
 ⟨(gA s _ x).1.symm,(gA s _ x).2.1.symm,(gA s _ x).2.2.symm,fun t ht=>by rw[eQ,if_neg (by simpa using Ne.symm ht)]⟩
theorem zk3{d:Nat}{s1 s1':St}{v:Option X}(h:Near d s1' s1)(hv:v=s1'.env d):s1.putO (some d) v=s1':=by
 have h1:=gA s1 (some d) v
 have he:(s1.putO (some d) v).env=s1'.env:=funext fun t=>by
  rw[eQ]
  by_cases e:d=t
  ·subst e;rw[if_pos rfl,hv]
  ·rw[if_neg (by simpa using e),h.env t (Ne.symm e)]
 have e1:=h1.1.trans h.heap
 have e2:=h1.2.1.trans h.fr
 have e3:=h1.2.2.trans h.next
 generalize s1.putO (some d) v=u at *
 cases u;cases s1'
 simp only at he e1 e2 e3
 subst he;subst e1;subst e2;subst e3
 rfl
theorem swap{C:Cl}{b:Nat}{a i:DItem}{s sa s1':St}(hf:Free a i)(ha:itS C s (b+32*a.ix) a.it=some sa)(hi:itS C sa (b+32*i.ix) i.it=some s1')(hr:i.it.o.quiet=false→Re C s1' a.it) :
  ∃s1,itS C s (b+32*i.ix) i.it=some s1∧itS C s1 (b+32*a.ix) a.it=some s1'∧(∀d,a.it.d=some d→Near d s1' s1)∧(a.it.d=none→s1=s1'):=by
 obtain⟨va,rfl,hva⟩:=gC hf.q ha
 cases hq:i.it.o.quiet with
 |true =>
  obtain⟨vi,rfl,hvi⟩:=gC hq hi
  refine⟨s.putO i.it.d vi,hvi s _ (zjD hf.ai),?_,fun d hd=> ?_,fun hn=> ?_⟩
  ·have:=hva (s.putO i.it.d vi) (b+32*a.ix) ⟨(gA ..).1,fun t ht=>by
    rw[eQ]
    split
    ·rename_i e;exact absurd ht (hf.ia t e)
    ·rfl⟩
   rw[this,Ra (fun k e=>hf.un k e)]
  ·rw[Ra (fun k e=>hf.un k e),hd]
   exact Rr
  ·rw[hn]
   cases va<;>rfl
 |false =>
  have hq':=hr hq
  obtain⟨s2,h2,h3⟩:=hq'
  obtain⟨v',rfl,hv'⟩:=gC hf.q h2
  cases hd:a.it.d with
  |none =>
   rw[hd] at hi
   have e:s.putO none va=s:=by cases va<;>rfl
   rw[e] at hi
   have h4:=hv' s1' (b+32*a.ix) ⟨rfl,fun _ _=>rfl⟩
   rw[hd] at h4
   have e2:s1'.putO none v'=s1':=by cases v'<;>rfl
   rw[e2] at h4
   exact⟨s1',hi,h4,fun d h=>by simp at h,fun _=>rfl⟩
  |some d =>
   rw[hd] at hi
   obtain⟨s1,h4,h5⟩:=zVD (Rr (s:=s)) (hf.ai d hd) hi
   have h6:=hv' s1 (b+32*a.ix) (h5.ag (hf.aa hq d hd))
   have h7:=h3 d hd
   rw[eQ,if_pos hd] at h7
   rw[hd,zk3 h5 h7] at h6
   exact⟨s1,h4,h6,fun d' h=>by simp only[oi] at h;subst h;exact h5,fun h=>by simp at h⟩
theorem move{C:Cl}{b:Nat}{i:DItem}{Bq:List DItem}:∀(A:List DItem) {pre:List DItem} {s t:St},Run C b pre (A++i::Bq) s t→(∀a∈A,Free a i)→(∀x∈pre,x.it.o.quiet=true∧∀a∈A,∀d,a.it.d=some d→x.it.d≠some d) →
  (i.it.o.quiet=false→∀x∈pre,x.it∈i.re→∀a∈A,∀d,a.it.d=some d→d∉x.it.rds) →
  (A.Pairwise fun x a=>(∀d,a.it.d=some d→x.it.d≠some d)∧(i.it.o.quiet=false→∀d,a.it.d=some d→d∉x.it.rds)) →
  ∃s1,itS C s (b+32*i.ix) i.it=some s1∧Run C b pre (A++Bq) s1 t∧(i.it.o.quiet=false→∀x∈pre,x.it∈i.re→Re C s1 x.it)
 |[],pre,s,t,hR,_,_,_,_=>by
  cases hR with
  |cons h1 h2 h3=>exact⟨_,h1,h3.less (fun x hx=>List.mem_append.2 (.inl hx)),h2⟩
 |a::A,pre,s,t,hR,hf,hp,hw,hA=>by
  cases hR with
  |cons h1 h2 h3 =>
   rename_i sa
   have hfa:=hf a (by simp)
   rw[List.pairwise_cons] at hA
   obtain⟨s1',h4,h5,h6⟩:=move A h3 (fun x hx=>hf x (by simp[hx])) (fun x hx=>by
    rcases List.mem_append.1 hx with hx|hx
    ·exact⟨(hp x hx).1,fun y hy=>(hp x hx).2 y (by simp[hy])⟩
    ·simp only[List.mem_cons,List.not_mem_nil,or_false] at hx
     subst hx
     exact⟨hfa.q,fun y hy d hd=>(hA.1 y hy).1 d hd⟩)
    (fun hq x hx hm y hy=>by
    rcases List.mem_append.1 hx with hx|hx
    ·exact hw hq x hx hm y (by simp[hy])
    ·simp only[List.mem_cons,List.not_mem_nil,or_false] at hx
     subst hx
     exact(hA.1 y hy).2 hq) hA.2
   obtain⟨s1,h7,h8,h9,h10⟩:=swap hfa h1 h4 (fun hq=>h6 hq a (by simp) (hfa.re hq))
   refine⟨s1,h7,.cons h8 (fun hq=>by rw[hfa.q] at hq;simp at hq) h5,fun hq x hx hm=> ?_⟩
   obtain⟨s2,h11,h12⟩:=h6 hq x (by simp[hx]) hm
   cases hd:a.it.d with
   |none =>
    have:=h10 hd
    subst this
    exact⟨s2,h11,h12⟩
   |some d =>
    obtain⟨v,rfl,hv⟩:=gC (hp x hx).1 h11
    refine⟨_,hv s1 0 ((h9 d hd).ag (hw hq x hx hm a (by simp) d hd)),fun e he=> ?_⟩
    have h13:=h12 e he
    rw[eQ,if_pos he] at h13
    rw[eQ,if_pos he,h13]
    exact((h9 d hd).env e (fun h=>(hp x hx).2 a (by simp) d hd (by rw[he,h]))).symm
structure Pass (e:Nat) (l:List Nat) (i a:DItem):Prop where
 st:a.it.o.still=true
 er:e∉a.it.rds
 ed:a.it.d≠some e
 dl:∀d,a.it.d=some d→d∉l
 ix:a.ix≠i.ix
 re:∀x∈a.re,x.o.quiet=true∧x.o.calm=true∧e∉x.rds∧x.d≠some e
theorem zYP{C:Cl}{s:St}{J:Id}{r:D}{e:Nat}{v:X}{x:SItem}(hF:sC J s)(hq:x.o.quiet=true)(hc:x.o.calm=true)(he:e∉x.rds)(hd:x.d≠some e)(h:Re C s x):Re C (s.plus J r e v) x:=by
 obtain⟨s2,h1,h2⟩:=h
 obtain⟨val,rfl,hv⟩:=gC hq h1
 have h3:=hv s (J.2+1) ⟨rfl,fun _ _=>rfl⟩
 have h4:=Y3 (r:=r) (v:=v) hc hF he hd (fun k _ hk=>by have:=congrArg Prod.snd hk;simp only at this;omega) h3
 obtain⟨val',h5,hv'⟩:=gC hq h4
 refine⟨_,hv' (s.plus J r e v) 0 ⟨rfl,fun _ _=>rfl⟩,fun d hde=> ?_⟩
 rw[←h5]
 have hne:d≠e:=fun h=>hd (by rw[hde,h])
 have:=h2 d hde
 simp only[St.plus,upd,if_neg hne]
 exact this
theorem z9q{C:Cl}{b e:Nat}{l:List Nat}{i:DItem}{Bq:List DItem}(ha:i.it.adder=some (e,l)):∀(A:List DItem) {pre:List DItem} {s t:St},Run C b pre (A++i::Bq) s t→(∀a∈A,Pass e l i a)→sC (s.fr,b+32*i.ix) s →
  ∃s1,itS C s (b+32*i.ix) i.it=some s1∧Run C b pre (A++Bq) s1 t
 |[],pre,s,t,hR,_,_=>by
  cases hR with
  |cons h1 h2 h3=>exact⟨_,h1,h3.less (fun x hx=>List.mem_append.2 (.inl hx))⟩
 |a::A,pre,s,t,hR,hp,hF=>by
  cases hR with
  |cons h1 h2 h3 =>
   rename_i sa
   have hpa:=hp a (by simp)
   have hcalm:=zzZ hpa.st
   obtain⟨hfr,hback⟩:=zK7 hcalm h1
   have hJ:∀k,k<32→(s.fr,b+32*a.ix+k)≠(s.fr,b+32*i.ix):=fun k hk he=>by
    have h5:=congrArg Prod.snd he
    simp only at h5
    exact hpa.ix (by omega)
   have hFa:=zxE hpa.st hF (hJ 0 (by omega)) h1
   obtain⟨s1',h4,h5⟩:=z9q ha A h3 (fun x hx=>hp x (by simp[hx])) (by rw[hfr];exact hFa)
   obtain⟨hd,hrd,r,v,rfl,hadd⟩:=zJf ha h4
   rw[hfr] at h4 h5 hadd
   refine⟨s.plus (s.fr,b+32*i.ix) r e v,hadd s rfl (fun t ht=>(hback t (fun h=>hpa.dl t h ht)).symm),.cons (Y3 hcalm hF hpa.er hpa.ed hJ h1) (fun hq x hx hm=> ?_) h5⟩
   obtain⟨g1,g2,g3,g4⟩:=hpa.re x.it hm
   exact zYP hFa g1 g2 g3 g4 (h2 hq x hx hm)
def O.same:O→O→Bool
 |.t p,.t q=>p==q
 |.c p,.c q=>vEq p q
 |.n p,.n q=>p==q
 |.f p,.f q=>p==q
 |_,_=>false
theorem O.same_ok{x y:O}(h:O.same x y=true):x=y:=by
 unfold O.same at h
 split at h
 ·simp only[beq_iff_eq] at h;rw[h]
 ·rw[(Sj h).1]
 ·simp only[beq_iff_eq] at h;rw[h]
 ·simp only[beq_iff_eq] at h;rw[h]
 ·simp at h
def D7:List O→List O→Bool
 |[],[]=>true
 |x::xs,y::ys=>x.same y&&D7 xs ys
 |_,_=>false
theorem G7:∀{xs ys:List O},D7 xs ys=true→xs=ys
 |[],[],_=>rfl
 |x::xs,y::ys,h=>by
  simp only[D7,bE] at h
  rw[O.same_ok h.1,G7 h.2]
 |[],_::_,h=>by simp[D7] at h
 |_::_,[],h=>by simp[D7] at h
def Rf:List (Nat×Nat×O)→List (Nat×Nat×O)→Bool
 |[],[]=>true
 |(a,b,x)::xs,(a',b',y)::ys=>a==a'&&b==b'&&x.same y&&Rf xs ys
 |_,_=>false
theorem Zf:∀{xs ys:List (Nat×Nat×O)},Rf xs ys=true→xs=ys
 |[],[],_=>rfl
 |(a,b,x)::xs,(a',b',y)::ys,h=>by
  simp only[Rf,bE,beq_iff_eq] at h
  obtain⟨⟨⟨rfl,rfl⟩,h1⟩,h2⟩:=h
  rw[O.same_ok h1,Zf h2]
 |[],_::_,h=>by simp[Rf] at h
 |_::_,[],h=>by simp[Rf] at h
def Wm:List D→List D→Bool
 |[],[]=>true
 |.v x::xs,.v y::ys=>vEq x y&&Wm xs ys
 |.s a []::xs,.s b []::ys=>a==b&&Wm xs ys
 |_,_=>false
theorem L3:∀{xs ys:List D},Wm xs ys=true→xs=ys
 |xs,ys,h=>by
  unfold Wm at h
  split at h
  ·rfl
  ·simp only[bE] at h
   rw[(Sj h.1).1,L3 h.2]
  ·simp only[bE,beq_iff_eq] at h
   rw[h.1,L3 h.2]
  ·simp at h
def SOp.same:SOp→SOp→Bool
 |.mov x,.mov y=>x.same y
 |.pick a b c,.pick a' b' c'=>a.same a'&&b.same b'&&c.same c'
 |.ari k x y,.ari k' x' y'=>decide (k=k')&&x.same x'&&y.same y'
 |.cmp k x y,.cmp k' x' y'=>decide (k=k')&&x.same x'&&y.same y'
 |.cmpb k x y,.cmpb k' x' y'=>decide (k=k')&&x.same x'&&y.same y'
 |.cat x y,.cat x' y'=>x.same x'&&y.same y'
 |.neg x,.neg y=>x.same y
 |.not x,.not y=>x.same y
 |.conv k x,.conv k' y=>decide (k=k')&&x.same y
 |.rune x,.rune y=>x.same y
 |.fld a n x,.fld b m y=>a==b&&decide (n=m)&&x.same y
 |.faddr a x,.faddr b y=>a==b&&x.same y
 |.ixa a x i,.ixa b y j=>a==b&&x.same y&&i.same j
 |.ixs x i,.ixs y j=>x.same y&&i.same j
 |.load n x,.load m y=>decide (n=m)&&x.same y
 |.mm a x y,.mm b x' y'=>a==b&&x.same x'&&y.same y'
 |.build z ps,.build z' ps'=>Wm z z'&&Rf ps ps'
 |.len x,.len y=>x.same y
 |.slen x,.slen y=>x.same y
 |.fn f xs,.fn g ys=>f==g&&D7 xs ys
 |.callr f xs,.callr g ys=>f==g&&D7 xs ys
 |.ext x i,.ext y j=>x.same y&&i==j
 |.nck x,.nck y=>x.same y
 |.vbox n x,.vbox m y=>n==m&&x.same y
 |_,_=>false
theorem SOp.same_ok{x y:SOp}(h:SOp.same x y=true):x=y:=by
 unfold SOp.same at h
 split at h<;>(try simp only[bE,beq_iff_eq,zqd,Bool.false_eq_true] at h)
 ·rw[O.same_ok h]
 ·rw[O.same_ok h.1.1,O.same_ok h.1.2,O.same_ok h.2]
 ·rw[h.1.1,O.same_ok h.1.2,O.same_ok h.2]
 ·rw[h.1.1,O.same_ok h.1.2,O.same_ok h.2]
 ·rw[h.1.1,O.same_ok h.1.2,O.same_ok h.2]
 ·rw[O.same_ok h.1,O.same_ok h.2]
 ·rw[O.same_ok h]
 ·rw[O.same_ok h]
 ·rw[h.1,O.same_ok h.2]
 ·rw[O.same_ok h]
 ·rw[h.1.1,h.1.2,O.same_ok h.2]
 ·rw[h.1,O.same_ok h.2]
 ·rw[h.1.1,O.same_ok h.1.2,O.same_ok h.2]
 ·rw[O.same_ok h.1,O.same_ok h.2]
 ·rw[h.1,O.same_ok h.2]
 ·rw[h.1.1,O.same_ok h.1.2,O.same_ok h.2]
 ·rw[L3 h.1,Zf h.2]
 ·rw[O.same_ok h]
 ·rw[O.same_ok h]
 ·rw[h.1,G7 h.2]
 ·rw[h.1,G7 h.2]
 ·rw[O.same_ok h.1,h.2]
 ·rw[O.same_ok h]
 ·rw[h.1,O.same_ok h.2]
def SItem.same(x y:SItem):Bool:=decide (x.d=y.d)&&decide (x.g=y.g)&&x.o.same y.o
theorem SItem.same_ok{x y:SItem}(h:x.same y=true):x=y:=by
 simp only[SItem.same,bE,zqd] at h
 obtain⟨⟨h1,h2⟩,h3⟩:=h
 have h4:=SOp.same_ok h3
 cases x;cases y
 simp only at h1 h2 h4
 subst h1;subst h2;subst h4
 rfl
def Dv(d:Option Nat)(l:List Nat):Bool:=match d with
 |none=>true
 |some d=> !l.contains d
theorem vD{d:Option Nat}{l:List Nat}(h:Dv d l=true):∀k,d=some k→k∉l:=by
 intro k hk
 subst hk
 simpa[Dv] using h
def Ig(a i:DItem):Bool:=a.it.o.quiet&&a.it.unlike i.it&&Dv a.it.d i.it.rds&&Dv i.it.d a.it.rds&&(i.it.o.quiet||(Dv a.it.d a.it.rds&&i.re.any a.it.same))
theorem Rs{x y:SItem}(h:x.unlike y=true):∀d,x.d=some d→y.d≠some d:=by
 intro d h1 h2
 simp[SItem.unlike,h1,h2] at h
theorem zKT{a i:DItem}(h:Ig a i=true):Free a i:=by
 simp only[Ig,bE,Bool.or_eq_true,List.any_eq_true] at h
 obtain⟨⟨⟨⟨h1,h2⟩,h3⟩,h4⟩,h5⟩:=h
 refine⟨h1,Rs h2,vD h3,vD h4,fun hq=> ?_,fun hq=> ?_⟩
 ·rcases h5 with h5|h5
  ·rw[h5] at hq;simp at hq
  ·exact vD h5.1
 ·rcases h5 with h5|⟨_,x,h6,h7⟩
  ·rw[h5] at hq;simp at hq
  ·rw[SItem.same_ok h7];exact h6
def zQf(e:Nat)(l:List Nat)(a i:DItem):Bool:=a.it.o.still&& !a.it.rds.contains e&&decide (a.it.d≠some e)&&Dv a.it.d l&&a.ix != i.ix&&a.re.all (fun x=>x.o.quiet&&x.o.calm&& !x.rds.contains e&&decide (x.d≠some e))
theorem zJg{e:Nat}{l:List Nat}{a i:DItem}(h:zQf e l a i=true):Pass e l i a:=by
 simp only[zQf,bE,List.all_eq_true,Bool.not_eq_true',zqd,bne_iff_ne,List.contains_eq_mem,decide_eq_false_iff_not] at h
 obtain⟨⟨⟨⟨⟨h1,h2⟩,h3⟩,h4⟩,h5⟩,h6⟩:=h
 exact⟨h1,h2,h3,vD h4,h5,fun x hx=>by obtain⟨⟨⟨g1,g2⟩,g3⟩,g4⟩:=h6 x hx;exact⟨g1,g2,g3,g4⟩⟩
def DItem.adds(i:DItem):Option (Nat×List Nat):=if i.re.isEmpty then i.it.adder else none
theorem DItem.adds_ok{i:DItem}{q:Nat×List Nat}(h:i.adds=some q):i.it.adder=some q:=by
 unfold DItem.adds at h
 split at h
 ·exact h
 ·simp at h
def Yw(a i:DItem):Bool:=match i.adds with
 |some (e,l)=>zQf e l a i
 |none=>Ig a i
def Ik{α:Type}(R:α→α→Bool):List α→Bool
 |[]=>true
 |x::l=>l.all (R x)&&Ik R l
theorem vG{α:Type}{R:α→α→Bool}:∀{l:List α},Ik R l=true→l.Pairwise fun x y=>R x y=true
 |[],_=> .nil
 |x::l,h=>by
  simp only[Ik,bE,List.all_eq_true] at h
  exact .cons (fun y hy=>h.1 y hy) (vG h.2)
def z7e(P:Program)(nt:Nat)(ops:Array Oper)(l:List DItem):Bool :=
 P.follows .mixedOrders&&decide (l.length=ops.size)&&(List.range ops.size).all (fun j=>l.any fun y=>y.ix==j)&&vO 0 ops.toList&&l.all (fun y=>match ops[y.ix]? with|some o=>y.it.chk P nt ops o|none=>false) &&
 Ik (fun x y=>x.ix != y.ix) l&&Ik (fun x y=>x.it.unlike y.it) l &&
 (match zz3 ops.toList [] with|bf=>Ik (fun a i=>(bf.getD i.ix 0).testBit a.ix||Yw a i) l) &&
 l.all (fun i=>i.it.o.quiet||i.adds.isSome||Ik (fun x a=>Dv a.it.d x.it.rds) (l.filter fun a=>Ig a i))
section
variable{c:Ctx}{C:Cl}{ops:Array Oper}{l:List DItem}
theorem zYA(hC:CallOk c.P C){Q:Exit→Act→World→Prop}{b:Nat}{T:St}
  (hlen:l.length=ops.size)
  (hchk:∀y∈l,∀o,ops[y.ix]? = some o→y.it.chk c.P c.nt ops o=true) (hsz:∀y∈l,y.ix<ops.size)
  (hix:l.Pairwise fun x y=>x.ix≠y.ix) (hun:l.Pairwise fun x y=>∀d,y.it.d=some d→x.it.d≠some d)
  (hpair:l.Pairwise fun x i=>(∀D,Closed ops D→D i.ix→D x.ix)∨Yw x i=true)
  (htri:∀i∈l,i.it.o.quiet=false→i.adds=none→(l.filter fun a=>Ig a i).Pairwise fun x a=>∀d,a.it.d=some d→d∉x.it.rds)
  (hedge:∀(k:Nat) (o:Oper),ops[k]? = some o→∀e∈o.after,Region.binds .any e=true→e.on<k)
  (hQ:∀a w,Ok c T (fun k=>k<b+32*ops.size) a w→Q .normal a w) :
  ∀(fuel:Nat) (listed:Array Bool) (rem:List DItem) (s:St) (a:Act) (w:World),listed.size=ops.size→rem.Sublist l→(∀j,j<ops.size→(listed.getD j true=false↔∃y∈rem,y.ix=j))→rem.length≤fuel →
   Closed ops (fun j=>listed.getD j false=true)→Run C b [] rem s T→Ok c s (fun k=>k<b∨∃j,listed.getD j false=true∧b+32*j≤k∧k<b+32*(j+1)) a w→wpAny c.P .any ops Q fuel listed a w:=by
 have hfin:∀(listed:Array Bool) (rem:List DItem) (s:St) (a:Act) (w:World),listed.size=ops.size→(∀j,j<ops.size→listed.getD j false=true)→rem.Sublist l→(∀j,j<ops.size→(listed.getD j true=false↔∃y∈rem,y.ix=j))→Run C b [] rem s T→Ok c s (fun k=>k<b∨∃j,listed.getD j false=true∧b+32*j≤k∧k<b+32*(j+1)) a w→Q .normal a w:=by
  intro listed rem s a w hsz' hall hsub hrem hR ⟨γ,S,R⟩
  have hnil:rem=[]:=by
   cases rem with
   |nil=>rfl
   |cons y r =>
    have h1:=hsz y (hsub.subset (by simp))
    have h2:=(hrem y.ix h1).2 ⟨y,by simp,rfl⟩
    have h3:=hall y.ix h1
    rw[Array.getD_eq_getD_getElem?,Array.getElem?_eq_getElem (by omega),Option.getD_some] at h2 h3
    rw[h2] at h3
    simp at h3
  subst hnil
  cases hR
  refine hQ a w ⟨γ,S,R.mono (fun k hk=> ?_)⟩
  rcases hk with hk|⟨j,hj,h1,h2⟩
  ·omega
  ·have:j<ops.size:=by
    apply Classical.byContradiction
    intro hc
    rw[Array.getD_eq_getD_getElem?,Array.getElem?_eq_none (by omega)] at hj
    simp at hj
   omega
 have hready:∀(listed:Array Bool),listed.size=ops.size→Region.ready .any ops listed=[]→∀j,j<ops.size→listed.getD j false=true:=by
  intro listed hsz' hr j
  induction j using Nat.strongRecOn with
  |_ j ih =>
   intro hj
   refine Classical.byContradiction fun hne=> ?_
   have hf:listed.getD j true=false:=by
    rw[Array.getD_eq_getD_getElem?,Array.getElem?_eq_getElem (by omega),Option.getD_some] at hne ⊢
    simpa using hne
   have hmem:j∈Region.ready .any ops listed:=by
    rw[mem_ready]
    refine⟨hf,ops[j],Array.getElem?_eq_getElem hj,fun e he hb=> ?_⟩
    have:=hedge j ops[j] (Array.getElem?_eq_getElem hj) e he hb
    exact ih _ this (by omega)
   rw[hr] at hmem
   simp at hmem
 intro fuel
 induction fuel with
 |zero =>
  intro listed rem s a w hsz' hsub hrem hfu hcl hR hok
  have hnil:rem=[]:=by cases rem with
   |nil=>rfl
   |cons=>simp at hfu
  have hall:∀j,j<ops.size→listed.getD j false=true:=fun j hj=>by
   have h1:¬listed.getD j true=false:=fun h=>by
    obtain⟨y,hy,_⟩:=(hrem j hj).1 h
    rw[hnil] at hy;simp at hy
   rw[Array.getD_eq_getD_getElem?,Array.getElem?_eq_getElem (by omega),Option.getD_some] at h1 ⊢
   simpa using h1
  refine⟨?_,hfin listed rem s a w hsz' hall hsub hrem hR hok⟩
  cases hr:Region.ready .any ops listed with
  |nil=>rfl
  |cons x xs =>
   have hx:x∈Region.ready .any ops listed:=by rw[hr];simp
   obtain⟨h1,o,ho,_⟩:=mem_ready.1 hx
   obtain⟨y,hy,_⟩:=(hrem x (Array.getElem?_eq_some_iff.1 ho).1).1 h1
   rw[hnil] at hy;simp at hy
 |succ fuel ih =>
  intro listed rem s a w hsz' hsub hrem hfu hcl hR hok
  refine⟨fun hr=>hfin listed rem s a w hsz' (hready listed hsz' hr) hsub hrem hR hok,fun i hi=> ?_⟩
  obtain⟨h1,o,ho,h2⟩:=mem_ready.1 hi
  have hisz:=(Array.getElem?_eq_some_iff.1 ho).1
  obtain⟨y,hy,rfl⟩:=(hrem i hisz).1 h1
  obtain⟨A,Bq,rfl⟩:=List.append_of_mem hy
  have hund:¬listed.getD y.ix false=true:=by
   rw[Array.getD_eq_getD_getElem?,Array.getElem?_eq_getElem (by omega),Option.getD_some] at h1 ⊢
   simp[h1]
  have hget:∀j,(listed.setIfInBounds y.ix true).getD j false=true↔listed.getD j false=true∨j=y.ix:=fun j=>by
   by_cases e:y.ix=j
   ·subst e
    simp[hsz',hisz]
   ·rw[getD_set_ne false e]
    simp[Ne.symm e]
  have hcl':Closed ops (fun j=>(listed.setIfInBounds y.ix true).getD j false=true):=fun j oj hj hd e he hb=>by
   rcases (hget j).1 hd with h3|rfl
   ·exact(hget _).2 (.inl (hcl j oj hj h3 e he hb))
   ·rw[ho] at hj
    simp only[oi] at hj
    subst hj
    exact(hget _).2 (.inl (h2 e he hb))
  have hix':=hix.sublist hsub
  have hun':=hun.sublist hsub
  have hpair':=hpair.sublist hsub
  rw[List.pairwise_append] at hix' hun' hpair'
  have hxl:∀x∈A,listed.getD x.ix true=false:=fun x hx=>(hrem x.ix (hsz x (hsub.subset (by simp[hx])))).2 ⟨x,by simp[hx],rfl⟩
  have hfr0:∀x∈A,Yw x y=true:=fun x hx=>by
   rcases hpair'.2.2 x hx y (by simp) with h3|h3
   ·have h4:=(hget x.ix).1 (h3 _ hcl' ((hget y.ix).2 (.inr rfl)))
    have h5:=hxl x hx
    have h6:=hix'.2.2 x hx y (by simp)
    rcases h4 with h4|h4
    ·rw[Array.getD_eq_getD_getElem?,Array.getElem?_eq_getElem (by rw[hsz'];exact hsz x (hsub.subset (by simp[hx]))),Option.getD_some] at h4 h5
     rw[h5] at h4;simp at h4
    ·exact absurd h4 h6
   ·exact h3
  have hyl:y∈l:=hsub.subset (by simp)
  have hmv:∃s1,itS C s (b+32*y.ix) y.it=some s1∧Run C b [] (A++Bq) s1 T:=by
   cases had:y.adds with
   |some el =>
    obtain⟨e,lr⟩:=el
    refine z9q (DItem.adds_ok had) A hR (fun x hx=> ?_) (fun t x hx=> ?_)
    ·have:=hfr0 x hx
     simp only[Yw,had] at this
     exact zJg this
    ·obtain⟨γ,S,R⟩:=hok
     refine bS (fun id p hid=> ?_) x (R.ids t x hx)
     rintro rfl
     rcases hid with⟨h5,_⟩|⟨_,h5⟩
     ·exact absurd h5 (Nat.lt_irrefl _)
     ·rcases h5 with h5|⟨j,h5,h6,h7⟩
      ·simp only at h5;omega
      ·simp only at h6 h7
       have:j=y.ix:=by omega
       subst this
       exact hund h5
   |none =>
    have hfr:∀x∈A,Ig x y=true:=fun x hx=>by
     have:=hfr0 x hx
     simpa only[Yw,had] using this
    have hAsub:A.Sublist l:=(List.sublist_append_left _ _).trans hsub
    have hAf:A.Sublist (l.filter fun a=>Ig a y):=by
     have:=hAsub.filter (fun a=>Ig a y)
     rwa [List.filter_eq_self.2 (fun x hx=>hfr x hx)] at this
    obtain⟨s1,h3,h4,_⟩:=move A hR (fun x hx=>zKT (hfr x hx)) (fun x hx=>by simp at hx) (fun _ x hx=>by simp at hx)
     (by
      cases hq:y.it.o.quiet with
      |true=>exact hun'.1.imp (fun h=>⟨h,fun h2=>by simp at h2⟩)
      |false=>exact(hun'.1.and ((htri y hyl hq had).sublist hAf)).imp (fun h=>⟨h.1,fun _=>h.2⟩))
    exact⟨s1,h3,h4⟩
  obtain⟨s1,h3,h4⟩:=hmv
  obtain⟨γ,S,R⟩:=hok
  refine pM R (hchk y hyl o ho) hC (n:=b+32*y.ix) (U':=fun k=>k<b∨∃j,(listed.setIfInBounds y.ix true).getD j false=true∧b+32*j≤k∧k<b+32*(j+1)) (fun _ k h5 h6 h7=> ?_) (fun k h5=> ?_) (fun _ k h5 h6=> .inr ⟨y.ix,(hget _).2 (.inr rfl),h5,by omega⟩) h3 ho ?_
  ·rcases h7 with h7|⟨j,h7,h8,h9⟩
   ·omega
   ·have:j=y.ix:=by omega
    subst this
    exact hund h7
  ·rcases h5 with h5|⟨j,h5,h6,h7⟩
   ·exact .inl h5
   ·exact .inr ⟨j,(hget j).2 (.inl h5),h6,h7⟩
  ·intro a' w' hok'
   refine ih _ (A++Bq) s1 a' w' (by simp[hsz']) ?_ ?_ ?_ hcl' h4 hok'
   ·exact(List.Sublist.append_left (List.sublist_cons_self y Bq) A).trans hsub
   ·intro j hj
    by_cases e:y.ix=j
    ·subst e
     constructor
     ·intro h;simp[hsz',hisz] at h
     ·rintro ⟨x,hx,h5⟩
      rcases List.mem_append.1 hx with hx|hx
      ·exact absurd h5 (hix'.2.2 x hx y (by simp))
      ·have:=(List.pairwise_cons.1 hix'.2.1).1 x hx
       exact absurd h5.symm this
    ·rw[getD_set_ne true e,hrem j hj]
     constructor
     ·rintro ⟨x,hx,h5⟩
      rcases List.mem_append.1 hx with hx|hx
      ·exact⟨x,by simp[hx],h5⟩
      ·rcases List.mem_cons.1 hx with rfl|hx
       ·exact absurd h5 e
       ·exact⟨x,by simp[hx],h5⟩
     ·rintro ⟨x,hx,h5⟩
      rcases List.mem_append.1 hx with hx|hx
      ·exact⟨x,by simp[hx],h5⟩
      ·exact⟨x,by simp[hx],h5⟩
   ·simp only[la,lc] at hfu ⊢
    omega
theorem Yj{st st':St}{a:Act}{w:World}(hC:CallOk c.P C)(hc:z7e c.P c.nt ops l=true)(hs:opsD C st.next l st=some st')(hok:Okn c st a w){Q:Exit→Act→World→Prop}(hQ:∀a' w',Okn c {st' with next:=st.next+32*l.length} a' w'→Q .normal a' w'){rid:Nat} :
  (Code.region rid ops true).wp c.P Q a w:=by
 unfold z7e at hc
 simp only[bE,zqd,List.all_eq_true] at hc
 obtain⟨⟨⟨⟨⟨⟨⟨⟨h1,h2⟩,hcov⟩,h3⟩,h4⟩,h5⟩,h6⟩,h7⟩,h8⟩:=hc
 refine wp_region_any h1 ?_
 obtain⟨γ,S,R⟩:=hok
 have hsz:∀y∈l,y.ix<ops.size:=fun y hy=>by
  have h9:=h4 y hy
  split at h9
  ·rename_i o ho;exact(Array.getElem?_eq_some_iff.1 ho).1
  ·simp at h9
 have hix:l.Pairwise fun x y=>x.ix≠y.ix:=(vG h5).imp (fun h=>by simpa using h)
 have hsurj:∀j,j<ops.size→∃y∈l,y.ix=j:=by
  intro j hj
  have:=hcov j (List.mem_range.2 hj)
  simpa using this
 refine zYA (T:=st') (b:=st.next) hC h2 (fun y hy o ho=> ?_) hsz hix ((vG h6).imp (fun h d h9 h10=>Rs h d h10 h9)) ((vG h7).imp (fun {x i} h=> ?_)) (fun i hi hq had=> ?_)
  (fun k o ho e he hb=>by simpa using sE h3 k o (by simpa using ho) e he hb) (fun a' w' hok'=> ?_)
  ops.size (Array.replicate ops.size false) l st a _ (by simp) (List.Sublist.refl _) (fun j hj=> ?_) (by omega) (fun j o hj h=> ?_) (Wt hs) ⟨γ,S,(R.drew).mono (fun k hk=> .inl hk)⟩
 ·have h9:=h4 y hy
  rw[ho] at h9
  exact h9
 ·simp only[Bool.or_eq_true] at h
  rcases h with h|h
  ·exact .inl (fun D hD hj=>Jy hD ops.toList [] (fun k=>by simp) (fun j i h=>by simp at h) _ _ h hj)
  ·exact .inr h
 ·have h9:=h8 i hi
  simp only[Bool.or_eq_true] at h9
  rcases h9 with (h9|h9)|h9
  ·rw[h9] at hq;simp at hq
  ·rw[had] at h9;simp at h9
  ·exact(vG h9).imp (fun h=>vD h)
 ·refine hQ a' w' ?_
  obtain⟨γ',S',R'⟩:=hok'
  exact⟨γ',S',⟨R'.mm,R'.os,R'.tape,R'.output,R'.size,R'.keep,R'.own,R'.hd,R'.sg,R'.s0,R'.s00,R'.env,fun t x h=>by simpa[h2] using R'.ids t x h,fun id d h=>by simpa[h2] using R'.hid id d h,R'.dom,R'.df,R'.sz,R'.iso⟩⟩
 ·simp only[Array.getD_eq_getD_getElem?,Array.getElem?_replicate,hj,if_true,Option.getD_some,true_iff]
  exact hsurj j hj
 ·by_cases h5:j<ops.size<;>simp[h5] at h
end
end Go.Ev
