import Derived.Test.YtenclibcnjkamaaGreatEvMem
import Derived.Laws.IdiomCopy
set_option linter.all false
namespace Go.Ev
abbrev GId:=Id ⊕ Nat
abbrev Gm:=GId→Option G
def Gm.nav(γ:Gm)(id:Id)(p:Path):Option G:=(γ (.inl id)).bind fun g=>g.nav p
def G.shd:G→Option (Nat×Option Bk)
 |.s sz b _=>some (sz,b)
 |.l _ _=>none
def G.rowy:G→Bool
 |.l (.v _) _=>false
 |_=>true
mutual
def X.vr(γ:Gm)(w:World)(S:Nat→Prop):X→Value→Prop
 |.d (.v x),v=>v=x∧x.oneCell'=true
 |.d (.r els),v=>D.rd w S (.r els) v
 |.d (.s _ els),v=>els=[]∧v= .slice none 0 0
 |.d .u,v=>v.oneCell'=true
 |.agg cs,v=>∃vs:List Value,v= .agg vs.toArray∧vrs γ w S cs vs∧∀u∈vs,u.oneCell'=true
 |.tup cs,v=>∃vs:List Value,v= .tuple vs.toArray∧vrs γ w S cs vs
 |.ref id p,v=>v.oneCell'=true∧∀g,γ.nav id p=some g→g.val=v∧g.rowy=true
 |.ptr id q j i,v=>∃a,v= .pointer (some a)∧∀sz b els,γ.nav id q=some (.s sz (some b) els)→a=⟨b.1,b.3+(j*sz+i),none⟩
 |.rop cs,v=>∃a,v= .pointer (some a)∧rds w S a 0 cs
 |.vp cs,v=>∃a,v= .pointer (some a)∧∃us:List Value,vrs γ w S cs us∧(∀u∈us,u.oneCell'=true)∧∀(i:Nat) (u:Value),us[i]? = some u→w.cell? (a.add i)=some u∧S a.block
 |.clo f caps,v=>∃vs:List Value,v= .func (.func f) #[] vs.toArray∧vrs γ w S caps vs
def vrs(γ:Gm)(w:World)(S:Nat→Prop):List X→List Value→Prop
 |[],[]=>True
 |x::xs,v::vs=>x.vr γ w S v∧vrs γ w S xs vs
 |_,_=>False
end
mutual
def X.allp(φ:Id→Path→Prop):X→Prop
 |.ref id p=>φ id p
 |.ptr id q _ _=>φ id q
 |.agg cs=>aR φ cs
 |.tup cs=>aR φ cs
 |.vp cs=>aR φ cs
 |.clo _ cs=>aR φ cs
 |_=>True
def aR(φ:Id→Path→Prop):List X→Prop
 |[]=>True
 |x::xs=>x.allp φ∧aR φ xs
end
def Like(g g':G):Prop:=(g.rowy=false∧g'.shd=none)∨(g'.val=g.val∧(g'.shd=none∨g'.shd=g.shd)∧(g.rowy=true→g'.rowy=true))
def Same(γ γ':Gm)(id:Id)(p:Path):Prop:=∀g',γ'.nav id p=some g'→∃g,γ.nav id p=some g∧Like g g'
theorem Like.refl(g:G):Like g g:= .inr ⟨rfl,.inr rfl,fun h=>h⟩
theorem Like.trans{a b c:G}(h1:Like a b)(h2:Like b c):Like a c:=by
 rcases h1 with⟨h1,h3⟩|⟨h1,h3,h4⟩
 ·rcases h2 with⟨h2,h5⟩|⟨h2,h5,h6⟩
  ·exact .inl ⟨h1,h5⟩
  ·exact .inl ⟨h1,h5.elim (fun h=>h) (fun h=>h.trans h3)⟩
 ·rcases h2 with⟨h2,h5⟩|⟨h2,h5,h6⟩
  ·refine .inl ⟨?_,h5⟩
   cases ha:a.rowy with
   |false=>rfl
   |true=>rw[h4 ha] at h2;exact absurd h2 (by simp)
  ·refine .inr ⟨h2.trans h1,?_,fun h=>h6 (h4 h)⟩
   rcases h5 with h5|h5
   ·exact .inl h5
   ·exact h3.imp (fun h=>h5.trans h) (fun h=>h5.trans h)
theorem Same.refl(γ:Gm)(id:Id)(p:Path):Same γ γ id p:=fun g h=>⟨g,h,Like.refl g⟩
theorem Same.trans{γ γ1 γ2:Gm}{id:Id}{p:Path}(h1:Same γ γ1 id p)(h2:Same γ1 γ2 id p):Same γ γ2 id p:=fun g2 hg2=>by
 obtain⟨g1,hg1,a1⟩:=h2 g2 hg2
 obtain⟨g,hg,a⟩:=h1 g1 hg1
 exact⟨g,hg,a.trans a1⟩
theorem Same.of_eq{γ γ':Gm}{id:Id}(h:γ' (.inl id)=γ (.inl id))(p:Path):Same γ γ' id p:=fun g hg=>⟨g,by unfold Gm.nav at hg ⊢;rw[←h];exact hg,Like.refl g⟩
theorem Same.of_none{γ γ':Gm}{id:Id}(h:γ' (.inl id)=none)(p:Path):Same γ γ' id p:=fun g hg=>by simp[Gm.nav,h] at hg
theorem zxQ{g:G}{sz:Nat}{b:Option Bk}(h:g.shd=some (sz,b)):∃els,g= .s sz b els:=by
 cases g with
 |l d v=>simp[G.shd] at h
 |s sz' b' els =>
  simp only[G.shd,oi,zqb] at h
  obtain⟨rfl,rfl⟩:=h
  exact⟨els,rfl⟩
mutual
theorem fW{γ γ':Gm}{w w':World}{S S':Nat→Prop}(hS:∀k,S k→S' k∧w'.heap[k]? = w.heap[k]?):∀(x:X) (v:Value),x.allp (Same γ γ')→x.vr γ w S v→x.vr γ' w' S' v
 |.d (.v x),v,_,h=>by simpa only[X.vr] using h
 |.d (.r els),v,_,h=>by
  simp only[X.vr] at h ⊢
  exact D.rd_congr hS _ _ h
 |.d (.s _ els),v,_,h=>by simpa only[X.vr] using h
 |.d .u,v,_,h=>by simpa only[X.vr] using h
 |.agg cs,v,ha,h=>by
  simp only[X.vr,X.allp] at h ha ⊢
  obtain⟨vs,h1,h2,h3⟩:=h
  exact⟨vs,h1,gJ hS cs vs ha h2,h3⟩
 |.tup cs,v,ha,h=>by
  simp only[X.vr,X.allp] at h ha ⊢
  obtain⟨vs,h1,h2⟩:=h
  exact⟨vs,h1,gJ hS cs vs ha h2⟩
 |.ref id p,v,ha,h=>by
  simp only[X.vr,X.allp] at h ha ⊢
  refine⟨h.1,fun g' hg'=> ?_⟩
  obtain⟨g,hg,e⟩:=ha g' hg'
  obtain⟨h1,h2⟩:=h.2 g hg
  rcases e with⟨e,_⟩|⟨e1,_,e3⟩
  ·rw[h2] at e;exact absurd e (by simp)
  ·exact⟨e1.trans h1,e3 h2⟩
 |.ptr id q j i,v,ha,h=>by
  simp only[X.vr,X.allp] at h ha ⊢
  obtain⟨a,rfl,h2⟩:=h
  refine⟨a,rfl,fun sz b els hg'=> ?_⟩
  obtain⟨g,hg,e⟩:=ha _ hg'
  rcases e with⟨_,e2⟩|⟨_,e2|e2,_⟩
  ·simp[G.shd] at e2
  ·simp[G.shd] at e2
  ·obtain⟨els',rfl⟩:=zxQ (g:=g) (sz:=sz) (b:=some b) e2.symm
   exact h2 _ _ _ hg
 |.rop cs,v,_,h=>by
  simp only[X.vr] at h ⊢
  obtain⟨a,h1,h2⟩:=h
  exact⟨a,h1,Hm hS cs a 0 h2⟩
 |.vp cs,v,ha,h=>by
  simp only[X.vr,X.allp] at h ha ⊢
  obtain⟨a,h1,us,h2,h3,h4⟩:=h
  refine⟨a,h1,us,gJ hS cs us ha h2,h3,fun i u hu=> ?_⟩
  obtain⟨h5,h6⟩:=h4 i u hu
  exact⟨by rw[World.cell_congr (w:=w) (by rw[Addr.add_block];exact(hS _ h6).2)];exact h5,(hS _ h6).1⟩
 |.clo f caps,v,ha,h=>by
  simp only[X.vr,X.allp] at h ha ⊢
  obtain⟨vs,h1,h2⟩:=h
  exact⟨vs,h1,gJ hS caps vs ha h2⟩
theorem gJ{γ γ':Gm}{w w':World}{S S':Nat→Prop}(hS:∀k,S k→S' k∧w'.heap[k]? = w.heap[k]?):∀(xs:List X) (vs:List Value),aR (Same γ γ') xs→vrs γ w S xs vs→vrs γ' w' S' xs vs
 |[],[],_,_=>by simp only[vrs]
 |x::xs,v::vs,ha,h=>by
  simp only[vrs,aR] at h ha ⊢
  exact⟨fW hS x v ha.1 h.1,gJ hS xs vs ha.2 h.2⟩
 |[],_::_,_,h=>by simp[vrs] at h
 |_::_,[],_,h=>by simp[vrs] at h
end
mutual
theorem bS{φ ψ:Id→Path→Prop}(h:∀id p,φ id p→ψ id p):∀(x:X),x.allp φ→x.allp ψ
 |.d _,_=>by simp only[X.allp]
 |.agg cs,ha=>by simp only[X.allp] at ha ⊢;exact fM h cs ha
 |.tup cs,ha=>by simp only[X.allp] at ha ⊢;exact fM h cs ha
 |.ref id p,ha=>by simp only[X.allp] at ha ⊢;exact h _ _ ha
 |.ptr id q j i,ha=>by simp only[X.allp] at ha ⊢;exact h _ _ ha
 |.rop cs,_=>by simp only[X.allp]
 |.vp cs,ha=>by simp only[X.allp] at ha ⊢;exact fM h cs ha
 |.clo f caps,ha=>by simp only[X.allp] at ha ⊢;exact fM h caps ha
theorem fM{φ ψ:Id→Path→Prop}(h:∀id p,φ id p→ψ id p):∀(xs:List X),aR φ xs→aR ψ xs
 |[],_=>by simp only[aR]
 |x::xs,ha=>by simp only[aR] at ha ⊢;exact⟨bS h x ha.1,fM h xs ha.2⟩
end
mutual
theorem cS{φ:Id→Path→Prop}(h:∀id p,φ id p):∀(x:X),x.allp φ
 |.d _=>by simp only[X.allp]
 |.agg cs=>by simp only[X.allp];exact fY h cs
 |.tup cs=>by simp only[X.allp];exact fY h cs
 |.ref id p=>by simp only[X.allp];exact h _ _
 |.ptr id q j i=>by simp only[X.allp];exact h _ _
 |.rop cs=>by simp only[X.allp]
 |.vp cs=>by simp only[X.allp];exact fY h cs
 |.clo f caps=>by simp only[X.allp];exact fY h caps
theorem fY{φ:Id→Path→Prop}(h:∀id p,φ id p):∀(xs:List X),aR φ xs
 |[]=>by simp only[aR]
 |x::xs=>by simp only[aR];exact⟨cS h x,fY h xs⟩
end
theorem fR{γ:Gm}{w:World}{S:Nat→Prop}:∀{xs:List X} {vs:List Value},vrs γ w S xs vs→xs.length=vs.length
 |[],[],_=>rfl
 |x::xs,v::vs,h=>by
  simp only[vrs] at h
  simp[fR h.2]
 |[],_::_,h=>by simp[vrs] at h
 |_::_,[],h=>by simp[vrs] at h
theorem J6{γ:Gm}{w:World}{S:Nat→Prop}:∀{xs:List X} {vs:List Value},vrs γ w S xs vs→∀{i:Nat} {x:X},xs[i]? = some x→∃v,vs[i]? = some v∧x.vr γ w S v
 |[],[],_,i,x,hx=>by simp at hx
 |x::xs,v::vs,h,0,y,hx=>by
  simp only[vrs] at h
  simp only[List.getElem?_cons_zero,oi] at hx
  subst hx
  exact⟨v,rfl,h.1⟩
 |x::xs,v::vs,h,i+1,y,hx=>by
  simp only[vrs] at h
  simp only[List.getElem?_cons_succ] at hx ⊢
  exact J6 h.2 hx
 |[],_::_,h,_,_,_=>by simp[vrs] at h
 |_::_,[],h,_,_,_=>by simp[vrs] at h
theorem D4{γ:Gm}{w:World}{S:Nat→Prop}:∀{xs ys:List X} {vs us:List Value},vrs γ w S xs vs→vrs γ w S ys us→vrs γ w S (xs++ys) (vs++us)
 |[],ys,[],us,_,h=>h
 |x::xs,ys,v::vs,us,h,h'=>by
  simp only[vrs,List.cons_append] at h ⊢
  exact⟨h.1,D4 h.2 h'⟩
 |[],_,_::_,_,h,_=>by simp[vrs] at h
 |_::_,_,[],_,h,_=>by simp[vrs] at h
theorem bG{φ:Id→Path→Prop}:∀{xs:List X},aR φ xs↔∀x∈xs,x.allp φ
 |[]=>by simp[aR]
 |x::xs=>by simp[aR,bG (xs:=xs)]
theorem zXa{γ:Gm}{w:World}{S:Nat→Prop}:∀{xs:List X} {vs:List Value},vrs γ w S xs vs↔xs.length=vs.length∧∀(i:Nat) (x:X) (v:Value),xs[i]? = some x→vs[i]? = some v→x.vr γ w S v
 |[],[]=>by simp[vrs]
 |x::xs,v::vs=>by
  simp only[vrs,lc,Nat.add_right_cancel_iff,zXa (xs:=xs) (vs:=vs)]
  constructor
  ·rintro ⟨h1,h2,h3⟩
   refine⟨h2,fun i y u hy hu=> ?_⟩
   cases i with
   |zero =>
    simp only[List.getElem?_cons_zero,oi] at hy hu
    subst hy;subst hu
    exact h1
   |succ i =>
    simp only[List.getElem?_cons_succ] at hy hu
    exact h3 i y u hy hu
  ·rintro ⟨h1,h2⟩
   exact⟨h2 0 x v rfl rfl,h1,fun i y u hy hu=>h2 (i+1) y u (by simpa using hy) (by simpa using hu)⟩
 |[],_::_=>by simp[vrs]
 |_::_,[]=>by simp[vrs]
structure Mm (h:Heap) (γ:Gm) (S:Nat→Prop) (w:World):Prop where
 er:∀id d,h id=some d→∃g,γ (.inl id)=some g∧g.er=d
 ok:∀i g,γ i=some g→g.ok w S
 nd:∀i g,γ i=some g→g.bl.Nodup
 dj:∀i i' g g',γ i=some g→γ i'=some g'→i≠i'→∀k∈g.bl,k∉g'.bl
 sd:∀k,S k→k<w.heap.size∧∀i g,γ i=some g→k∉g.bl
 fin:∃N,∀n,N≤n→γ (.inr n)=none
theorem Mm.row{h:Heap}{γ:Gm}{S:Nat→Prop}{w:World}(m:Mm h γ S w){id:Id}{p:Path}{r:Nat×List (List D)}(hr:h.row id p=some r):∃b els,γ.nav id p=some (.s r.1 b els)∧cD els=r.2:=by
 unfold Heap.row Heap.nav at hr
 simp only[aA] at hr
 obtain⟨d,⟨d0,h1,h2⟩,h3⟩:=hr
 obtain⟨g,h4,rfl⟩:=m.er id d0 h1
 rw[nav_er p g (m.ok _ _ h4)] at h2
 simp only[aC] at h2
 obtain⟨g',h5,rfl⟩:=h2
 cases g' with
 |l d v =>
  have:=nav_ok p g _ (m.ok _ _ h4) h5
  simp only[G.ok] at this
  cases d<;>simp_all[G.er,D.rowOf,D.leaf]
 |s sz b els =>
  simp only[G.er,D.rowOf,oi] at h3
  subst h3
  exact⟨b,els,by simp[Gm.nav,h4,h5],rfl⟩
theorem Mm.nav_ok{h:Heap}{γ:Gm}{S:Nat→Prop}{w:World}(m:Mm h γ S w){id:Id}{p:Path}{g:G}(hg:γ.nav id p=some g):g.ok w S:=by
 unfold Gm.nav at hg
 simp only[aA] at hg
 obtain⟨g0,h1,h2⟩:=hg
 exact Ev.nav_ok p g0 g (m.ok _ _ h1) h2
theorem Mm.fresh{h:Heap}{γ:Gm}{S:Nat→Prop}{w:World}(m:Mm h γ S w):∃n,γ (.inr n)=none:=by
 obtain⟨N,hN⟩:=m.fin
 exact⟨N,hN N (Nat.le_refl _)⟩
theorem Mm.world{h:Heap}{γ:Gm}{S S':Nat→Prop}{w w':World}(m:Mm h γ S w)(hs:∀k,S k→S' k∧w'.heap[k]? = w.heap[k]?)(hb:∀i g,γ i=some g→∀k∈g.bl,w'.heap[k]? = w.heap[k]?)
  (hsd:∀k,S' k→k<w'.heap.size∧∀i g,γ i=some g→k∉g.bl):Mm h γ S' w' :=
 ⟨m.er,fun i g hg=>G.ok_congr hs g (hb i g hg) (m.ok i g hg),m.nd,m.dj,hsd,m.fin⟩
theorem Mm.less{h h':Heap}{γ:Gm}{S:Nat→Prop}{w:World}(m:Mm h γ S w)(hh:∀id d,h' id=some d→h id=some d):Mm h' γ S w :=
 ⟨fun id d hd=>m.er id d (hh id d hd),m.ok,m.nd,m.dj,m.sd,m.fin⟩
theorem oA:∀(p:Path) (d x d':G),d.put p x=some d'→d'.nav p=some x
 |[],d,x,d',h=>by simp only[G.put,oi] at h;subst h;simp[G.nav]
 |(j,i)::p,.s sz b els,x,d',h=>by
  simp only[G.put,aA,aC] at h
  obtain⟨el,h1,c,h2,c',h3,rfl⟩:=h
  simp only[G.nav,List.getElem?_set_self (List.getElem?_eq_some_iff.1 h1).1,obs,List.getElem?_set_self (List.getElem?_eq_some_iff.1 h2).1]
  exact oA p c x c' h3
 |(j,i)::p,.l _ _,x,d',h=>by simp[G.put] at h
theorem X6{c c':G}(hval:c'.val=c.val)(hshd:c'.shd=none)(hrow:c'.rowy=true)(hleaf:∀j i p,c'.nav ((j,i)::p)=none):∀(p:Path) (g g':G),g.nav p=some c→g.put p c'=some g' →
  ∀p' x',g'.nav p'=some x'→∃x,g.nav p'=some x∧Like x x'
 |[],g,g',hg,hp,p',x',hx=>by
  simp only[G.nav,oi] at hg
  simp only[G.put,oi] at hp
  subst hg;subst hp
  cases p' with
  |nil =>
   simp only[G.nav,oi] at hx
   subst hx
   exact⟨g,rfl,.inr ⟨hval,.inl hshd,fun _=>hrow⟩⟩
  |cons a p'=>rw[hleaf a.1 a.2 p'] at hx;simp at hx
 |(j,i)::p,.l d v,g',hg,_,_,_,_=>by simp[G.nav] at hg
 |(j,i)::p,.s sz b els,g',hg,hp,p',x',hx=>by
  simp only[G.nav,aA] at hg
  obtain⟨el,h1,c0,h2,h3⟩:=hg
  simp only[G.put,h1,h2,obs,aC] at hp
  obtain⟨c0',h4,rfl⟩:=hp
  cases p' with
  |nil =>
   simp only[G.nav,oi] at hx
   subst hx
   exact⟨_,rfl,.inr ⟨by cases b<;>simp[G.val],.inr rfl,fun h=>h⟩⟩
  |cons a p' =>
   obtain⟨j',i'⟩:=a
   simp only[G.nav,aA] at hx
   obtain⟨el',h5,c1',h6,h7⟩:=hx
   by_cases hj:j'=j
   ·subst hj
    rw[List.getElem?_set_self (List.getElem?_eq_some_iff.1 h1).1] at h5
    simp only[oi] at h5
    subst h5
    by_cases hi:i'=i
    ·subst hi
     rw[List.getElem?_set_self (List.getElem?_eq_some_iff.1 h2).1] at h6
     simp only[oi] at h6
     subst h6
     obtain⟨x,hx1,hx2⟩:=X6 hval hshd hrow hleaf p c0 c0' h3 h4 p' x' h7
     exact⟨x,by simp[G.nav,h1,h2,hx1],hx2⟩
    ·rw[List.getElem?_set_ne (Ne.symm hi)] at h6
     exact⟨x',by simp[G.nav,h1,h6,h7],Like.refl _⟩
   ·rw[List.getElem?_set_ne (Ne.symm hj)] at h5
    exact⟨x',by simp[G.nav,h5,h6,h7],Like.refl _⟩
theorem Hg{c':G}:∀(p:Path) (g g':G),g.put p c'=some g'→p≠[] →
  ∀p' x',(∀r,p'≠p++r)→g'.nav p'=some x'→∃x,g.nav p'=some x∧Like x x'
 |[],_,_,_,h,_,_,_,_=>absurd rfl h
 |(j,i)::p,.l d v,g',hp,_,_,_,_,_=>by simp[G.put] at hp
 |(j,i)::p,.s sz b els,g',hp,_,p',x',hne,hx=>by
  simp only[G.put,aA,aC] at hp
  obtain⟨el,h1,c0,h2,c0',h4,rfl⟩:=hp
  cases p' with
  |nil =>
   simp only[G.nav,oi] at hx
   subst hx
   exact⟨_,rfl,.inr ⟨by cases b<;>simp[G.val],.inr rfl,fun h=>h⟩⟩
  |cons a p' =>
   obtain⟨j',i'⟩:=a
   simp only[G.nav,aA] at hx
   obtain⟨el',h5,c1',h6,h7⟩:=hx
   by_cases hj:j'=j
   ·subst hj
    rw[List.getElem?_set_self (List.getElem?_eq_some_iff.1 h1).1] at h5
    simp only[oi] at h5
    subst h5
    by_cases hi:i'=i
    ·subst hi
     rw[List.getElem?_set_self (List.getElem?_eq_some_iff.1 h2).1] at h6
     simp only[oi] at h6
     subst h6
     cases p with
     |nil=>exact absurd rfl (hne p')
     |cons a p =>
      obtain⟨x,hx1,hx2⟩:=Hg (a::p) c0 c0' h4 (by simp) p' x' (fun r hr=>hne r (by rw[hr];rfl)) h7
      exact⟨x,by simp[G.nav,h1,h2,hx1],hx2⟩
    ·rw[List.getElem?_set_ne (Ne.symm hi)] at h6
     exact⟨x',by simp[G.nav,h1,h6,h7],Like.refl _⟩
   ·rw[List.getElem?_set_ne (Ne.symm hj)] at h5
    exact⟨x',by simp[G.nav,h5,h6,h7],Like.refl _⟩
def Flo(h:Heap)(i:GId):Prop:=∀id,i= .inl id→h id=none
open Classical in
noncomputable def rem (γ:Gm) (is:List GId):Gm:=fun i=>if i∈is then none else γ i
theorem cA{γ:Gm}{is:List GId}{i:GId}{g:G}:rem γ is i=some g↔i∉is∧γ i=some g:=by
 unfold rem
 split<;>simp_all
def Sub(γ' γ:Gm):Prop:=∀i g,γ' i=some g→∀k∈g.bl,∃i0 g0,γ i0=some g0∧k∈g0.bl
theorem Sub.refl(γ:Gm):Sub γ γ:=fun i g h k hk=>⟨i,g,h,hk⟩
theorem Sub.trans{a b c:Gm}(h1:Sub a b)(h2:Sub b c):Sub a c:=fun i g h k hk=>by
 obtain⟨i0,g0,h3,h4⟩:=h1 i g h k hk
 exact h2 i0 g0 h3 k h4
theorem Mm.addLeaf{h:Heap}{γ:Gm}{S:Nat→Prop}{w:World}(m:Mm h γ S w){n:Nat}(hn:γ (.inr n)=none){g:G}(hg:g.ok w S)(hb:g.bl=[]):Mm h (upd γ (.inr n) (some g)) S w:=by
 have key:∀i g',upd γ (.inr n) (some g) i=some g'→γ i=some g'∨(i= .inr n∧g'=g):=fun i g' hi=>by
  unfold upd at hi
  split at hi
  ·simp only[oi] at hi;exact .inr ⟨‹_›,hi.symm⟩
  ·exact .inl hi
 refine⟨fun id d hd=> ?_,fun i g' hi=> ?_,fun i g' hi=> ?_,fun i i' g1 g2 h1 h2 hne k hk=> ?_,fun k hk=>⟨(m.sd k hk).1,fun i g' hi hk'=> ?_⟩,?_⟩
 ·obtain⟨g',h1,h2⟩:=m.er id d hd
  exact⟨g',by simp[upd,h1],h2⟩
 ·rcases key i g' hi with h1|⟨_,rfl⟩
  ·exact m.ok i g' h1
  ·exact hg
 ·rcases key i g' hi with h1|⟨_,rfl⟩
  ·exact m.nd i g' h1
  ·rw[hb];exact List.nodup_nil
 ·rcases key i g1 h1 with h3|⟨_,rfl⟩
  ·rcases key i' g2 h2 with h4|⟨_,rfl⟩
   ·exact m.dj i i' g1 g2 h3 h4 hne k hk
   ·rw[hb];simp
  ·rw[hb] at hk;simp at hk
 ·rcases key i g' hi with h3|⟨_,rfl⟩
  ·exact(m.sd k hk).2 i g' h3 hk'
  ·rw[hb] at hk';simp at hk'
 ·obtain⟨N,hN⟩:=m.fin
  refine⟨max N (n+1),fun q hq=> ?_⟩
  have:q≠n:=by omega
  simp[upd,this,hN q (by omega)]
theorem Same.addInr{γ:Gm}{n:Nat}{g:Option G}(id:Id)(p:Path):Same γ (upd γ (.inr n) g) id p:=Same.of_eq (by simp[upd]) p
theorem Mm.regroup{h:Heap}{γ:Gm}{S S':Nat→Prop}{w w':World}(m:Mm h γ S w)(is:List GId)(hfl:∀i∈is,Flo h i){G0:G}(hok:G0.ok w' S')(hnd:G0.bl.Nodup)
  (hbl:∀k∈G0.bl,(∃i∈is,∃g,γ i=some g∧k∈g.bl)∨w.heap.size≤k)
  (hw:∀i g,γ i=some g→i∉is→∀k∈g.bl,w'.heap[k]? = w.heap[k]?) (hS:∀k,S k→S' k∧w'.heap[k]? = w.heap[k]?)
  (hsd:∀k,S' k→k<w'.heap.size∧k∉G0.bl∧∀i g,γ i=some g→i∉is→k∉g.bl) (id:Id) :
  Mm (upd h id (some G0.er)) (upd (rem γ is) (.inl id) (some G0)) S' w':=by
 have key:∀i g',upd (rem γ is) (.inl id) (some G0) i=some g'→(i∉is∧γ i=some g'∧i≠ .inl id)∨(i= .inl id∧g'=G0):=fun i g' hi=>by
  unfold upd at hi
  split at hi
  ·simp only[oi] at hi;exact .inr ⟨‹_›,hi.symm⟩
  ·rw[cA] at hi;exact .inl ⟨hi.1,hi.2,‹_›⟩
 have hlt:∀i g,γ i=some g→∀k∈g.bl,k<w.heap.size:=fun i g hg=>G.ok_lt g (m.ok i g hg)
 refine⟨fun id' d hd=> ?_,fun i g' hi=> ?_,fun i g' hi=> ?_,fun i i' g1 g2 h1 h2 hne k hk=> ?_,fun k hk=>⟨(hsd k hk).1,fun i g' hi hk'=> ?_⟩,?_⟩
 ·by_cases he:id'=id
  ·subst he
   simp only[upd,if_true,oi] at hd
   exact⟨G0,by simp[upd],hd⟩
  ·simp only[upd,he,if_false] at hd
   obtain⟨g',h1,h2⟩:=m.er id' d hd
   refine⟨g',?_,h2⟩
   simp only[upd,Sum.inl.injEq,he,if_false]
   rw[cA]
   refine⟨fun hin=> ?_,h1⟩
   have:=hfl _ hin id' rfl
   rw[this] at hd
   simp at hd
 ·rcases key i g' hi with⟨h1,h2,_⟩|⟨_,rfl⟩
  ·exact G.ok_congr hS g' (hw i g' h2 h1) (m.ok i g' h2)
  ·exact hok
 ·rcases key i g' hi with⟨h1,h2,_⟩|⟨_,rfl⟩
  ·exact m.nd i g' h2
  ·exact hnd
 ·have hx:∀i g',i∉is→γ i=some g'→∀k∈g'.bl,k∉G0.bl:=fun i g' hi hg k hk hk0=>by
   rcases hbl k hk0 with⟨i1,hi1,g1',h5,h6⟩|h5
   ·have hne':i≠i1:=fun e=>hi (e ▸ hi1)
    exact m.dj i i1 g' g1' hg h5 hne' k hk h6
   ·have:=hlt i g' hg k hk
    omega
  rcases key i g1 h1 with⟨h3,h4,h5⟩|⟨rfl,rfl⟩
  ·rcases key i' g2 h2 with⟨h6,h7,_⟩|⟨_,rfl⟩
   ·exact m.dj i i' g1 g2 h4 h7 hne k hk
   ·exact hx i g1 h3 h4 k hk
  ·rcases key i' g2 h2 with⟨h6,h7,_⟩|⟨rfl,rfl⟩
   ·exact fun hk'=>hx i' g2 h6 h7 k hk' hk
   ·exact absurd rfl hne
 ·rcases key i g' hi with⟨h1,h2,_⟩|⟨_,rfl⟩
  ·exact(hsd k hk).2.2 i g' h2 h1 hk'
  ·exact(hsd k hk).2.1 hk'
 ·obtain⟨N,hN⟩:=m.fin
  refine⟨N,fun q hq=> ?_⟩
  simp only[upd,reduceCtorEq,if_false]
  unfold rem
  split
  ·rfl
  ·exact hN q hq
theorem Same.regroup{γ:Gm}{is:List GId}{id0:Id}{g0:Option G}(id:Id)(p:Path)(hne:id≠id0):Same γ (upd (rem γ is) (.inl id0) g0) id p:=fun g hg=>by
 unfold Gm.nav at hg
 simp only[upd,Sum.inl.injEq,hne,if_false,aA] at hg
 obtain⟨g1,h1,h2⟩:=hg
 rw[cA] at h1
 exact⟨g,by simp[Gm.nav,h1.2,h2],Like.refl _⟩
structure Took (h h':Heap) (γ γ':Gm) (S:Nat→Prop) (w:World) (i:GId) (g:G):Prop where
 mm:Mm h' γ' S w
 at_:γ' i=some g
 flo:Flo h' i
 isr:∃n,i= .inr n
 new:∀j,Flo h j→(γ j).isSome=true→j≠i∧γ' j=γ j
 mono:∀id,h id=none→h' id=none
 same:∀id p,Same γ γ' id p
 sub:Sub γ' γ
theorem Cf(d:D)(v:Value):(G.l d v).bl=[]:=by simp[G.bl]
theorem nG{h:Heap}{γ:Gm}{S:Nat→Prop}{w:World}(m:Mm h γ S w){g:G}(hg:g.ok w S)(hb:g.bl=[]):∃γ' i,Took h h γ γ' S w i g:=by
 obtain⟨n,hn⟩:=m.fresh
 refine⟨upd γ (.inr n) (some g),.inr n,m.addLeaf hn hg hb,by simp[upd],fun id e=>by simp at e,⟨n,rfl⟩,fun j _ hj=> ?_,fun _ h=>h,fun id p=>Same.addInr id p,fun i g' hi k hk=> ?_⟩
 ·have hne:j≠ .inr n:=fun e=>by rw[e,hn] at hj;simp at hj
  exact⟨hne,by simp[upd,hne]⟩
 ·unfold upd at hi
  split at hi
  ·simp only[oi] at hi;subst hi;rw[hb] at hk;simp at hk
  ·exact⟨i,g',hi,hk⟩
def Cmp(id:Id)(p:Path)(id':Id)(p':Path):Prop:=id'=id∧(p <+: p'∨p' <+: p)
theorem Gp{x:G}:∀(p:Path) (g g':G),g.put p x=some g'→∀p',¬p <+: p'→¬p' <+: p→g'.nav p'=g.nav p'
 |[],_,_,_,p',h,_=>absurd (List.nil_prefix) h
 |(j,i)::p,.l _ _,_,h,_,_,_=>by simp[G.put] at h
 |(j,i)::p,.s sz b els,g',h,p',h1,h2=>by
  simp only[G.put,aA,aC] at h
  obtain⟨el,h3,c,h4,c',h5,rfl⟩:=h
  cases p' with
  |nil=>exact absurd List.nil_prefix h2
  |cons a p' =>
   obtain⟨j',i'⟩:=a
   simp only[G.nav]
   by_cases hj:j'=j
   ·subst hj
    rw[List.getElem?_set_self (List.getElem?_eq_some_iff.1 h3).1,h3]
    simp only[obs]
    by_cases hi:i'=i
    ·subst hi
     rw[List.getElem?_set_self (List.getElem?_eq_some_iff.1 h4).1,h4]
     simp only[obs]
     exact Gp p c c' h5 p' (fun h=>h1 (List.cons_prefix_cons.2 ⟨rfl,h⟩)) (fun h=>h2 (List.cons_prefix_cons.2 ⟨rfl,h⟩))
    ·rw[List.getElem?_set_ne (Ne.symm hi)]
   ·rw[List.getElem?_set_ne (Ne.symm hj)]
theorem G4{h h':Heap}{γ:Gm}{S:Nat→Prop}{w:World}(m:Mm h γ S w){id:Id}{p:Path}{d:D}(ht:h.take id p=some (d,h')){v:Value}(hv:∀g,γ.nav id p=some g→g.val=v) :
  ∃γ' i g,Took h h' γ γ' S w i g∧g.er=d∧g.val=v∧(∃sz b els,g= .s sz b els)∧γ.nav id p=some g∧γ'.nav id p=(if p=[] then none else some (.l .u v))∧∀id' p',¬Cmp id p id' p'→γ'.nav id' p'=γ.nav id' p':=by
 cases p with
 |nil =>
  simp only[Heap.take,aC] at ht
  obtain⟨r,h1,h2⟩:=ht
  simp only[zqb] at h2
  obtain⟨rfl,rfl⟩:=h2
  obtain⟨b,els,h3,h4⟩:=m.row h1
  have h5:γ (.inl id)=some (.s r.1 b els):=by
   simp only[Gm.nav,aA,G.nav,oi] at h3
   obtain⟨g,h3,rfl⟩:=h3
   exact h3
  obtain⟨n,hn⟩:=m.fresh
  have hne:(Sum.inr n:GId)≠ .inl id:=by simp
  have hm:Mm (upd h id none) (upd (upd γ (.inl id) none) (.inr n) (some (.s r.1 b els))) S w:=by
   have key:∀i g',upd (upd γ (.inl id) none) (.inr n) (some (.s r.1 b els)) i=some g'→∃i0,γ i0=some g'∧(i0= .inl id↔i= .inr n)∧(i≠ .inr n→i0=i):=fun i g' hi=>by
    unfold upd at hi
    split at hi
    ·rename_i e
     simp only[oi] at hi
     exact⟨.inl id,by rw[h5,hi],by simp[e],fun h=>absurd e h⟩
    ·rename_i e
     split at hi
     ·simp at hi
     ·rename_i e2
      exact⟨i,hi,⟨fun h=>absurd h e2,fun h=>absurd h e⟩,fun _=>rfl⟩
   refine⟨fun id' d hd=> ?_,fun i g' hi=> ?_,fun i g' hi=> ?_,fun i i' g1 g2 h6 h7 hne' k hk=> ?_,fun k hk=>⟨(m.sd k hk).1,fun i g' hi=> ?_⟩,?_⟩
   ·unfold upd at hd
    split at hd
    ·simp at hd
    ·rename_i e
     obtain⟨g',a1,a2⟩:=m.er id' d hd
     exact⟨g',by simp[upd,e,a1],a2⟩
   ·obtain⟨i0,a1,_⟩:=key i g' hi
    exact m.ok i0 g' a1
   ·obtain⟨i0,a1,_⟩:=key i g' hi
    exact m.nd i0 g' a1
   ·obtain⟨i0,a1,a2,a3⟩:=key i g1 h6
    obtain⟨i1,b1,b2,b3⟩:=key i' g2 h7
    refine m.dj i0 i1 g1 g2 a1 b1 (fun e=>hne' ?_) k hk
    by_cases hi:i= .inr n
    ·have:=b2.1 (e ▸ a2.2 hi)
     rw[hi,this]
    ·by_cases hi':i'= .inr n
     ·exact absurd (a2.1 (e.trans (b2.2 hi'))) hi
     ·rw[←a3 hi,←b3 hi',e]
   ·obtain⟨i0,a1,_⟩:=key i g' hi
    exact(m.sd k hk).2 i0 g' a1
   ·obtain⟨N,hN⟩:=m.fin
    refine⟨max N (n+1),fun q hq=> ?_⟩
    have:q≠n:=by omega
    simp[upd,this,hN q (by omega)]
  refine⟨_,.inr n,_,⟨hm,by simp[upd],fun id' e=>by simp at e,⟨n,rfl⟩,fun j hj hs=> ?_,fun id' h0=> ?_,fun id' p=> ?_,fun i g' hi k hk=> ?_⟩,by simp[G.er,h4],hv _ h3,⟨_,_,_,rfl⟩,h3,by simp[Gm.nav,upd],fun id' p' hc=> ?_⟩
  ·have hj1:j≠ .inr n:=fun e=>by rw[e,hn] at hs;simp at hs
   have hj2:j≠ .inl id:=fun e=>by
    have:=hj id e
    simp[Heap.row,Heap.nav,this] at h1
   exact⟨hj1,by simp[upd,hj1,hj2]⟩
  ·unfold upd
   split<;>simp_all
  ·by_cases he:id'=id
   ·exact Same.of_none (by simp[upd,he]) p
   ·exact Same.of_eq (by simp[upd,he]) p
  ·unfold upd at hi
   split at hi
   ·simp only[oi] at hi
    subst hi
    exact⟨.inl id,_,h5,hk⟩
   ·split at hi
    ·simp at hi
    ·exact⟨i,g',hi,hk⟩
  ·have hne:id'≠id:=fun e=>hc ⟨e,.inl List.nil_prefix⟩
   simp[Gm.nav,upd,hne]
 |cons c p =>
  simp only[Heap.take,aA,aC] at ht
  obtain⟨r,h1,h'',h2,h3⟩:=ht
  simp only[zqb] at h3
  obtain⟨rfl,rfl⟩:=h3
  obtain⟨b,els,h3,h4⟩:=m.row h1
  have h3':=h3
  unfold Gm.nav at h3
  simp only[aA] at h3
  obtain⟨g0,h5,h6⟩:=h3
  unfold Heap.put at h2
  simp only[aA,aC] at h2
  obtain⟨d0,h7,d1,h8,h9⟩:=h2
  obtain⟨g0',h10,h11⟩:=m.er id d0 h7
  rw[h5] at h10
  simp only[oi] at h10
  subst h10
  subst h11
  have hnode:=nav_ok (c::p) g0 _ (m.ok _ _ h5) h6
  have hvv:=hv _ h3'
  have hone:v.oneCell'=true:=by
   rw[←hvv]
   cases b<;>rfl
  rw[show(D.u)=(G.l .u v).er from by simp[G.er],R8 (c::p) g0 (.l .u v) (m.ok _ _ h5)] at h8
  simp only[aC] at h8
  obtain⟨g1,h12,rfl⟩:=h8
  obtain⟨R,hp1,hp2⟩:=Ff (c::p) g0 _ h6
  have hp3:=hp2 _ _ h12
  rw[Cf,zqf] at hp3
  have hnd0:=hp1.nodup_iff.1 (m.nd _ _ h5)
  obtain⟨hndn,hndR,hdis⟩:=List.nodup_append.1 hnd0
  have hok1:g1.ok w S:=by
   obtain⟨q,a,hq⟩:∃q a,c::p=q++[a]:=⟨(c::p).dropLast,(c::p).getLast (by simp),(List.dropLast_concat_getLast (by simp)).symm⟩
   rw[hq,lW] at h6
   simp only[aA] at h6
   obtain⟨gq,h13,h14⟩:=h6
   obtain⟨j,i⟩:=a
   cases gq with
   |l d v=>simp[G.nav] at h14
   |s sz0 b0 els0 =>
    simp only[G.nav,aA,oi] at h14
    obtain⟨el,h15,cc,h16,rfl⟩:=h14
    have hrow:=nav_ok q g0 _ (m.ok _ _ h5) h13
    cases b0 with
    |none =>
     simp only[G.ok] at hrow
     rw[hrow.1] at h15
     simp at h15
    |some b0 =>
     obtain⟨g',h17,h18⟩:=E0 (w:=w) (w':=w) (S:=S) (S':=S) (fun k hk=>⟨hk,rfl⟩) (c':= .l .u v) (by simp only[G.ok];exact⟨rfl,by simp only[D.rd];exact hone⟩) h15 h16
      (fun cur e hcur hidx=>by
       rw[hcur,hvv] at *
       congr 2
       simp only[G.val]
       apply Array.ext_getElem?
       intro n
       rw[Array.getElem?_setIfInBounds]
       split
       ·rename_i e1
        subst e1
        split
        ·exact hidx
        ·rw[Array.getElem?_eq_none (by omega)]
       ·rfl) q g0 (m.ok _ _ h5) (m.nd _ _ h5) h13 (fun _ _ _=>rfl)
     rw[hq,h17] at h12
     simp only[oi] at h12
     subst h12
     exact h18
  obtain⟨n,hn⟩:=m.fresh
  have key:∀i g',upd (upd γ (.inl id) (some g1)) (.inr n) (some (.s r.1 b els)) i=some g'→(i= .inr n∧g'= .s r.1 b els)∨(i= .inl id∧g'=g1)∨(i≠ .inl id∧i≠ .inr n∧γ i=some g'):=fun i g' hi=>by
   unfold upd at hi
   split at hi
   ·simp only[oi] at hi;exact .inl ⟨‹_›,hi.symm⟩
   ·split at hi
    ·simp only[oi] at hi;exact .inr (.inl ⟨‹_›,hi.symm⟩)
    ·exact .inr (.inr ⟨‹_›,‹_›,hi⟩)
  have hin1:∀k∈g1.bl,k∈g0.bl:=fun k hk=>hp1.mem_iff.2 (List.mem_append_right _ (hp3.mem_iff.1 hk))
  have hinn:∀k∈(G.s r.1 b els).bl,k∈g0.bl:=fun k hk=>hp1.mem_iff.2 (List.mem_append_left _ hk)
  refine⟨upd (upd γ (.inl id) (some g1)) (.inr n) (some (.s r.1 b els)),.inr n,.s r.1 b els,⟨?_,by simp[upd],fun id e=>by simp at e,⟨n,rfl⟩,fun j hj hs=> ?_,fun id' h0=> ?_,fun id' p'=> ?_,fun i g' hi k hk=> ?_⟩,by simp[G.er,h4],hvv,⟨_,_,_,rfl⟩,h3',by simp[Gm.nav,upd,oA _ _ _ _ h12],fun id' p' hc=> ?_⟩
  ·refine⟨fun id' d hd=> ?_,fun i g' hi=> ?_,fun i g' hi=> ?_,fun i i' g2 g3 h13 h14 hne k hk=> ?_,fun k hk=>⟨(m.sd k hk).1,fun i g' hi hk'=> ?_⟩,?_⟩
   ·rw[←h9] at hd
    unfold upd at hd
    split at hd
    ·rename_i e
     subst e
     simp only[oi] at hd
     exact⟨g1,by simp[upd],hd⟩
    ·obtain⟨g',e1,e2⟩:=m.er id' d hd
     exact⟨g',by simp[upd,e1,‹¬id'=id›],e2⟩
   ·rcases key i g' hi with⟨_,rfl⟩|⟨_,rfl⟩|⟨_,_,e⟩
    ·exact hnode
    ·exact hok1
    ·exact m.ok i g' e
   ·rcases key i g' hi with⟨_,rfl⟩|⟨_,rfl⟩|⟨_,_,e⟩
    ·exact hndn
    ·exact hp3.nodup_iff.2 hndR
    ·exact m.nd i g' e
   ·rcases key i g2 h13 with⟨rfl,rfl⟩|⟨rfl,rfl⟩|⟨e1,e2,e3⟩
    ·rcases key i' g3 h14 with⟨rfl,rfl⟩|⟨rfl,rfl⟩|⟨e4,e5,e6⟩
     ·exact absurd rfl hne
     ·exact fun hk'=>hdis k hk k (hp3.mem_iff.1 hk') rfl
     ·exact m.dj _ _ g0 g3 h5 e6 (Ne.symm e4) k (hinn k hk)
    ·rcases key i' g3 h14 with⟨rfl,rfl⟩|⟨rfl,rfl⟩|⟨e4,e5,e6⟩
     ·exact fun hk'=>hdis k hk' k (hp3.mem_iff.1 hk) rfl
     ·exact absurd rfl hne
     ·exact m.dj _ _ g0 g3 h5 e6 (Ne.symm e4) k (hin1 k hk)
    ·rcases key i' g3 h14 with⟨rfl,rfl⟩|⟨rfl,rfl⟩|⟨e4,e5,e6⟩
     ·exact fun hk'=>m.dj _ _ g2 g0 e3 h5 e1 k hk (hinn k hk')
     ·exact fun hk'=>m.dj _ _ g2 g0 e3 h5 e1 k hk (hin1 k hk')
     ·exact m.dj i i' g2 g3 e3 e6 hne k hk
   ·rcases key i g' hi with⟨_,rfl⟩|⟨_,rfl⟩|⟨_,_,e⟩
    ·exact(m.sd k hk).2 _ g0 h5 (hinn k hk')
    ·exact(m.sd k hk).2 _ g0 h5 (hin1 k hk')
    ·exact(m.sd k hk).2 i g' e hk'
   ·obtain⟨N,hN⟩:=m.fin
    refine⟨max N (n+1),fun q hq=> ?_⟩
    have:q≠n:=by omega
    simp[upd,this,hN q (by omega)]
  ·have hne:j≠ .inr n:=fun e=>by rw[e,hn] at hs;simp at hs
   have hne2:j≠ .inl id:=fun e=>by
    have:=hj id e
    rw[h7] at this
    simp at this
   exact⟨hne,by simp[upd,hne,hne2]⟩
  ·rw[←h9]
   unfold upd
   split
   ·rename_i e
    subst e
    rw[h7] at h0
    simp at h0
   ·exact h0
  ·by_cases he:id'=id
   ·subst he
    intro x' hx'
    unfold Gm.nav at hx'
    simp only[upd,reduceCtorEq,if_false,if_true,aA,oi] at hx'
    obtain⟨_,rfl,hx'⟩:=hx'
    obtain⟨x,hx,r1⟩:=X6 (c:= .s r.1 b els) (c':= .l .u v) (by rw[hvv];rfl) rfl rfl (fun _ _ _=>by simp[G.nav]) (c::p) g0 _ h6 h12 p' x' hx'
    exact⟨x,by simp[Gm.nav,h5,hx],r1⟩
   ·exact Same.of_eq (by simp[upd,he]) p'
  ·rcases key i g' hi with⟨_,rfl⟩|⟨_,rfl⟩|⟨_,_,e⟩
   ·exact⟨_,g0,h5,hinn k hk⟩
   ·exact⟨_,g0,h5,hin1 k hk⟩
   ·exact⟨i,g',e,hk⟩
  ·by_cases he:id'=id
   ·subst he
    have:=Gp _ _ _ h12 p' (fun h=>hc ⟨rfl,.inl h⟩) (fun h=>hc ⟨rfl,.inr h⟩)
    simp[Gm.nav,upd,h5,this]
   ·simp[Gm.nav,upd,he]
theorem Fy{h h':Heap}{γ:Gm}{S:Nat→Prop}{w:World}(m:Mm h γ S w){id:Id}{p:Path}{d:D}(ht:h.take id p=some (d,h')){v:Value}(hv:∀g,γ.nav id p=some g→g.val=v) :
  ∃γ' i g,Took h h' γ γ' S w i g∧g.er=d∧g.val=v∧∃sz b els,g= .s sz b els:=by
 obtain⟨γ',i,g,h1,h2,h3,h4,_⟩:=G4 m ht hv
 exact⟨γ',i,g,h1,h2,h3,h4⟩
open Go.RowKit
theorem zQF{h h':Heap}{γ:Gm}{S:Nat→Prop}{w:World}(m:Mm h γ S w){x:X}{v:Value}(hx:x.vr γ w S v){d:D}(ht:iG h x=some (d,h')) :
  ∃γ' i g,Took h h' γ γ' S w i g∧g.er=d∧g.val=v:=by
 match x with
 |.d (.v a) =>
  simp only[iG,oi,zqb] at ht
  obtain⟨rfl,rfl⟩:=ht
  simp only[X.vr] at hx
  obtain⟨γ',i,ht⟩:=nG m (g:= .l (.v a) v) (by simp only[G.ok,D.rd];exact⟨rfl,hx⟩) (Cf _ _)
  exact⟨γ',i,_,ht,rfl,rfl⟩
 |.d (.r e) =>
  simp only[iG,oi,zqb] at ht
  obtain⟨rfl,rfl⟩:=ht
  simp only[X.vr] at hx
  obtain⟨γ',i,ht⟩:=nG m (g:= .l (.r e) v) (by simp only[G.ok];exact⟨rfl,hx⟩) (Cf _ _)
  exact⟨γ',i,_,ht,rfl,rfl⟩
 |.d (.s sz []) =>
  simp only[iG,oi,zqb] at ht
  obtain⟨rfl,rfl⟩:=ht
  simp only[X.vr] at hx
  obtain⟨γ',i,ht⟩:=nG m (g:= .s sz none []) (by simp[G.ok,gK]) (by simp[G.bl,bX])
  exact⟨γ',i,_,ht,by simp[G.er,cD],by simp[G.val,hx]⟩
 |.ref id p =>
  simp only[iG] at ht
  simp only[X.vr] at hx
  obtain⟨γ',i,g,h1,h2,h3,_⟩:=Fy m ht (fun g hg=>(hx.2 g hg).1)
  exact⟨γ',i,g,h1,h2,h3⟩
 |.d (.s sz (_::_))=>simp[iG] at ht
 |.d .u =>
  simp only[iG,oi,zqb] at ht
  obtain⟨rfl,rfl⟩:=ht
  simp only[X.vr] at hx
  obtain⟨γ',i,ht⟩:=nG m (g:= .l .u v) (by simp only[G.ok,D.rd];exact⟨rfl,hx⟩) (Cf _ _)
  exact⟨γ',i,_,ht,rfl,rfl⟩
 |.agg _=>simp[iG] at ht
 |.tup _=>simp[iG] at ht
 |.ptr .. => simp[iG] at ht
 |.rop _=>simp[iG] at ht
 |.vp _=>simp[iG] at ht
 |.clo .. => simp[iG] at ht
def fls(γ:Gm)(h:Heap):List GId→List G→Prop
 |[],[]=>True
 |i::is,g::gs=>γ i=some g∧Flo h i∧i∉is∧fls γ h is gs
 |_,_=>False
theorem zq5{γ:Gm}{h:Heap}:∀{is:List GId} {gs:List G},fls γ h is gs→∀i∈is,Flo h i∧∃g∈gs,γ i=some g
 |[],[],_,i,hi=>by simp at hi
 |j::is,g::gs,hf,i,hi=>by
  simp only[fls] at hf
  rcases List.mem_cons.1 hi with rfl|hi
  ·exact⟨hf.2.1,g,by simp,hf.1⟩
  ·obtain⟨h1,g',h2,h3⟩:=zq5 hf.2.2.2 i hi
   exact⟨h1,g',by simp[h2],h3⟩
 |[],_::_,hf,_,_=>by simp[fls] at hf
 |_::_,[],hf,_,_=>by simp[fls] at hf
theorem xG{γ:Gm}{h:Heap}:∀{is:List GId} {gs:List G},fls γ h is gs→∀g∈gs,∃i∈is,γ i=some g
 |[],[],_,i,hi=>by simp at hi
 |j::is,g::gs,hf,g',hi=>by
  simp only[fls] at hf
  rcases List.mem_cons.1 hi with rfl|hi
  ·exact⟨j,by simp,hf.1⟩
  ·obtain⟨i,h1,h2⟩:=xG hf.2.2.2 g' hi
   exact⟨i,by simp[h1],h2⟩
 |[],_::_,hf,_,_=>by simp[fls] at hf
 |_::_,[],hf,_,_=>by simp[fls] at hf
theorem Rk{h h0:Heap}{γ:Gm}{S:Nat→Prop}{w:World}(m:Mm h γ S w):∀{is:List GId} {gs:List G},fls γ h0 is gs→(bls gs).Nodup
 |[],[],_=>by simp[bls]
 |j::is,g::gs,hf=>by
  simp only[fls] at hf
  simp only[bls]
  refine List.nodup_append.2 ⟨m.nd _ _ hf.1,Rk m hf.2.2.2,fun k hk k' hk'=> ?_⟩
  rintro rfl
  obtain⟨g',h1,h2⟩:=xR.1 hk'
  obtain⟨i,h3,h4⟩:=xG hf.2.2.2 g' h1
  exact m.dj _ _ g g' hf.1 h4 (fun e=>hf.2.2.1 (e ▸ h3)) k hk h2
 |[],_::_,hf=>by simp[fls] at hf
 |_::_,[],hf=>by simp[fls] at hf
theorem zjc{h h0:Heap}{γ:Gm}{S:Nat→Prop}{w:World}(m:Mm h γ S w){is:List GId}{gs:List G}(hf:fls γ h0 is gs):∀g∈gs,g.ok w S:=fun g hg=>by
 obtain⟨i,_,hi⟩:=xG hf g hg
 exact m.ok i g hi
structure TookL (h h':Heap) (γ γ':Gm) (S:Nat→Prop) (w:World) (is:List GId) (gs:List G):Prop where
 mm:Mm h' γ' S w
 fl:fls γ' h' is gs
 new:∀j,Flo h j→(γ j).isSome=true→j∉is∧γ' j=γ j
 mono:∀id,h id=none→h' id=none
 same:∀id p,Same γ γ' id p
 sub:Sub γ' γ
theorem Fz{S:Nat→Prop}{w:World}:∀{xs:List X} {vs:List Value} {h h':Heap} {γ:Gm},Mm h γ S w→vrs γ w S xs vs→∀{ds:List D},iZ h xs=some (ds,h') →
  ∃γ' is gs,TookL h h' γ γ' S w is gs∧ers gs=ds∧cL gs=vs
 |[],[],h,h',γ,m,_,ds,ht=>by
  simp only[iZ,oi,zqb] at ht
  obtain⟨rfl,rfl⟩:=ht
  exact⟨γ,[],[],⟨m,by simp[fls],fun j _ _=>⟨by simp,rfl⟩,fun _ h=>h,fun id p=>Same.refl γ id p,Sub.refl γ⟩,by simp[ers],rfl⟩
 |x::xs,v::vs,h,h',γ,m,hv,ds,ht=>by
  simp only[iZ,aA,aC] at ht
  obtain⟨⟨d,h1⟩,h2,⟨ds',h3⟩,h4,h5⟩:=ht
  simp only[zqb] at h5
  obtain⟨rfl,rfl⟩:=h5
  simp only[vrs] at hv
  obtain⟨γ1,i,g,t1,e1,e2⟩:=zQF m hv.1 h2
  have hv2:vrs γ1 w S xs vs:=gJ (fun k hk=>⟨hk,rfl⟩) xs vs (fY t1.same xs) hv.2
  obtain⟨γ2,is,gs,t2,e3,e4⟩:=Fz t1.mm hv2 h4
  obtain⟨hni,hγi⟩:=t2.new i t1.flo (by simp[t1.at_])
  refine⟨γ2,i::is,g::gs,⟨t2.mm,?_,fun j hj hs=> ?_,fun id hid=>t2.mono id (t1.mono id hid),fun id p=>(t1.same id p).trans (t2.same id p),t2.sub.trans t1.sub⟩,by simp[ers,e1,e3],by simp[cL,e2];exact e4⟩
  ·simp only[fls]
   exact⟨hγi.trans t1.at_,fun id e=>t2.mono id (t1.flo id e),hni,t2.fl⟩
  ·obtain⟨a1,a2⟩:=t1.new j hj hs
   obtain⟨a3,a4⟩:=t2.new j (fun id e=>t1.mono id (hj id e)) (by rw[a2];exact hs)
   exact⟨by simp[a1,a3],a4.trans a2⟩
 |[],_::_,_,_,_,_,hv,_,_=>by simp[vrs] at hv
 |_::_,[],_,_,_,_,hv,_,_=>by simp[vrs] at hv
theorem F7:∀(p:Path) (d x d':D),d.put p x=some d'→d'.nav p=some x
 |[],d,x,d',h=>by simp only[D.put,oi] at h;subst h;simp[D.nav]
 |(j,i)::p,.s sz els,x,d',h=>by
  simp only[D.put,aA,aC] at h
  obtain⟨el,h1,c,h2,c',h3,rfl⟩:=h
  simp only[D.nav,List.getElem?_set_self (List.getElem?_eq_some_iff.1 h1).1,obs,List.getElem?_set_self (List.getElem?_eq_some_iff.1 h2).1]
  exact F7 p c x c' h3
 |(j,i)::p,.v _,x,d',h=>by simp[D.put] at h
 |(j,i)::p,.r _,x,d',h=>by simp[D.put] at h
 |(j,i)::p,.u,x,d',h=>by simp[D.put] at h
theorem zka:∀(p:Path) (d x y d':D),d.put p x=some d'→d'.put p y=d.put p y
 |[],d,x,y,d',h=>by simp[D.put]
 |(j,i)::p,.s sz els,x,y,d',h=>by
  simp only[D.put,aA,aC] at h
  obtain⟨el,h1,c,h2,c',h3,rfl⟩:=h
  simp only[D.put,List.getElem?_set_self (List.getElem?_eq_some_iff.1 h1).1,obs,List.getElem?_set_self (List.getElem?_eq_some_iff.1 h2).1,h1,h2]
  rw[zka p c x y c' h3]
  simp[List.set_set]
 |(j,i)::p,.v _,x,y,d',h=>by simp[D.put] at h
 |(j,i)::p,.r _,x,y,d',h=>by simp[D.put] at h
 |(j,i)::p,.u,x,y,d',h=>by simp[D.put] at h
theorem Xb:∀(q:Path) (d:D) (sz:Nat) (els:List (List D)) (j i:Nat) (el:List D) (x:D),d.nav q=some (.s sz els)→els[j]? = some el→i<el.length →
  d.put (q++[(j,i)]) x=d.put q (.s sz (els.set j (el.set i x)))
 |[],d,sz,els,j,i,el,x,h,h1,h2=>by
  simp only[D.nav,oi] at h
  subst h
  simp[D.put,h1,List.getElem?_eq_getElem h2]
 |(j0,i0)::q,.s sz0 els0,sz,els,j,i,el,x,h,h1,h2=>by
  simp only[D.nav,aA] at h
  obtain⟨el0,h3,c0,h4,h5⟩:=h
  simp only[List.cons_append,D.put,h3,h4,obs]
  rw[Xb q c0 sz els j i el x h5 h1 h2]
 |(j0,i0)::q,.v _,_,_,_,_,_,_,h,_,_=>by simp[D.nav] at h
 |(j0,i0)::q,.r _,_,_,_,_,_,_,h,_,_=>by simp[D.nav] at h
 |(j0,i0)::q,.u,_,_,_,_,_,_,h,_,_=>by simp[D.nav] at h
theorem Za:∀(q:Path) (g:G) (sz:Nat) (b:Option Bk) (els:List (List G)) (j i:Nat) (el:List G) (c' g':G),g.nav q=some (.s sz b els)→els[j]? = some el→g.put (q++[(j,i)]) c'=some g' →
  g'.nav q=some (.s sz b (els.set j (el.set i c')))
 |[],g,sz,b,els,j,i,el,c',g',h,h1,hp=>by
  simp only[G.nav,oi] at h
  subst h
  simp only[zqf,G.put,h1,obs,aA,aC,oi] at hp
  obtain⟨c,h2,c'',h3,rfl⟩:=hp
  subst h3
  simp[G.nav]
 |(j0,i0)::q,.l d v,_,_,_,_,_,_,_,_,h,_,_=>by simp[G.nav] at h
 |(j0,i0)::q,.s sz0 b0 els0,sz,b,els,j,i,el,c',g',h,h1,hp=>by
  simp only[G.nav,aA] at h
  obtain⟨el0,h3,c0,h4,h5⟩:=h
  simp only[List.cons_append,G.put,h3,h4,obs,aC] at hp
  obtain⟨c0',h6,rfl⟩:=hp
  simp only[G.nav,List.getElem?_set_self (List.getElem?_eq_some_iff.1 h3).1,obs,List.getElem?_set_self (List.getElem?_eq_some_iff.1 h4).1]
  exact Za q c0 sz b els j i el c' c0' h5 h1 h6
theorem kD{w:World}{S:Nat→Prop}{sz b cap o:Nat}{els:List (List G)}(h:(G.s sz (some ⟨b,cap,o⟩) els).ok w S):∃cur e,w.heap[b]? = some (.cells cur e (0,0)):=by
 simp only[G.ok] at h
 obtain⟨⟨_,_,cur,e,h3,_⟩,_⟩:=h
 exact⟨cur,e,h3⟩
structure Stored (h h':Heap) (γ γ':Gm) (S:Nat→Prop) (w:World) (id:Id) (q:Path) (j i sz b cap o:Nat) (els:List (List G)) (el:List G) (gid:GId) (c':G):Prop where
 cell:(w.cell? ⟨b,o+(j*sz+i),none⟩).isSome=true
 free:w.frozen? ⟨b,o+(j*sz+i),none⟩=false
 put:h.put id q (.s sz (cD (els.set j (el.set i c'))))=some h'
 mm:Mm h' γ' S (w.setCell ⟨b,o+(j*sz+i),none⟩ c'.val)
 at_:γ'.nav id q=some (.s sz (some ⟨b,cap,o⟩) (els.set j (el.set i c')))
 new:∀k,Flo h k→k≠gid→γ' k=γ k
 mono:∀id,h id=none↔h' id=none
 same:∀id' p',(id'=id→∀r,p'≠q++[(j,i)]++r)→Same γ γ' id' p'
 plain:(∃x v y u,el[i]? = some (.l (.v x) v)∧c'= .l (.v y) u)→∀id' p',Same γ γ' id' p'
 sub:Sub γ' γ
 inb:∃i0 g0,γ i0=some g0∧b∈g0.bl
theorem zZN{h:Heap}{γ:Gm}{S:Nat→Prop}{w:World}(m:Mm h γ S w){id:Id}{q:Path}{d0:D}(hd0:h id=some d0){sz b cap o:Nat}{els:List (List G)}(hq:γ.nav id q=some (.s sz (some ⟨b,cap,o⟩) els))
  {j i:Nat} {el:List G} (hj:els[j]? = some el) {c:G} (hi:el[i]? = some c) {gid:GId} {c':G} (hg:γ gid=some c') (hf:Flo h gid) :
  ∃h' γ',Stored h h' γ γ' S w id q j i sz b cap o els el gid c':=by
 have hq0:=hq
 unfold Gm.nav at hq
 simp only[aA] at hq
 obtain⟨g0,h1,h2⟩:=hq
 obtain⟨g0',h3,h4⟩:=m.er id d0 hd0
 rw[h1] at h3
 simp only[oi] at h3
 subst h3
 have hne:gid≠ .inl id:=fun e=>by
  have:=hf id e
  rw[hd0] at this
  simp at this
 have hrow:=nav_ok q g0 _ (m.ok _ _ h1) h2
 obtain⟨cur,e,hcur⟩:=kD hrow
 have hb0:b∈g0.bl:=Nc q g0 _ h2 b (by simp[G.bl])
 have hdisj:∀k∈g0.bl,k∉c'.bl:=m.dj _ _ g0 c' h1 hg (Ne.symm hne)
 have hcb:b∉c'.bl:=hdisj b hb0
 have hSb:¬S b:=fun hs=>(m.sd b hs).2 _ _ h1 hb0
 have hSw:∀k,S k→S k∧(w.setCell ⟨b,o+(j*sz+i),none⟩ c'.val).heap[k]? = w.heap[k]? := fun k hk=>⟨hk,Below.heap_setCell w _ _ k (fun e=>hSb (by simp only at e;rw[←e];exact hk))⟩
 have hc'ok:c'.ok (w.setCell ⟨b,o+(j*sz+i),none⟩ c'.val) S:=G.ok_congr hSw c' (fun k hk=>Below.heap_setCell w _ _ k (fun e=>hcb (by simp only at e;rw[←e];exact hk))) (m.ok _ _ hg)
 have hset:∀cur e,w.heap[b]? = some (.cells cur e (0,0))→(w.setCell ⟨b,o+(j*sz+i),none⟩ c'.val).heap[b]? = some (.cells (cur.setIfInBounds (o+(j*sz+i)) c'.val) e (0,0)):=fun cur e hc=>by
  simp[World.setCell,Array.getElem?_modify,hc]
 obtain⟨g1,h5,h6⟩:=E0 hSw hc'ok hj hi (fun cur e hc _=>hset cur e hc) q g0 (m.ok _ _ h1) (m.nd _ _ h1) h2 (fun k _ hkb=>Below.heap_setCell w _ _ k hkb)
 have hnc:g0.nav (q++[(j,i)])=some c:=by rw[lW,h2];simp[G.nav,hj,hi]
 obtain⟨R,hp1,hp2⟩:=Ff _ g0 c hnc
 have hp3:=hp2 _ _ h5
 have hnR:=(List.nodup_append.1 (hp1.nodup_iff.1 (m.nd _ _ h1)))
 have hR0:∀k∈R,k∈g0.bl:=fun k hk=>hp1.mem_iff.2 (List.mem_append_right _ hk)
 have key:∀k g',upd (upd γ gid none) (.inl id) (some g1) k=some g'→(k= .inl id∧g'=g1)∨(k≠ .inl id∧k≠gid∧γ k=some g'):=fun k g' hk=>by
  unfold upd at hk
  split at hk
  ·simp only[oi] at hk;exact .inl ⟨‹_›,hk.symm⟩
  ·split at hk
   ·simp at hk
   ·exact .inr ⟨‹_›,‹_›,hk⟩
 have hputD:h.put id q (.s sz (cD (els.set j (el.set i c'))))=some (upd h id (some g1.er)):=by
  have e1:g0.er.nav q=some (.s sz (cD els)):=by rw[nav_er q g0 (m.ok _ _ h1),h2];simp[G.er]
  have e2:=R8 (q++[(j,i)]) g0 c' (m.ok _ _ h1)
  rw[h5] at e2
  have e3:(cD els)[j]? = some (ers el):=by simp[cG,gV,hj]
  have e4:i<(ers el).length:=by rw[d4];exact(List.getElem?_eq_some_iff.1 hi).1
  rw[Xb q g0.er sz (cD els) j i (ers el) c'.er e1 e3 e4] at e2
  have e5:cD (els.set j (el.set i c'))=(cD els).set j ((ers el).set i c'.er):=by simp[cG,gV,List.map_set]
  rw[e5]
  unfold Heap.put
  rw[hd0,←h4]
  simp only[obs]
  rw[e2]
  simp
 have hsame:∀id' p',(id'=id→∀r,p'≠q++[(j,i)]++r)→Same γ (upd (upd γ gid none) (.inl id) (some g1)) id' p':=fun id' p' hp'=>by
  by_cases he:id'=id
  ·subst he
   intro x' hx'
   unfold Gm.nav at hx'
   simp only[upd,if_true,aA,oi] at hx'
   obtain⟨_,rfl,hx'⟩:=hx'
   obtain⟨x,hx,r⟩:=Hg (q++[(j,i)]) g0 g1 h5 (by simp) p' x' (hp' rfl) hx'
   exact⟨x,by simp[Gm.nav,h1,hx],r⟩
  ·by_cases hgi:gid= .inl id'
   ·exact Same.of_none (by simp[upd,he,hgi]) p'
   ·exact Same.of_eq (by simp[upd,he,Ne.symm hgi]) p'
 refine⟨upd h id (some g1.er),upd (upd γ gid none) (.inl id) (some g1),⟨?_,frozen_of_row w b _ cur e hcur,hputD,?_,?_,fun k hk hkn=> ?_,fun id'=> ?_,hsame,?_,fun k g' hk k' hk'=> ?_,⟨_,g0,h1,hb0⟩⟩⟩
 ·rw[sJ hrow hj hi];rfl
 ·refine⟨fun id' d hd=> ?_,fun k g' hk=> ?_,fun k g' hk=> ?_,fun k k' g2 g3 hk hk' hne' x hx=> ?_,fun k hk=>⟨by simpa using (m.sd k hk).1,fun k' g' hk' hx=> ?_⟩,?_⟩
  ·unfold upd at hd
   split at hd
   ·rename_i e
    subst e
    simp only[oi] at hd
    exact⟨g1,by simp[upd],hd⟩
   ·obtain⟨g',a1,a2⟩:=m.er id' d hd
    refine⟨g',?_,a2⟩
    have hx:(Sum.inl id':GId)≠gid:=fun e=>by
     have:=hf id' e.symm
     rw[this] at hd
     simp at hd
    simp only[upd,Sum.inl.injEq,‹¬id'=id›,if_false,hx]
    exact a1
  ·rcases key k g' hk with⟨_,rfl⟩|⟨a1,a2,a3⟩
   ·exact h6
   ·exact G.ok_congr hSw g' (fun x hx=>Below.heap_setCell w _ _ x (fun e=>m.dj _ _ g' g0 a3 h1 a1 x hx (by rw[e];exact hb0))) (m.ok _ _ a3)
  ·rcases key k g' hk with⟨_,rfl⟩|⟨a1,a2,a3⟩
   ·refine hp3.nodup_iff.2 (List.nodup_append.2 ⟨m.nd _ _ hg,hnR.2.1,fun x hx y hy e=> ?_⟩)
    subst e
    exact hdisj x (hR0 x hy) hx
   ·exact m.nd _ _ a3
  ·have hcross:∀k g',k≠ .inl id→k≠gid→γ k=some g'→∀x∈g'.bl,x∉g1.bl:=fun k g' a1 a2 a3 x hx hx1=>by
    rcases List.mem_append.1 (hp3.mem_iff.1 hx1) with hx1|hx1
    ·exact m.dj _ _ g' c' a3 hg a2 x hx hx1
    ·exact m.dj _ _ g' g0 a3 h1 a1 x hx (hR0 x hx1)
   rcases key k g2 hk with⟨rfl,rfl⟩|⟨a1,a2,a3⟩
   ·rcases key k' g3 hk' with⟨rfl,rfl⟩|⟨b1,b2,b3⟩
    ·exact absurd rfl hne'
    ·exact fun hx'=>hcross k' g3 b1 b2 b3 x hx' hx
   ·rcases key k' g3 hk' with⟨rfl,rfl⟩|⟨b1,b2,b3⟩
    ·exact hcross k g2 a1 a2 a3 x hx
    ·exact m.dj _ _ g2 g3 a3 b3 hne' x hx
  ·rcases key k' g' hk' with⟨_,rfl⟩|⟨a1,a2,a3⟩
   ·rcases List.mem_append.1 (hp3.mem_iff.1 hx) with hx|hx
    ·exact(m.sd k hk).2 _ _ hg hx
    ·exact(m.sd k hk).2 _ _ h1 (hR0 k hx)
   ·exact(m.sd k hk).2 _ _ a3 hx
  ·obtain⟨N,hN⟩:=m.fin
   refine⟨N,fun n hn=> ?_⟩
   simp only[upd,reduceCtorEq,if_false]
   split
   ·rfl
   ·exact hN n hn
 ·simp only[Gm.nav,upd,if_true,obs]
  exact Za q g0 sz _ els j i el c' g1 h2 hj h5
 ·have hx:k≠ .inl id:=fun e=>by
   have:=hk id e
   rw[hd0] at this
   simp at this
  simp[upd,hx,hkn]
 ·unfold upd
  split
  ·rename_i e
   subst e
   rw[hd0]
   simp
  ·rfl
 ·rintro ⟨x,v,y,u,hx,rfl⟩ id' p'
  by_cases hp':id'=id∧∃r,p'=q++[(j,i)]++r
  ·obtain⟨rfl,r,rfl⟩:=hp'
   intro x' hx'
   unfold Gm.nav at hx'
   simp only[upd,if_true,aA,oi] at hx'
   obtain⟨_,rfl,hx'⟩:=hx'
   rw[lW,oA _ _ _ _ h5] at hx'
   cases r with
   |nil =>
    simp only[G.nav,obs,oi] at hx'
    subst hx'
    refine⟨c,by rw[zqe];simp[Gm.nav,h1,hnc],.inl ⟨?_,rfl⟩⟩
    rw[hi] at hx
    simp only[oi] at hx
    subst hx
    rfl
   |cons a r=>simp[G.nav] at hx'
  ·exact hsame id' p' (fun e r er=>hp' ⟨e,r,er⟩)
 ·rcases key k g' hk with⟨_,rfl⟩|⟨a1,a2,a3⟩
  ·rcases List.mem_append.1 (hp3.mem_iff.1 hk') with hx|hx
   ·exact⟨gid,c',hg,hx⟩
   ·exact⟨_,g0,h1,hR0 k' hx⟩
  ·exact⟨k,g',a3,hk'⟩
open Go.RowKit
def Bl(γ:Gm)(k:Nat):Prop:=∃i g,γ i=some g∧k∈g.bl
structure Ctx where
 w0:World
 γ0:Gm
 S0:Nat→Prop
 nt:Nat
 P:Program
 h0:Heap
 A:Id→Prop
abbrev fO(A:Id→Prop)(fr:Nat)(U:Nat→Prop)(id:Id):Prop:=(id.1<fr∧A id)∨(id.1=fr∧U id.2)
structure Rep (c:Ctx) (st:St) (U:Nat→Prop) (γ:Gm) (S:Nat→Prop) (a:Act) (w:World):Prop where
 mm:Mm st.heap γ S w
 os:w.os=c.w0.os
 tape:w.tape=c.w0.tape
 output:w.output=c.w0.output
 size:c.w0.heap.size≤w.heap.size
 keep:∀k,k<c.w0.heap.size→¬Bl c.γ0 k→w.heap[k]? = c.w0.heap[k]?
 own:∀k,Bl γ k→Bl c.γ0 k∨c.w0.heap.size≤k
 hd:∀id:Id,id.1<st.fr→Same c.γ0 γ id []
 sg:∀k,S k→c.S0 k∨c.w0.heap.size≤k
 s0:∀k,c.S0 k→S k
 s00:∀k,c.S0 k→k<c.w0.heap.size∧¬Bl c.γ0 k
 env:∀t x,st.env t=some x→x.vr γ w S (a.tmps.getD t undef)
 ids:∀t x,st.env t=some x→x.allp (fun id _=>fO c.A st.fr U id)
 hid:∀id d,st.heap id=some d→fO c.A st.fr U id
 dom:∀id:Id,id.1<st.fr→c.h0 id=none→st.heap id=none
 df:a.defers=[]
 sz:a.tmps.size=c.nt
 iso:st.fr=0→∀k,¬Bl c.γ0 k
def Ok(c:Ctx)(st:St)(U:Nat→Prop)(a:Act)(w:World):Prop:=∃γ S,Rep c st U γ S a w
theorem oB{a:Act}{d:Option Nat}{v:Value}{t:Nat}:(a.put d v).tmps.getD t undef=(if d=some t∧t<a.tmps.size then v else a.tmps.getD t undef):=by
 unfold Act.put
 cases d with
 |none=>simp
 |some d =>
  simp only[Array.getD_eq_getD_getElem?,Array.getElem?_setIfInBounds,oi]
  by_cases h:d=t
  ·subst h
   by_cases h2:d<a.tmps.size
   ·simp[h2]
   ·simp[h2]
  ·simp[h]
theorem Yo(a:Act)(d:Option Nat)(v:Value):(a.put d v).tmps.size=a.tmps.size:=by
 unfold Act.put;cases d<;>simp
theorem Kf(a:Act)(d:Option Nat)(v:Value):(a.put d v).defers=a.defers:=by
 unfold Act.put;cases d<;>simp
theorem dN(st:St)(d:Option Nat)(x:X):(st.put d x).fr=st.fr:=by unfold St.put;cases d<;>rfl
theorem sI(st:St)(d:Option Nat)(x:X):(st.put d x).heap=st.heap:=by unfold St.put;cases d<;>rfl
theorem eH(st:St)(d:Option Nat)(x:X):(st.put d x).next=st.next:=by unfold St.put;cases d<;>rfl
theorem jK(st:St)(d:Option Nat):(st.lose d).fr=st.fr:=by unfold St.lose;cases d<;>rfl
theorem kE(st:St)(d:Option Nat):(st.lose d).heap=st.heap:=by unfold St.lose;cases d<;>rfl
theorem Gb(st:St)(d:Option Nat):(st.lose d).next=st.next:=by unfold St.lose;cases d<;>rfl
theorem Mz{st:St}{d:Option Nat}{x:X}{t:Nat}{y:X}(h:(st.put d x).env t=some y):(d=some t∧y=x)∨(d≠some t∧st.env t=some y):=by
 unfold St.put at h
 cases d with
 |none=>exact .inr ⟨by simp,h⟩
 |some d =>
  simp only[upd] at h
  split at h
  ·rename_i e
   subst e
   simp only[oi] at h
   exact .inl ⟨rfl,h.symm⟩
  ·rename_i e
   exact .inr ⟨by simpa using Ne.symm e,h⟩
theorem H3{st:St}{d:Option Nat}{t:Nat}{y:X}(h:(st.lose d).env t=some y):d≠some t∧st.env t=some y:=by
 unfold St.lose at h
 cases d with
 |none=>exact⟨by simp,h⟩
 |some d =>
  simp only[upd] at h
  split at h
  ·simp at h
  ·rename_i e
   exact⟨by simpa using Ne.symm e,h⟩
section
variable{c:Ctx}{st:St}{U U':Nat→Prop}{γ γ':Gm}{S S':Nat→Prop}{a:Act}{w w':World}
theorem Rep.put(R:Rep c st U γ S a w){d:Option Nat}(hd:∀k,d=some k→k<c.nt){x:X}{v:Value}(hx:x.vr γ w S v)(hi:x.allp (fun id _=>fO c.A st.fr U id)):Rep c (st.put d x) U γ S (a.put d v) w:=by
 refine⟨by rw[sI];exact R.mm,R.os,R.tape,R.output,R.size,R.keep,R.own,by rw[dN];exact R.hd,R.sg,R.s0,R.s00,fun t y hy=> ?_,fun t y hy=> ?_,by rw[sI,dN];exact R.hid,by rw[sI,dN];exact R.dom,by rw[Kf];exact R.df,by rw[Yo];exact R.sz,by rw[dN];exact R.iso⟩
 ·rw[oB]
  rcases Mz hy with⟨h1,rfl⟩|⟨h1,h2⟩
  ·rw[if_pos ⟨h1,by rw[R.sz];exact hd t h1⟩]
   exact hx
  ·rw[if_neg (fun h=>h1 h.1)]
   exact R.env t y h2
 ·rw[dN]
  rcases Mz hy with⟨h1,rfl⟩|⟨h1,h2⟩
  ·exact hi
  ·exact R.ids t y h2
theorem Rep.lose(R:Rep c st U γ S a w){d:Option Nat}(v:Value):Rep c (st.lose d) U γ S (a.put d v) w:=by
 refine⟨by rw[kE];exact R.mm,R.os,R.tape,R.output,R.size,R.keep,R.own,by rw[jK];exact R.hd,R.sg,R.s0,R.s00,fun t y hy=> ?_,fun t y hy=> ?_,by rw[kE,jK];exact R.hid,by rw[kE,jK];exact R.dom,by rw[Kf];exact R.df,by rw[Yo];exact R.sz,by rw[jK];exact R.iso⟩
 ·obtain⟨h1,h2⟩:=H3 hy
  rw[oB,if_neg (fun h=>h1 h.1)]
  exact R.env t y h2
 ·rw[jK]
  exact R.ids t y (H3 hy).2
theorem Rep.mono(R:Rep c st U γ S a w)(hU:∀o,U o→U' o):Rep c st U' γ S a w :=
 ⟨R.mm,R.os,R.tape,R.output,R.size,R.keep,R.own,R.hd,R.sg,R.s0,R.s00,R.env,fun t x h=>bS (fun id _ hid=>hid.imp id_ (fun h=>⟨h.1,hU _ h.2⟩)) x (R.ids t x h),fun id d h=>(R.hid id d h).imp id_ (fun h=>⟨h.1,hU _ h.2⟩),R.dom,R.df,R.sz,R.iso⟩
where id_ {p:Prop} (h:p):p:=h
theorem Rep.less(R:Rep c st U γ S a w){e:Env}(he:∀t x,e t=some x→st.env t=some x):Rep c {st with env:=e} U γ S a w :=
 ⟨R.mm,R.os,R.tape,R.output,R.size,R.keep,R.own,R.hd,R.sg,R.s0,R.s00,fun t x h=>R.env t x (he t x h),fun t x h=>R.ids t x (he t x h),R.hid,R.dom,R.df,R.sz,R.iso⟩
theorem Bl.lt(R:Rep c st U γ S a w){k:Nat}(h:Bl γ k):k<w.heap.size:=by
 obtain⟨i,g,h1,h2⟩:=h
 exact G.ok_lt g (R.mm.ok i g h1) k h2
theorem Rep.change(R:Rep c st U γ S a w){h':Heap}(m:Mm h' γ' S' w')(ho:w'.os=w.os)(ht:w'.tape=w.tape)(hp:w'.output=w.output)(hsz:w.heap.size≤w'.heap.size)
  (hk:∀k,k<w.heap.size→¬Bl γ k→w'.heap[k]? = w.heap[k]?) (hown:∀k,Bl γ' k→Bl γ k∨w.heap.size≤k)
  (hsame:∀t x,st.env t=some x→x.allp (Same γ γ')) (hhd:∀id:Id,id.1<st.fr→Same γ γ' id [])
  (hS:∀k,S k→S' k) (hS':∀k,S' k→S k∨w.heap.size≤k) (hid:∀id d,h' id=some d→fO c.A st.fr U' id) (hU:∀o,U o→U' o) (hdom:∀id:Id,id.1<st.fr→st.heap id=none→h' id=none):Rep c {st with heap:=h'} U' γ' S' a w':=by
 have hSw:∀k,S k→S' k∧w'.heap[k]? = w.heap[k]? := fun k h=>⟨hS k h,hk k (R.mm.sd k h).1 (fun⟨i,g,h1,h2⟩=>(R.mm.sd k h).2 i g h1 h2)⟩
 refine⟨m,ho.trans R.os,ht.trans R.tape,hp.trans R.output,Nat.le_trans R.size hsz,fun k h1 h2=> ?_,fun k h=> ?_,fun id hid'=>(R.hd id hid').trans (hhd id hid'),fun k h=> ?_,fun k h=>hS k (R.s0 k h),R.s00,fun t x h=>fW hSw x _ (hsame t x h) (R.env t x h),fun t x h=> ?_,hid,fun id hid h0=>hdom id hid (R.dom id hid h0),R.df,R.sz,R.iso⟩
 ·rw[hk k (Nat.lt_of_lt_of_le h1 R.size) (fun hb=>(R.own k hb).elim h2 (fun h=>by omega))]
  exact R.keep k h1 h2
 ·rcases hown k h with h|h
  ·exact R.own k h
  ·have:=R.size;exact .inr (by omega)
 ·rcases hS' k h with h|h
  ·exact R.sg k h
  ·have:=R.size;exact .inr (by omega)
 ·exact bS (fun id _ hid=>hid.imp (fun h=>h) (fun h=>⟨h.1,hU _ h.2⟩)) x (R.ids t x h)
theorem Rep.drew(R:Rep c st U γ S a w):Rep c st U γ S a {w with drawn:=w.drawn+1}:=by
 have h:=R.change (w':={w with drawn:=w.drawn+1}) (γ':=γ) (S':=S) (U':=U) (h':=st.heap) (R.mm.world (fun k h=>⟨h,rfl⟩) (fun _ _ _ _ _=>rfl) R.mm.sd) rfl rfl rfl (Nat.le_refl _) (fun _ _ _=>rfl) (fun _ h=> .inl h)
  (fun t x _=>cS (fun id p=>Same.refl γ id p) x) (fun id _=>Same.refl γ id []) (fun _ h=>h) (fun _ h=> .inl h) R.hid (fun _ h=>h) (fun _ _ h=>h)
 exact h
end
def vEq:Value→Value→Bool
 |.int k m,.int k' n=>k==k'&&m==n
 |.bool a,.bool b=>a==b
 |.string a,.string b=>a.data==b.data
 |.pointer none,.pointer none=>true
 |_,_=>false
theorem Sj{x y:Value}(h:vEq x y=true):x=y∧x.oneCell'=true:=by
 unfold vEq at h
 split at h
 ·simp only[bE,beq_iff_eq] at h;obtain⟨rfl,rfl⟩:=h;exact⟨rfl,rfl⟩
 ·simp only[beq_iff_eq] at h;subst h;exact⟨rfl,rfl⟩
 ·rename_i a b
  simp only[beq_iff_eq] at h
  have:a=b:=by cases a;cases b;simp_all
  subst this
  exact⟨rfl,rfl⟩
 ·exact⟨rfl,rfl⟩
 ·simp at h
def eqO:Operand→O→Bool
 |.tmp t,.t n=>t==n
 |.const v,.c x=>vEq v x
 |.const (.slice none 0 0),.n _=>true
 |.func f,.f g=>f==g
 |_,_=>false
theorem bV{c:Ctx}{st:St}{U:Nat→Prop}{γ:Gm}{S:Nat→Prop}{a:Act}{w:World}(R:Rep c st U γ S a w){x:Operand}{o:O}(h:eqO x o=true){y:X}(hy:rdO st o=some y) :
  y.vr γ w S (a.eval x)∧y.allp (fun id _=>fO c.A st.fr U id):=by
 unfold eqO at h
 split at h
 ·simp only[beq_iff_eq] at h
  subst h
  exact⟨R.env _ _ hy,R.ids _ _ hy⟩
 ·obtain⟨rfl,h1⟩:=Sj h
  simp only[rdO,oi] at hy
  subst hy
  exact⟨by simp only[X.vr];exact⟨rfl,h1⟩,by simp only[X.allp]⟩
 ·simp only[rdO,oi] at hy
  subst hy
  exact⟨by simp[X.vr,Act.eval],by simp only[X.allp]⟩
 ·simp only[beq_iff_eq] at h
  subst h
  simp only[rdO,oi] at hy
  subst hy
  exact⟨by simp only[X.vr];exact⟨rfl,rfl⟩,by simp only[X.allp]⟩
 ·simp at h
theorem z8t{y:X}{r:IntKind×Int}(h:y.int=some r):y= .d (.v (.int r.1 r.2)):=by
 unfold X.int at h
 split at h
 ·simp only[oi] at h;subst h;rfl
 ·simp at h
theorem zYm{y:X}{r:Bool}(h:y.bool=some r):y= .d (.v (.bool r)):=by
 unfold X.bool at h
 split at h
 ·simp only[oi] at h;subst h;rfl
 ·simp at h
theorem z8h{y:X}{r:ByteArray}(h:y.str=some r):y= .d (.v (.string r)):=by
 unfold X.str at h
 split at h
 ·simp only[oi] at h;subst h;rfl
 ·simp at h
section
variable{c:Ctx}{st:St}{U:Nat→Prop}{γ:Gm}{S:Nat→Prop}{a:Act}{w:World}(R:Rep c st U γ S a w){x:Operand}{o:O}(h:eqO x o=true)
include R h
theorem fQ{r:IntKind×Int}(hr:rdI st o=some r):a.eval x= .int r.1 r.2:=by
 unfold rdI at hr
 rw[aA] at hr
 obtain⟨y,h1,h2⟩:=hr
 have:=(bV R h h1).1
 rw[z8t h2] at this
 simp only[X.vr] at this
 exact this.1
theorem Gn{r:Bool}(hr:rdB st o=some r):a.eval x= .bool r:=by
 unfold rdB at hr
 rw[aA] at hr
 obtain⟨y,h1,h2⟩:=hr
 have:=(bV R h h1).1
 rw[zYm h2] at this
 simp only[X.vr] at this
 exact this.1
theorem Ei{r:ByteArray}(hr:rdS st o=some r):a.eval x= .string r:=by
 unfold rdS at hr
 rw[aA] at hr
 obtain⟨y,h1,h2⟩:=hr
 have:=(bV R h h1).1
 rw[z8h h2] at this
 simp only[X.vr] at this
 exact this.1
end
end Go.Ev
