import Derived.Test.YtenclibcnjkamaaGreatEvCall4
set_option linter.all false
namespace Go.Ev
open Go.RowKit
section
variable{c:Ctx}{st st':St}{U:Nat→Prop}{γ γ1 γ2:Gm}{S S':Nat→Prop}{a:Act}{w w':World}{C:Cl}{o:Oper}{h h1 h2:Heap}{fr:Nat}
def zj5(γ:Gm)(id:Id)(p:Path)(v:Value):Prop:=γ.nav id p=(if p=[] then none else some (.l .u v))
def L8(L:dA)(id:Id)(p:Path):Prop:=∀b∈L,¬Cmp id p b.1 b.2.1
theorem Mp{id id':Id}{p p':Path}(h:Cmp id p id' p'):Cmp id' p' id p:=⟨h.1.symm,h.2.symm⟩
theorem Hj{id:Id}{p:Path}:∀{L:dA},w5 id p L=true→L8 L id p
 |[],_,b,hb=>by simp at hb
 |x::L,h,b,hb=>by
  simp only[w5,bE,Bool.or_eq_true,Bool.not_eq_true',decide_eq_false_iff_not] at h
  rcases List.mem_cons.1 hb with rfl|hb
  ·rintro ⟨e,hc⟩
   rcases h.1 with h1|⟨h1,h2⟩
   ·exact h1 e
   ·rcases hc with hc|hc
    ·rw[List.isPrefixOf_iff_prefix.2 hc] at h1;simp at h1
    ·rw[List.isPrefixOf_iff_prefix.2 hc] at h2;simp at h2
  ·exact Hj h.2 b hb
theorem Dd{id:Id}{p:Path}:∀{L1 L2:dA},w5 id p (L1++L2)=true→w5 id p L1=true∧w5 id p L2=true
 |[],L2,h=>⟨rfl,h⟩
 |x::L1,L2,h=>by
  simp only[List.cons_append,w5,bE] at h ⊢
  obtain⟨h1,h2⟩:=Dd h.2
  exact⟨⟨h.1,h1⟩,h2⟩
theorem xQ:∀{L1 L2:dA},rY (L1++L2)=true→rY L1=true∧rY L2=true∧∀a∈L1,L8 L2 a.1 a.2.1
 |[],L2,h=>⟨rfl,h,by simp⟩
 |x::L1,L2,h=>by
  simp only[List.cons_append,rY,bE] at h ⊢
  obtain⟨h1,h2⟩:=Dd h.1
  obtain⟨h3,h4,h5⟩:=xQ h.2
  exact⟨⟨h1,h3⟩,h4,fun a ha=>by
   rcases List.mem_cons.1 ha with rfl|ha
   ·exact Hj h2
   ·exact h5 a ha⟩
structure Lending (h h1:Heap) (γ γ1:Gm) (S:Nat→Prop) (w:World) (L:dA) (is:List GId) (gs:List G):Prop where
 tk:TookF h h1 γ γ1 S w is
 l1:is.length=L.length
 l2:gs.length=L.length
 at_:∀(j:Nat) (i:GId) (g:G),is[j]? = some i→gs[j]? = some g→γ1 i=some g
 row:∀(j:Nat) (a:Id×Path×D) (g:G),L[j]? = some a→gs[j]? = some g→g.er=a.2.2∧(∃sz b els,g= .s sz b els)∧γ.nav a.1 a.2.1=some g∧zj5 γ1 a.1 a.2.1 g.val∧h a.1≠none
 oth:∀id p,L8 L id p→γ1.nav id p=γ.nav id p
theorem Lending.nil(m:Mm h γ S w):Lending h h γ γ S w [] [] []:=⟨TookF.refl m,rfl,rfl,by simp,by simp,fun _ _ _=>rfl⟩
theorem nD{α:Type}{l1 l2:List α}{j:Nat}{x:α}(h:(l1++l2)[j]? = some x):(j<l1.length∧l1[j]? = some x)∨(l1.length≤j∧l2[j-l1.length]? = some x):=by
 by_cases hj:j<l1.length
 ·rw[List.getElem?_append_left hj] at h;exact .inl ⟨hj,h⟩
 ·rw[List.getElem?_append_right (by omega)] at h;exact .inr ⟨by omega,h⟩
theorem Lending.trans{L1 L2:dA}{is1 is2:List GId}{gs1 gs2:List G}(t1:Lending h h1 γ γ1 S w L1 is1 gs1)(t2:Lending h1 h2 γ1 γ2 S w L2 is2 gs2)(hx:∀a∈L1,L8 L2 a.1 a.2.1):Lending h h2 γ γ2 S w (L1++L2) (is1++is2) (gs1++gs2):=by
 obtain⟨tk,hk⟩:=t1.tk.trans t2.tk
 refine⟨tk,by simp[t1.l1,t2.l1],by simp[t1.l2,t2.l2],fun j i g hi hg=> ?_,fun j b g hb hg=> ?_,fun id p hp=> ?_⟩
 ·rcases nD hi with⟨h3,h4⟩|⟨h3,h4⟩
  ·rcases nD hg with⟨h5,h6⟩|⟨h5,h6⟩
   ·rw[hk i (List.mem_of_getElem? h4)];exact t1.at_ j i g h4 h6
   ·have:=t1.l1;have:=t1.l2;omega
  ·rcases nD hg with⟨h5,h6⟩|⟨h5,h6⟩
   ·have:=t1.l1;have:=t1.l2;omega
   ·have e:is1.length=gs1.length:=t1.l1.trans t1.l2.symm
    exact t2.at_ (j-is1.length) i g h4 (by rw[e];exact h6)
 ·rcases nD hb with⟨h3,h4⟩|⟨h3,h4⟩
  ·rcases nD hg with⟨h5,h6⟩|⟨h5,h6⟩
   ·obtain⟨r1,r2,r3,r4,r5⟩:=t1.row j b g h4 h6
    refine⟨r1,r2,r3,?_,r5⟩
    unfold zj5 at r4 ⊢
    rw[t2.oth _ _ (hx b (List.mem_of_getElem? h4))]
    exact r4
   ·have:=t1.l1;have:=t1.l2;omega
  ·rcases nD hg with⟨h5,h6⟩|⟨h5,h6⟩
   ·have:=t1.l1;have:=t1.l2;omega
   ·obtain⟨r1,r2,r3,r4,r5⟩:=t2.row (j-L1.length) b g h4 (by rw[←t1.l2];exact h6)
    refine⟨r1,r2,?_,r4,fun e=>r5 (t1.tk.mono _ e)⟩
    rw[t1.oth] at r3
    ·exact r3
    ·exact fun a ha hc=>hx a ha b (List.mem_of_getElem? h4) (Mp hc)
 ·rw[t2.oth id p (fun b hb=>hp b (by simp[hb])),t1.oth id p (fun b hb=>hp b (by simp[hb]))]
theorem Lending.of_took{id:Id}{p:Path}{d:D}{v:Value}(m:Mm h γ S w)(ht:h.take id p=some (d,h1))(hv:∀g,γ.nav id p=some g→g.val=v):∃γ1 i g,Lending h h1 γ γ1 S w [(id,p,d)] [i] [g]∧g.val=v:=by
 obtain⟨γ1,i,g,t,e1,e2,e3,e4,e5,e6⟩:=G4 m ht hv
 refine⟨γ1,i,g,⟨TookF.of t,rfl,rfl,fun j i' g' h3 h4=> ?_,fun j b g' h3 h4=> ?_,fun id' p' hp=>e6 id' p' (fun hc=>hp (id,p,d) (by simp) (Mp hc))⟩,e2⟩
 ·cases j with
  |zero=>simp at h3 h4;subst h3;subst h4;exact t.at_
  |succ j=>simp at h3
 ·cases j with
  |zero =>
   simp at h3 h4;subst h3;subst h4
   refine⟨e1,e3,e4,by rw[e2];exact e5,fun e=> ?_⟩
   cases p with
   |nil =>
    simp only[Heap.take,aC] at ht
    obtain⟨r,h5,_⟩:=ht
    simp[Heap.row,Heap.nav,e] at h5
   |cons c p =>
    simp only[Heap.take,aA] at ht
    obtain⟨r,h5,_⟩:=ht
    simp[Heap.row,Heap.nav,e] at h5
  |succ j=>simp at h3
def LV(T:Nat→Option G)(w:World)(S:Nat→Prop)(y:X)(v:Value):Prop:=(∀(Γ:Gm) (S':Nat→Prop),(∀b,S b→S' b)→(∀k g,T k=some g→Γ (.inl (0,k))=some g)→(∀k g,Γ (.inl (0,k))=some g→T k=some g)→y.vr Γ w S' v)∧y.allp (fun id _=>id.1<1∧True)
def LVs(T:Nat→Option G)(w:World)(S:Nat→Prop):List X→List Value→Prop
 |[],[]=>True
 |x::xs,v::vs=>LV T w S x v∧LVs T w S xs vs
 |_,_=>False
abbrev Vc(T:Nat→Option G)(k:Nat)(gs:List G):Prop:=∀(j:Nat) (g:G),gs[j]? = some g→T (k+j)=some g
theorem zql{g:G}(h:∃sz b els,g= .s sz b els):g.rowy=true:=by obtain⟨_,_,_,rfl⟩:=h;rfl
theorem rX(m:Mm h γ S w){k:Nat}{x y:X}{v:Value}{L:dA}(hx:x.vr γ w S v)(hb:yY h k x=some (y,h1,L)) :
  ∃γ1 is gs,Lending h h1 γ γ1 S w L is gs∧∀T,Vc T k gs→LV T w S y v:=by
 unfold yY at hb
 split at hb
 ·rename_i id p
  simp only[aC] at hb
  obtain⟨⟨d,h3⟩,h4,h5⟩:=hb
  simp only[zqb] at h5
  obtain⟨rfl,rfl,rfl⟩:=h5
  simp only[X.vr] at hx
  obtain⟨γ1,i,g,ld,e⟩:=Lending.of_took m h4 (v:=v) (fun g hg=>(hx.2 g hg).1)
  refine⟨γ1,[i],[g],ld,fun T hT=>⟨fun Γ S' _ _ hΓ=> ?_,by simp[X.allp]⟩⟩
  simp only[X.vr]
  refine⟨hx.1,fun g' hg'=> ?_⟩
  simp only[Gm.nav,aA,G.nav,oi] at hg'
  obtain⟨g0,h5,rfl⟩:=hg'
  have h6:=hΓ k _ h5
  have h7:=hT 0 g rfl
  rw[Nat.add_zero,h6] at h7
  simp only[oi] at h7
  subst h7
  exact⟨e,zql (ld.row 0 _ _ rfl rfl).2.1⟩
 ·rename_i id q j i
  simp only[aC] at hb
  obtain⟨⟨d,h3⟩,h4,h5⟩:=hb
  simp only[zqb] at h5
  obtain⟨rfl,rfl,rfl⟩:=h5
  simp only[X.vr] at hx
  obtain⟨ad,rfl,h6⟩:=hx
  obtain⟨b0,els0,h7⟩:∃b els,∃sz:Nat,γ.nav id q=some (.s sz b els):=by
   have:∃r,h.row id q=some r:=by
    cases q with
    |nil=>simp only[Heap.take,aC] at h4;obtain⟨r,h5,_⟩:=h4;exact⟨r,h5⟩
    |cons c q=>simp only[Heap.take,aA] at h4;obtain⟨r,h5,_⟩:=h4;exact⟨r,h5⟩
   obtain⟨r,hr⟩:=this
   obtain⟨b,els,h8,_⟩:=m.row hr
   exact⟨b,els,_,h8⟩
  obtain⟨sz0,h7⟩:=h7
  obtain⟨γ1,n,g,ld,e⟩:=Lending.of_took m h4 (v:=(G.s sz0 b0 els0).val) (fun g hg=>by rw[h7] at hg;simp only[oi] at hg;rw[←hg])
  refine⟨γ1,[n],[g],ld,fun T hT=>⟨fun Γ S' _ _ hΓ=> ?_,by simp[X.allp]⟩⟩
  simp only[X.vr]
  refine⟨ad,rfl,fun sz b els hn=> ?_⟩
  simp only[Gm.nav,aA,G.nav,oi] at hn
  obtain⟨g0,h8,rfl⟩:=hn
  have h9:=hΓ k _ h8
  have h10:=hT 0 g rfl
  rw[Nat.add_zero,h9] at h10
  simp only[oi] at h10
  subst h10
  exact h6 sz b els (ld.row 0 _ _ rfl rfl).2.2.1
 ·simp only[oi,zqb] at hb
  obtain⟨rfl,rfl,rfl⟩:=hb
  exact⟨γ,[],[],Lending.nil m,fun T _=>⟨fun Γ S' _ _ _=>by simpa only[X.vr] using hx,by simp only[X.allp]⟩⟩
 ·simp only[oi,zqb] at hb
  obtain⟨rfl,rfl,rfl⟩:=hb
  refine⟨γ,[],[],Lending.nil m,fun T _=>⟨fun Γ S' hS _ _=> ?_,by simp only[X.allp]⟩⟩
  simp only[X.vr] at hx ⊢
  exact D.rd_congr (fun k hk=>⟨hS k hk,rfl⟩) _ _ hx
 ·simp only[oi,zqb] at hb
  obtain⟨rfl,rfl,rfl⟩:=hb
  exact⟨γ,[],[],Lending.nil m,fun T _=>⟨fun Γ S' _ _ _=>by simpa only[X.vr] using hx,by simp only[X.allp]⟩⟩
 ·simp at hb
theorem Mc{T:Nat→Option G}{k:Nat}{g1 g2:List G}{n:Nat}(hn:g1.length=n)(h:Vc T k (g1++g2)):Vc T k g1∧Vc T (k+n) g2 :=
 ⟨fun j g hg=>h j g (by rw[List.getElem?_append_left (List.getElem?_eq_some_iff.1 hg).1];exact hg),fun j g hg=>by rw[Nat.add_assoc];exact h (n+j) g (by rw[List.getElem?_append_right (by omega)];rw[show n+j-g1.length=j by omega];exact hg)⟩
theorem zqK:∀{xs ys:List X} {vs:List Value} {h h1:Heap} {γ:Gm} {k:Nat} {L:dA},Mm h γ S w→vrs γ w S xs vs→Qh h k xs=some (ys,h1,L)→rY L=true →
  ∃γ1 is gs,Lending h h1 γ γ1 S w L is gs∧∀T,Vc T k gs→LVs T w S ys vs
 |[],ys,[],h,h1,γ,k,L,m,_,hb,_=>by
  simp only[Qh,oi,zqb] at hb
  obtain⟨rfl,rfl,rfl⟩:=hb
  exact⟨γ,[],[],Lending.nil m,fun _ _=>by simp[LVs]⟩
 |x::xs,ys,v::vs,h,h1,γ,k,L,m,hv,hb,ha=>by
  simp only[Qh,aA,aC] at hb
  obtain⟨⟨y,h2,L1⟩,h3,⟨ys',h4,L2⟩,h5,h6⟩:=hb
  simp only[zqb] at h6
  obtain⟨rfl,rfl,rfl⟩:=h6
  simp only[vrs] at hv
  obtain⟨ha1,ha2,hx⟩:=xQ ha
  obtain⟨γ1,is1,gs1,t1,f1⟩:=rX m hv.1 h3
  obtain⟨γ2,is2,gs2,t2,f2⟩:=zqK t1.tk.mm (gJ (fun k hk=>⟨hk,rfl⟩) xs vs (fY t1.tk.same xs) hv.2) h5 ha2
  refine⟨γ2,is1++is2,gs1++gs2,t1.trans t2 hx,fun T hT=> ?_⟩
  obtain⟨hT1,hT2⟩:=Mc t1.l2 hT
  simp only[LVs]
  exact⟨f1 T hT1,f2 T hT2⟩
 |[],_,_::_,_,_,_,_,_,_,h,_,_=>by simp[vrs] at h
 |_::_,_,[],_,_,_,_,_,_,h,_,_=>by simp[vrs] at h
theorem zkk{T:Nat→Option G}:∀{ys:List X} {vs:List Value},LVs T w S ys vs→(∀(Γ:Gm) (S':Nat→Prop),(∀b,S b→S' b)→(∀k g,T k=some g→Γ (.inl (0,k))=some g)→(∀k g,Γ (.inl (0,k))=some g→T k=some g)→vrs Γ w S' ys vs)∧aR (fun id _=>id.1<1∧True) ys
 |[],[],_=>⟨fun _ _ _ _ _=>by simp[vrs],by simp[aR]⟩
 |y::ys,v::vs,h=>by
  simp only[LVs] at h
  obtain⟨h1,h2⟩:=zkk h.2
  exact⟨fun Γ S' a b c=>by simp only[vrs];exact⟨h.1.1 Γ S' a b c,h1 Γ S' a b c⟩,by simp only[aR];exact⟨h.1.2,h2⟩⟩
 |[],_::_,h=>by simp[LVs] at h
 |_::_,[],h=>by simp[LVs] at h
theorem zW0(m:Mm h γ S w){k:Nat}{x y:X}{v:Value}{L:dA}(hx:x.vr γ w S v)(hb:It h k x=some (y,h1,L))(ha:rY L=true) :
  ∃γ1 is gs,Lending h h1 γ γ1 S w L is gs∧∀T,Vc T k gs→LV T w S y v:=by
 cases x with
 |agg cs =>
  simp only[It,aC] at hb
  obtain⟨⟨ys,h2,L'⟩,h3,h4⟩:=hb
  simp only[zqb] at h4
  obtain⟨rfl,rfl,rfl⟩:=h4
  simp only[X.vr] at hx
  obtain⟨vs,rfl,h5,h6⟩:=hx
  obtain⟨γ1,is,gs,t,f⟩:=zqK m h5 h3 ha
  refine⟨γ1,is,gs,t,fun T hT=> ?_⟩
  obtain⟨f1,f2⟩:=zkk (f T hT)
  exact⟨fun Γ S' a b c=>by simp only[X.vr];exact⟨vs,rfl,f1 Γ S' a b c,h6⟩,by simp only[X.allp];exact f2⟩
 |d x=>exact rX m hx hb
 |tup cs=>exact rX m hx hb
 |ref id p=>exact rX m hx hb
 |ptr id q j i=>exact rX m hx hb
 |rop cs=>exact rX m hx hb
 |vp cs=>exact rX m hx hb
 |clo f cs=>exact rX m hx hb
def Jv(T:Nat→Option G)(γ:Gm)(w:World)(S:Nat→Prop):List X→List Bool→List Value→Prop
 |[],_,[]=>True
 |x::xs,true::bs,v::vs=>LV T w S x v∧Jv T γ w S xs bs vs
 |x::xs,false::bs,v::vs=>x.vr γ w S v∧Jv T γ w S xs bs vs
 |_,_,_=>False
theorem S7:∀{xs ys:List X} {bs:List Bool} {vs:List Value} {h h1:Heap} {γ:Gm} {k:Nat} {L:dA},Mm h γ S w→vrs γ w S xs vs→rS h k xs bs=some (ys,h1,L)→rY L=true →
  ∃γ1 is gs,Lending h h1 γ γ1 S w L is gs∧∀T,Vc T k gs→Jv T γ1 w S ys bs vs
 |[],ys,bs,[],h,h1,γ,k,L,m,_,hb,_=>by
  simp only[rS,oi,zqb] at hb
  obtain⟨rfl,rfl,rfl⟩:=hb
  exact⟨γ,[],[],Lending.nil m,fun _ _=>by simp[Jv]⟩
 |x::xs,ys,true::bs,v::vs,h,h1,γ,k,L,m,hv,hb,ha=>by
  simp only[rS,aA,aC] at hb
  obtain⟨⟨y,h2,L1⟩,h3,⟨ys',h4,L2⟩,h5,h6⟩:=hb
  simp only[zqb] at h6
  obtain⟨rfl,rfl,rfl⟩:=h6
  simp only[vrs] at hv
  obtain⟨ha1,ha2,hx⟩:=xQ ha
  obtain⟨γ1,is1,gs1,t1,f1⟩:=zW0 m hv.1 h3 ha1
  obtain⟨γ2,is2,gs2,t2,f2⟩:=S7 t1.tk.mm (gJ (fun k hk=>⟨hk,rfl⟩) xs vs (fY t1.tk.same xs) hv.2) h5 ha2
  refine⟨γ2,is1++is2,gs1++gs2,t1.trans t2 hx,fun T hT=> ?_⟩
  obtain⟨hT1,hT2⟩:=Mc t1.l2 hT
  simp only[Jv]
  exact⟨f1 T hT1,f2 T hT2⟩
 |x::xs,ys,false::bs,v::vs,h,h1,γ,k,L,m,hv,hb,ha=>by
  simp only[rS,aC] at hb
  obtain⟨⟨ys',h4,L2⟩,h5,h6⟩:=hb
  simp only[zqb] at h6
  obtain⟨rfl,rfl,rfl⟩:=h6
  simp only[vrs] at hv
  obtain⟨γ2,is2,gs2,t2,f2⟩:=S7 m hv.2 h5 ha
  refine⟨γ2,is2,gs2,t2,fun T hT=> ?_⟩
  simp only[Jv]
  exact⟨fW (fun k hk=>⟨hk,rfl⟩) x v (cS t2.tk.same x) hv.1,f2 T hT⟩
 |x::xs,ys,[],v::vs,h,h1,γ,k,L,m,hv,hb,ha=>by simp[rS] at hb
 |[],_,_,_::_,_,_,_,_,_,_,h,_,_=>by simp[vrs] at h
 |_::_,_,_,[],_,_,_,_,_,_,h,_,_=>by simp[vrs] at h
theorem Ll{T:Nat→Option G}{Γ:Gm}(m:Mm h γ S w)(hS:∀k,S k→S' k)(hΓ1:∀k g,T k=some g→Γ (.inl (0,k))=some g)(hΓ2:∀k g,Γ (.inl (0,k))=some g→T k=some g):∀{xs ys:List X} {bs:List Bool} {vs:List Value},Jv T γ w S xs bs vs→oI h xs bs=some ys→(roF xs bs=true∨∀id g,γ (.inl id)=some g→∀k∈g.bl,S' k)→vrs Γ w S' ys vs∧aR (fun id _=>id.1<1∧True) ys
 |[],ys,bs,[],_,hs,_=>by
  simp only[oI,oi] at hs
  subst hs
  exact⟨by simp[vrs],by simp[aR]⟩
 |x::xs,ys,true::bs,v::vs,hv,hs,hr=>by
  simp only[oI,aC] at hs
  obtain⟨zs,h1,rfl⟩:=hs
  simp only[Jv] at hv
  obtain⟨h2,h3⟩:=Ll m hS hΓ1 hΓ2 hv.2 h1 (hr.imp (fun h=>by simpa only[roF] using h) (fun h=>h))
  exact⟨by simp only[vrs];exact⟨hv.1.1 Γ S' hS hΓ1 hΓ2,h2⟩,by simp only[aR];exact⟨hv.1.2,h3⟩⟩
 |x::xs,ys,false::bs,v::vs,hv,hs,hr=>by
  simp only[oI,aA,aC] at hs
  obtain⟨y,h0,zs,h1,rfl⟩:=hs
  simp only[Jv] at hv
  obtain⟨h2,h3⟩:=Ll m hS hΓ1 hΓ2 hv.2 h1 (hr.imp (fun h=>by simp only[roF,bE] at h;exact h.2) (fun h=>h))
  obtain⟨h4,h5⟩:=zqx m hv.1 h0 hS (hr.imp (fun h=>by simp only[roF,bE] at h;exact h.1) (fun h=>h))
  refine⟨by simp only[vrs];exact⟨fW (fun k hk=>⟨hk,rfl⟩) y v (h5 _) h4,h2⟩,by simp only[aR];exact⟨h5 _,h3⟩⟩
 |x::xs,ys,[],v::vs,hv,hs,hr=>by simp[oI] at hs
 |[],_,_,_::_,h,_,_=>by simp[Jv] at h
 |_::_,_,bs,[],h,_,_=>by cases bs with
  |nil=>simp[Jv] at h
  |cons b bs=>cases b<;>simp[Jv] at h
end
open Go.RowKit
section
variable{c:Ctx}{st st':St}{U:Nat→Prop}{γ γ1 γ2:Gm}{S S':Nat→Prop}{a:Act}{w w':World}{C:Cl}{o:Oper}{h h1 h2:Heap}{fr:Nat}
theorem zQt(m:Mm h γ S w){n:Nat}{g:G}(hg:γ (.inr n)=some g)(hr:∃sz b els,g= .s sz b els){id:Id}{p:Path}(hh:zj5 γ id p g.val)(hp:h.putb id p g.er=some h1) :
  ∃γ',Mm h1 γ' S w∧(∀q,q≠n→γ' (.inr q)=γ (.inr q))∧γ'.nav id p=some g∧(∀id' p',¬Cmp id p id' p'→γ'.nav id' p'=γ.nav id' p')∧(∀id' p',¬(id'=id∧p <+: p')→Same γ γ' id' p')∧Sub γ' γ:=by
 cases p with
 |nil =>
  simp only[Heap.putb,oi] at hp
  subst hp
  refine⟨upd (rem γ [.inr n]) (.inl id) (some g),m.regroup (S':=S) (w':=w) [.inr n] (fun i hi id' e=>by simp at hi;subst hi;simp at e) (m.ok _ _ hg) (m.nd _ _ hg) (fun k hk=> .inl ⟨.inr n,by simp,g,hg,hk⟩) (fun _ _ _ _ _ _=>rfl) (fun k hk=>⟨hk,rfl⟩) (fun k hk=>⟨(m.sd k hk).1,(m.sd k hk).2 _ _ hg,fun i g hi _=>(m.sd k hk).2 i g hi⟩) id,fun q hq=> ?_,?_,fun id' p' hc=> ?_,fun id' p' hc=> ?_,fun i g' hi k hk=> ?_⟩
  ·simp[upd,rem,hq]
  ·simp[Gm.nav,upd,G.nav]
  ·have hne:id'≠id:=fun e=>hc ⟨e,.inl List.nil_prefix⟩
   simp[Gm.nav,upd,rem,hne]
  ·have hne:id'≠id:=fun e=>hc ⟨e,List.nil_prefix⟩
   exact Same.regroup id' p' hne
  ·unfold upd at hi
   split at hi
   ·simp only[oi] at hi
    subst hi
    exact⟨_,_,hg,hk⟩
   ·rw[cA] at hi
    exact⟨i,g',hi.2,hk⟩
 |cons c0 p =>
  unfold zj5 at hh
  rw[if_neg (by simp)] at hh
  have hh':=hh
  unfold Gm.nav at hh
  simp only[aA] at hh
  obtain⟨g0,h3,h4⟩:=hh
  simp only[Heap.putb] at hp
  unfold Heap.put at hp
  simp only[aA,aC] at hp
  obtain⟨d0,h5,d1,h6,rfl⟩:=hp
  obtain⟨g0',h7,h8⟩:=m.er id d0 h5
  rw[h3] at h7
  simp only[oi] at h7
  subst h7
  subst h8
  have hok0:=m.ok _ _ h3
  rw[R8 (c0::p) g0 g hok0,aC] at h6
  obtain⟨g1,h9,rfl⟩:=h6
  obtain⟨R,hp1,hp2⟩:=Ff (c0::p) g0 _ h4
  rw[Cf,zqf] at hp1
  have hp3:=hp2 _ _ h9
  have hok1:g1.ok w S:=by
   obtain⟨q,x,hq⟩:∃q x,c0::p=q++[x]:=⟨(c0::p).dropLast,(c0::p).getLast (by simp),(List.dropLast_concat_getLast (by simp)).symm⟩
   rw[hq,lW] at h4
   simp only[aA] at h4
   obtain⟨gq,h13,h14⟩:=h4
   obtain⟨j,i⟩:=x
   cases gq with
   |l d v=>simp[G.nav] at h14
   |s sz0 b0 els0 =>
    simp only[G.nav,aA,oi] at h14
    obtain⟨el,h15,cc,h16,rfl⟩:=h14
    have hrow:=nav_ok q g0 _ hok0 h13
    cases b0 with
    |none =>
     simp only[G.ok] at hrow
     rw[hrow.1] at h15
     simp at h15
    |some b0 =>
     obtain⟨g',h17,h18⟩:=E0 (w:=w) (w':=w) (S:=S) (S':=S) (fun k hk=>⟨hk,rfl⟩) (c':=g) (m.ok _ _ hg) h15 h16
      (fun cur e hcur hidx=>by
       rw[hcur]
       congr 2
       simp only[G.val] at hidx
       apply Array.ext_getElem?
       intro n
       rw[Array.getElem?_setIfInBounds]
       split
       ·rename_i e1
        subst e1
        split
        ·exact hidx
        ·rw[Array.getElem?_eq_none (by omega)]
       ·rfl) q g0 hok0 (m.nd _ _ h3) h13 (fun _ _ _=>rfl)
     rw[hq,h17] at h9
     simp only[oi] at h9
     subst h9
     exact h18
  have hdj:∀k∈g.bl,k∉g0.bl:=m.dj _ _ g g0 hg h3 (by simp)
  have hin:∀k∈g1.bl,k∈g.bl∨k∈g0.bl:=fun k hk=>by
   rcases List.mem_append.1 (hp3.mem_iff.1 hk) with h|h
   ·exact .inl h
   ·exact .inr (hp1.mem_iff.2 h)
  have hnd1:g1.bl.Nodup:=hp3.nodup_iff.2 (List.nodup_append.2 ⟨m.nd _ _ hg,hp1.nodup_iff.1 (m.nd _ _ h3),fun x hx y hy e=>by subst e;exact hdj x hx (hp1.mem_iff.2 hy)⟩)
  have m0:Mm (upd h id none) γ S w:=m.less (fun id' d hd=>by
   unfold upd at hd
   split at hd
   ·simp at hd
   ·exact hd)
  have hM:=m0.regroup (S':=S) (w':=w) [.inl id,.inr n] (fun i hi id' e=>by
   simp at hi
   rcases hi with rfl|rfl
   ·simp at e;subst e;simp[upd]
   ·simp at e) hok1 hnd1 (fun k hk=> .inl ((hin k hk).elim (fun h=>⟨.inr n,by simp,g,hg,h⟩) (fun h=>⟨.inl id,by simp,g0,h3,h⟩))) (fun _ _ _ _ _ _=>rfl) (fun k hk=>⟨hk,rfl⟩) (fun k hk=>⟨(m.sd k hk).1,fun hk1=>(hin k hk1).elim ((m.sd k hk).2 _ _ hg) ((m.sd k hk).2 _ _ h3),fun i g hi _=>(m.sd k hk).2 i g hi⟩) id
  have hhe:upd (upd h id none) id (some g1.er)=upd h id (some g1.er):=by
   funext j
   simp only[upd]
   split<;>rfl
  rw[hhe] at hM
  refine⟨_,hM,fun q hq=> ?_,?_,fun id' p' hc=> ?_,fun id' p' hc=> ?_,fun i g' hi k hk=> ?_⟩
  ·simp[upd,rem,hq]
  ·simp[Gm.nav,upd,oA _ _ _ _ h9]
  ·by_cases he:id'=id
   ·subst he
    have:=Gp _ _ _ h9 p' (fun h=>hc ⟨rfl,.inl h⟩) (fun h=>hc ⟨rfl,.inr h⟩)
    simp[Gm.nav,upd,h3,this]
   ·simp[Gm.nav,upd,rem,he]
  ·by_cases he:id'=id
   ·subst he
    intro x' hx'
    simp only[Gm.nav,upd,if_true,obs] at hx'
    obtain⟨x,hx,hl⟩:=Hg _ _ _ h9 (by simp) p' x' (fun r hr=>hc ⟨rfl,r,hr.symm⟩) hx'
    exact⟨x,by simp[Gm.nav,h3,hx],hl⟩
   ·refine Same.of_eq ?_ p'
    simp[upd,rem,he]
  ·unfold upd at hi
   split at hi
   ·simp only[oi] at hi
    subst hi
    exact(hin k hk).elim (fun h=>⟨_,_,hg,h⟩) (fun h=>⟨_,_,h3,h⟩)
   ·rw[cA] at hi
    exact⟨i,g',hi.2,hk⟩
theorem zk2{id:Id}{p:Path}{x:D}(hp:h.putb id p x=some h1){id':Id}(h0:h id'=none)(hne:p=[]→id'≠id):h1 id'=none:=by
 cases p with
 |nil =>
  simp only[Heap.putb,oi] at hp
  subst hp
  simp[upd,hne rfl,h0]
 |cons c p =>
  simp only[Heap.putb,Heap.put,aA,aC] at hp
  obtain⟨d,h3,d',_,rfl⟩:=hp
  unfold upd
  split
  ·rename_i e
   subst e
   rw[h3] at h0
   simp at h0
  ·exact h0
theorem M3{hB:Heap}{N:Nat}:∀{L:dA} {k:Nat} {h h2:Heap} {γ:Gm},Mm h γ S w→rY L=true →
  (∀(j:Nat) (x:Id×Path×D),L[j]? = some x→∀d,hB (0,k+j)=some d→∃g,γ (.inr (N+(k+j)))=some g∧g.er=d∧(∃sz b els,g= .s sz b els)∧zj5 γ x.1 x.2.1 g.val) →
  Al h hB k L=some h2 →
  ∃γ2,Mm h2 γ2 S w∧(∀q,q<N→γ2 (.inr q)=γ (.inr q))∧(∀id p,(∀x∈L,¬(id=x.1∧x.2.1 <+: p))→Same γ γ2 id p)∧(∀id p,L8 L id p→γ2.nav id p=γ.nav id p) ∧
   (∀(j:Nat) (x:Id×Path×D),L[j]? = some x→(hB (0,k+j)=none∧γ2.nav x.1 x.2.1=γ.nav x.1 x.2.1)∨∃g,γ (.inr (N+(k+j)))=some g∧(hB (0,k+j)).isSome=true∧γ2.nav x.1 x.2.1=some g)∧Sub γ2 γ∧(∀id,h id=none→(∀x∈L,x.1≠id)→h2 id=none)
 |[],k,h,h2,γ,m,_,_,hb=>by
  simp only[Al,oi] at hb
  subst hb
  exact⟨γ,m,fun _ _=>rfl,fun id p _=>Same.refl γ id p,fun _ _ _=>rfl,by simp,Sub.refl γ,fun _ h _=>h⟩
 |x::L,k,h,h2,γ,m,ha,hx,hb=>by
  simp only[rY,bE] at ha
  have hap:=Hj ha.1
  simp only[Al] at hb
  split at hb
  ·rename_i sz els hd
   rw[aA] at hb
   obtain⟨h',h3,h4⟩:=hb
   obtain⟨g,e1,e2,e3,e4⟩:=hx 0 x rfl _ (by simpa using hd)
   simp only[Nat.add_zero] at e1
   rw[←e2] at h3
   obtain⟨γ',m',b1,b2,b3,b4,b5⟩:=zQt m e1 e3 e4 h3
   have hne:∀j,N+(k+(j+1))≠N+k:=fun j=>by omega
   obtain⟨γ2,m2,c1,c2,c3,c4,c5,c6⟩:=M3 (k:=k+1) m' ha.2 (fun j y hy d hd=>by
    obtain⟨g',f1,f2,f3,f4⟩:=hx (j+1) y (by simpa using hy) d (by rw[show k+(j+1)=k+1+j by omega];exact hd)
    refine⟨g',?_,f2,f3,?_⟩
    ·rw[show k+1+j=k+(j+1) by omega,b1 _ (hne j)];exact f1
    ·unfold zj5 at f4 ⊢
     rw[b3]
     ·exact f4
     ·exact hap y (List.mem_of_getElem? hy)) h4
   refine⟨γ2,m2,fun q hq=>(c1 q hq).trans (b1 q (by omega)),fun id p hp=>(b4 id p (hp x (by simp))).trans (c2 id p (fun y hy=>hp y (by simp[hy]))),fun id p hp=> ?_,fun j y hy=> ?_,c5.trans b5,fun id h0 hne'=> ?_⟩
   ·rw[c3 id p (fun y hy=>hp y (by simp[hy])),b3 id p (fun hc=>hp x (by simp) (Mp hc))]
   ·cases j with
    |zero =>
     simp only[List.getElem?_cons_zero,oi] at hy
     subst hy
     refine .inr ⟨g,by simpa using e1,by simp[hd],?_⟩
     rw[c3 _ _ (fun y hy=>hap y hy)]
     exact b2
    |succ j =>
     simp only[List.getElem?_cons_succ] at hy
     have hnx:¬Cmp x.1 x.2.1 y.1 y.2.1:=hap y (List.mem_of_getElem? hy)
     rcases c4 j y hy with⟨f1,f2⟩|⟨g',f1,f2,f3⟩
     ·exact .inl ⟨by rw[show k+(j+1)=k+1+j by omega];exact f1,by rw[f2,b3 _ _ hnx]⟩
     ·rw[show k+1+j=k+(j+1) by omega,b1 _ (hne j)] at f1
      exact .inr ⟨g',f1,by rw[show k+(j+1)=k+1+j by omega];exact f2,f3⟩
   ·exact c6 id (zk2 h3 h0 (fun _=>(hne' x (by simp)).symm)) (fun y hy=>hne' y (by simp[hy]))
  ·simp at hb
  ·rename_i hd
   obtain⟨γ2,m2,c1,c2,c3,c4,c5,c6⟩:=M3 (k:=k+1) m ha.2 (fun j y hy d hd=>by
    obtain⟨g',f1,f2,f3,f4⟩:=hx (j+1) y (by simpa using hy) d (by rw[show k+(j+1)=k+1+j by omega];exact hd)
    exact⟨g',by rw[show k+1+j=k+(j+1) by omega];exact f1,f2,f3,f4⟩) hb
   refine⟨γ2,m2,c1,fun id p hp=>c2 id p (fun y hy=>hp y (by simp[hy])),fun id p hp=>c3 id p (fun y hy=>hp y (by simp[hy])),fun j y hy=> ?_,c5,fun id h0 hne'=>c6 id h0 (fun y hy=>hne' y (by simp[hy]))⟩
   cases j with
   |zero =>
    simp only[List.getElem?_cons_zero,oi] at hy
    subst hy
    exact .inl ⟨by simpa using hd,c3 _ _ (fun y hy=>hap y hy)⟩
   |succ j =>
    simp only[List.getElem?_cons_succ] at hy
    rcases c4 j y hy with⟨f1,f2⟩|⟨g',f1,f2,f3⟩
    ·exact .inl ⟨by rw[show k+(j+1)=k+1+j by omega];exact f1,f2⟩
    ·exact .inr ⟨g',by rw[show k+(j+1)=k+1+j by omega];exact f1,by rw[show k+(j+1)=k+1+j by omega];exact f2,f3⟩
theorem Nt:∀(k:Nat) (L:dA) (id:Id) (d:D),Cx k L id=some d→id.1=0∧k≤id.2∧∃x,L[id.2-k]? = some x∧x.2.2=d
 |_,[],id,d,h=>by simp[Cx,emp] at h
 |k,x::L,id,d,h=>by
  simp only[Cx] at h
  unfold upd at h
  split at h
  ·rename_i e
   subst e
   simp only[oi] at h
   exact⟨rfl,Nat.le_refl _,x,by simp,h⟩
  ·rename_i e
   obtain⟨h1,h2,y,h3,h4⟩:=Nt (k+1) L id d h
   refine⟨h1,by omega,y,?_,h4⟩
   rw[show id.2-k=(id.2-(k+1))+1 by omega]
   simpa using h3
theorem zqJ{hB:Heap}:∀{L:dA} {k:Nat},Zg hB k L=true→∀j,j<L.length→∀d,hB (0,k+j)=some d→d.noR=true
 |[],_,_,j,hj,_,_=>by simp at hj
 |x::L,k,h,j,hj,d,hd=>by
  simp only[Zg,bE] at h
  cases j with
  |zero =>
   rw[Nat.add_zero] at hd
   rw[hd] at h
   exact h.1
  |succ j =>
   exact zqJ h.2 j (by simpa using hj) d (by rw[show k+1+j=k+(j+1) by omega];exact hd)
end
open Go.RowKit
section
variable{c:Ctx}{st st':St}{U:Nat→Prop}{γ γ1 γ2:Gm}{S S':Nat→Prop}{a:Act}{w w':World}{C:Cl}{o:Oper}{h h1 h2:Heap}{fr:Nat}
theorem sN{L:dA}{φ:Id→Path→Prop}(h:∀id p,(∀x∈L,¬(id=x.1∧x.2.1 <+: p∧p≠x.2.1))→φ id p){y:X}(hy:∀x∈L,y.inC x.1 x.2.1=false):y.allp φ:=by
 cases L with
 |nil=>exact cS (fun id p=>h id p (by simp)) y
 |cons x0 L =>
  have h0:=hy x0 (by simp)
  cases y with
  |d x=>simp only[X.allp]
  |rop cs=>simp only[X.allp]
  |vp cs=>simp[X.inC] at h0
  |agg cs=>simp[X.inC] at h0
  |tup cs=>simp[X.inC] at h0
  |clo f cs=>simp[X.inC] at h0
  |ref id' p' =>
   simp only[X.allp]
   refine h id' p' (fun x hx ⟨e,h1,h2⟩=> ?_)
   have:=hy x hx
   subst e
   simp[X.inC,List.isPrefixOf_iff_prefix.2 h1,h2] at this
  |ptr id' p' j i =>
   simp only[X.allp]
   refine h id' p' (fun x hx ⟨e,h1,h2⟩=> ?_)
   have:=hy x hx
   subst e
   simp[X.inC,List.isPrefixOf_iff_prefix.2 h1,h2] at this
theorem J4{id:Id}{p:Path}:∀{cs:List X},inL id p cs=false→∀y∈cs,y.inC id p=false
 |[],_,y,hy=>by simp at hy
 |z::cs,h,y,hy=>by
  simp only[inL,Bool.or_eq_false_iff] at h
  rcases List.mem_cons.1 hy with rfl|hy
  ·exact h.1
  ·exact J4 h.2 y hy
theorem Nf{x:X}:∀{L:dA},wF x L=false→∀b∈L,x.inV b.1 b.2.1=false
 |[],_,b,hb=>by simp at hb
 |b0::L,h,b,hb=>by
  simp only[wF,Bool.or_eq_false_iff] at h
  rcases List.mem_cons.1 hb with rfl|hb
  ·exact h.1
  ·exact Nf h.2 b hb
theorem zyq{L:dA}{φ:Id→Path→Prop}(h:∀id p,(∀x∈L,¬(id=x.1∧x.2.1 <+: p∧p≠x.2.1))→φ id p){x:X}(hx:wF x L=false):x.allp φ:=by
 have hm:=Nf hx
 cases x with
 |agg cs =>
  simp only[X.allp]
  exact bG.2 fun y hy=>sN h (fun b hb=>J4 (by have:=hm b hb;simpa only[X.inV] using this) y hy)
 |clo f cs =>
  simp only[X.allp]
  exact bG.2 fun y hy=>sN h (fun b hb=>J4 (by have:=hm b hb;simpa only[X.inV] using this) y hy)
 |d x=>exact sN h (fun b hb=>hm b hb)
 |rop cs=>exact sN h (fun b hb=>hm b hb)
 |vp cs =>
  simp only[X.allp]
  exact bG.2 fun y hy=>sN h (fun b hb=>J4 (by have:=hm b hb;simpa only[X.inV] using this) y hy)
 |tup cs=>exact sN h (fun b hb=>hm b hb)
 |ref id p=>exact sN h (fun b hb=>hm b hb)
 |ptr id p j i=>exact sN h (fun b hb=>hm b hb)
theorem zx7{φ:Id→Path→Prop}{x:X}(h:x.roC=true):x.allp φ:=by
 cases x with
 |d x=>simp only[X.allp]
 |_=>simp[X.roC] at h
theorem Nz{φ:Id→Path→Prop}:∀{xs:List X},Fd xs=true→aR φ xs
 |[],_=>by simp[aR]
 |x::xs,h=>by
  simp only[Fd,bE] at h
  simp only[aR]
  exact⟨zx7 h.1,Nz h.2⟩
theorem oC{φ:Id→Path→Prop}{x:X}(h:x.roV=true):x.allp φ:=by
 cases x with
 |agg cs=>simp only[X.allp];exact Nz (by simpa only[X.roV] using h)
 |d x=>simp only[X.allp]
 |ref id p=>simp[X.roV,X.roC] at h
 |ptr id p j i=>simp[X.roV,X.roC] at h
 |tup cs=>simp[X.roV,X.roC] at h
 |rop cs=>simp[X.roV,X.roC] at h
 |vp cs=>simp[X.roV,X.roC] at h
 |clo f cs=>simp[X.roV,X.roC] at h
theorem Hy{φ:Id→Path→Prop}:∀{xs:List X},iY xs=true→aR φ xs
 |[],_=>by simp[aR]
 |x::xs,h=>by
  simp only[iY,bE] at h
  simp only[aR]
  exact⟨oC h.1,Hy h.2⟩
theorem Yz{φ:Id→Path→Prop}{x:X}(h:x.noP=true):x.allp φ:=by
 cases x with
 |tup cs=>simp only[X.allp];exact Hy (by simpa only[X.noP] using h)
 |agg cs=>exact oC (by simpa only[X.noP] using h)
 |d x=>exact oC (by simpa only[X.noP] using h)
 |ref id p=>exact oC (by simpa only[X.noP] using h)
 |ptr id p j i=>exact oC (by simpa only[X.noP] using h)
 |rop cs=>exact oC (by simpa only[X.noP] using h)
 |vp cs=>exact oC (by simpa only[X.noP] using h)
 |clo f cs=>exact oC (by simpa only[X.noP] using h)
theorem zYs{γ γ':Gm}{w w':World}{S S':Nat→Prop}{φ:Id→Path→Prop}(t:ResTo γ γ' w w' S S' φ){x:X}{v:Value}{is:List GId}(hφ:x.allp φ)(hr:cV γ w S x v is)(hk:∀i∈is,γ' i=γ i):cV γ' w' S' x v is:=by
 cases x with
 |tup cs =>
  simp only[cV,X.allp] at hr hφ ⊢
  obtain⟨us,e1,e2⟩:=hr
  exact⟨us,e1,Jx t hφ e2 hk⟩
 |agg cs=>exact fV t hφ (by simpa only[cV] using hr) hk
 |d x=>exact fV t hφ (by simpa only[cV] using hr) hk
 |ref id q=>exact fV t hφ (by simpa only[cV] using hr) hk
 |ptr id q j i=>exact fV t hφ (by simpa only[cV] using hr) hk
 |rop cs=>exact fV t hφ (by simpa only[cV] using hr) hk
 |vp cs=>exact fV t hφ (by simpa only[cV] using hr) hk
 |clo f cs=>exact fV t hφ (by simpa only[cV] using hr) hk
theorem Qx{x:X}{v:Value}{is:List GId}(h:Jm γ w S x v is):∀j∈is,∃g,γ j=some g:=fun j hj=>by
 rcases h with⟨_,rfl,_⟩|⟨_,_,i,g,_,rfl,h1,_,_⟩
 ·simp at hj
 ·rw[List.mem_singleton] at hj;subst hj;exact⟨g,h1⟩
theorem Qq:∀{xs:List X} {vs:List Value} {is:List GId},fZ γ w S xs vs is→∀j∈is,∃g,γ j=some g
 |[],[],is,h,j,hj=>by simp only[fZ] at h;subst h;simp at hj
 |x::xs,v::vs,is,h,j,hj=>by
  simp only[fZ] at h
  obtain⟨i1,i2,rfl,r1,r2⟩:=h
  rcases List.mem_append.1 hj with hj|hj
  ·exact Qx r1 j hj
  ·exact Qq r2 j hj
 |[],_::_,_,h,_,_=>by simp[fZ] at h
 |_::_,[],_,h,_,_=>by simp[fZ] at h
theorem Rq{x:X}{v:Value}{is:List GId}(h:d6 γ w S x v is):∀j∈is,∃g,γ j=some g:=by
 cases x with
 |agg cs=>simp only[d6] at h;obtain⟨vs,_,h,_⟩:=h;exact Qq h
 |_=>exact Qx (by simpa only[d6] using h)
theorem Qz:∀{xs:List X} {vs:List Value} {is:List GId},eZ γ w S xs vs is→∀j∈is,∃g,γ j=some g
 |[],[],is,h,j,hj=>by simp only[eZ] at h;subst h;simp at hj
 |x::xs,v::vs,is,h,j,hj=>by
  simp only[eZ] at h
  obtain⟨i1,i2,rfl,r1,r2⟩:=h
  rcases List.mem_append.1 hj with hj|hj
  ·exact Rq r1 j hj
  ·exact Qz r2 j hj
 |[],_::_,_,h,_,_=>by simp[eZ] at h
 |_::_,[],_,h,_,_=>by simp[eZ] at h
theorem zyi{x:X}{v:Value}{is:List GId}(h:cV γ w S x v is):∀j∈is,∃g,γ j=some g:=by
 cases x with
 |tup cs=>simp only[cV] at h;obtain⟨vs,_,h⟩:=h;exact Qz h
 |_=>exact Rq (by simpa only[cV] using h)
noncomputable def merged (γ1 γ':Gm) (N:Nat) (is:List GId) (hB:Heap) (n:Nat):Gm:=fun i=>match i with
 |.inl id=>γ1 (.inl id)
 |.inr q=>open Classical in if q<N then(if Sum.inr q∈is then γ' (.inr q) else none) else if (hB (0,q-N)).isSome∧q-N<n then γ' (.inl (0,q-N)) else none
theorem CallOk.give{P:Program}{C:Cl}(hC:CallOk P C):CallOk P C.give:=by
 intro f args h fr r h' hs
 obtain⟨⟨r0,h0⟩,h1,h2⟩:=uM.1 hs
 obtain⟨hc,H⟩:=hC f args h fr r0 h0 h1
 refine⟨hc,fun A γ S w vs m hv hi hh=>(H A γ S w vs m hv hi hh).mono ?_⟩
 rintro e w' ⟨v,γ',S',is,rfl,p⟩
 cases r0 with
 |ref id q =>
  simp only[Dn,aC,zqb] at h2
  obtain⟨⟨d,h3⟩,h4,rfl,rfl⟩:=h2
  have hx:(X.ref id q).vr γ' w' S' v:=by
   have hr:=p.res
   simp only[cV,d6] at hr
   rcases hr with⟨_,_,hr⟩|⟨_,_,_,_,e,_⟩
   ·exact hr
   ·cases e
  obtain⟨γ2,i2,t,e1,_⟩:=Ca (fr:=id.1) (A:=fun _=>True) p.mm hx (by simp only[X.allp,or_true]) (show lV id.1 h0 (.ref id q)=some (.d d,h3) by simp only[lV,if_true,h4,oms])
  refine⟨v,γ2,S',i2,rfl,⟨t.mm,by simpa only[cV,d6] using e1,t.nd,by simp only[X.allp],p.os,p.tape,p.output,p.size,p.keep,fun k ⟨i,g,g1,g2⟩=> ?_,fun id hid=>(p.hd id hid).trans (t.same id []),p.s0,p.sg,fun id hid h=>t.mono id (p.dom id hid h),fun id d hd=> ?_⟩⟩
  ·obtain⟨i0,g0,g3,g4⟩:=t.sub i g g1 k g2
   exact p.own k ⟨i0,g0,g3,g4⟩
  ·have hne:h0 id≠none:=fun h5=>by have h6:=t.mono id h5;simp only at hd;rw[h6] at hd;simp at hd
   obtain⟨d0,hd0⟩:=Option.ne_none_iff_exists'.1 hne
   exact p.low id d0 hd0
 |_ =>
  simp only[Dn,oi,zqb] at h2
  obtain⟨rfl,rfl⟩:=h2
  exact⟨v,γ',S',is,rfl,p⟩
theorem zQp(R:Rep c st U γ S a w)(hd:∀k,o.dst=some k→k<c.nt){y:Operand}{ys:Array Operand}{ts:Array TypeId}{f:Nat}{xs:List O}{bs:List Bool}(ho:o.op= .call {callee:= .value y,args:=ys,argTypes:=ts})(hf:eqO y (.f f)=true)(hx:qB ys.toList xs=true)(hC:CallOk c.P C)
  {n:Nat} (hn:∀k,n≤k→k<n+32→¬U k) {U':Nat→Prop} (hU:∀k,UB U n 32 k→U' k) (hs:opS C st o.dst n (.callb f xs bs)=some st'):Runs c o a w st' U':=by
 classical
 simp only[opS,aA] at hs
 replace hC:=hC.give
 obtain⟨as,h1,⟨as1,hp,L⟩,h2,zs,h3,⟨r,hB⟩,h4,h5⟩:=hs
 split at h5
 ·rename_i hcond
  rw[aA] at h5
  obtain⟨hb2,h6,h7⟩:=h5
  simp only[bE,Bool.or_eq_true] at hcond
  obtain⟨⟨hap,hnp⟩,hro⟩:=hcond
  simp only at h3 h4 h6 h7 hap hnp hro
  obtain⟨h8,h9⟩:=wI R hx h1
  obtain⟨γ1,is,gs,ld,hmix⟩:=S7 R.mm h8 h2 hap
  have m1:=ld.tk.mm
  let T:Nat→Option G:=fun k=>gs[k]?
  have hT:Vc T 0 gs:=fun j g hg=>by simp only[T,Nat.zero_add];exact hg
  let Γ:Gm:=fun i=>match i with
   |.inl id=>if id.1=0 then T id.2 else none
   |.inr _=>none
  have hΓ:∀i g,Γ i=some g→∃k,i= .inl (0,k)∧gs[k]? = some g:=fun i g hg=>by
   cases i with
   |inl id =>
    simp only[Γ] at hg
    split at hg
    ·rename_i e
     exact⟨id.2,by rw[←e],hg⟩
    ·simp at hg
   |inr q=>simp[Γ] at hg
  have hgi:∀(k:Nat) (g:G),gs[k]? = some g→∃i,is[k]? = some i∧γ1 i=some g∧∃q,i=Sum.inr q:=fun k g hg=>by
   have hk:=(List.getElem?_eq_some_iff.1 hg).1
   have hk2:k<is.length:=by rw[ld.l1,←ld.l2];exact hk
   refine⟨is[k],List.getElem?_eq_getElem hk2,ld.at_ k _ g (List.getElem?_eq_getElem hk2) hg,?_⟩
   exact(ld.tk.some _ (List.getElem_mem hk2)).1
  have hlt1:∀i g,γ1 i=some g→∀k∈g.bl,k<w.heap.size:=fun i g hg=>G.ok_lt g (m1.ok i g hg)
  have hinl:∀id g,γ1 (.inl id)=some g→∀k∈g.bl,¬Bl Γ k:=fun id g hg k hk ⟨i,g',h10,h11⟩=>by
   obtain⟨k',rfl,h12⟩:=hΓ i g' h10
   obtain⟨i2,h13,h14,q,rfl⟩:=hgi k' g' h12
   exact m1.dj (.inl id) (.inr q) g g' hg h14 (by simp) k hk h11
  have hBlγ:∀k,Bl Γ k→Bl γ k∧k<w.heap.size:=fun k ⟨i,g',h10,h11⟩=>by
   obtain⟨k',rfl,h12⟩:=hΓ i g' h10
   obtain⟨i2,h13,h14,q,rfl⟩:=hgi k' g' h12
   exact⟨ld.tk.sub _ _ h14 k h11,hlt1 _ _ h14 k h11⟩
  have hSΓ:∀k,S k→¬Bl Γ k:=fun k hk ⟨i,g',h10,h11⟩=>by
   obtain⟨k',rfl,h12⟩:=hΓ i g' h10
   obtain⟨i2,h13,h14,q,rfl⟩:=hgi k' g' h12
   exact(m1.sd k hk).2 _ _ h14 h11
  obtain⟨hcal,hcl⟩:=hC f zs (Cx 0 L) 1 r hB h4
  let ro:Prop:=roF as bs=true
  let Sc:Nat→Prop:=fun k=>if ro then S k else k<w.heap.size∧¬Bl Γ k
  have hSc:∀k,S k→Sc k:=fun k hk=>by
   simp only[Sc]
   split
   ·exact hk
   ·exact⟨(m1.sd k hk).1,hSΓ k hk⟩
  have hScs:∀k,Sc k→k<w.heap.size∧¬Bl Γ k:=fun k hk=>by
   simp only[Sc] at hk
   split at hk
   ·exact⟨(m1.sd k hk).1,hSΓ k hk⟩
   ·exact hk
  have mB:Mm (Cx 0 L) Γ Sc w:=by
   refine⟨fun id d hd=> ?_,fun i g hg=> ?_,fun i g hg=> ?_,fun i i' g g' hg hg' hne k hk=> ?_,fun k hk=>⟨(hScs k hk).1,fun i g hg hk'=>(hScs k hk).2 ⟨i,g,hg,hk'⟩⟩,⟨0,fun _ _=>rfl⟩⟩
   ·obtain⟨e1,_,x,e2,e3⟩:=Nt 0 L id d hd
    rw[Nat.sub_zero] at e2
    have hk:=(List.getElem?_eq_some_iff.1 e2).1
    have hk2:id.2<gs.length:=by rw[ld.l2];exact hk
    have e4:=List.getElem?_eq_getElem hk2
    refine⟨gs[id.2],by simp only[Γ,T,e1,if_true];exact e4,?_⟩
    rw[(ld.row _ _ _ e2 e4).1,e3]
   ·obtain⟨k',rfl,h12⟩:=hΓ i g hg
    obtain⟨i2,_,h14,_⟩:=hgi k' g h12
    exact G.ok_congr (fun k hk=>⟨hSc k hk,rfl⟩) g (fun _ _=>rfl) (m1.ok _ _ h14)
   ·obtain⟨k',rfl,h12⟩:=hΓ i g hg
    obtain⟨i2,_,h14,_⟩:=hgi k' g h12
    exact m1.nd _ _ h14
   ·obtain⟨k1,rfl,h12⟩:=hΓ i g hg
    obtain⟨k2,rfl,h13⟩:=hΓ i' g' hg'
    obtain⟨i1,h14,h15,_⟩:=hgi k1 g h12
    obtain⟨i2,h16,h17,_⟩:=hgi k2 g' h13
    refine m1.dj i1 i2 g g' h15 h17 (fun e=>hne ?_) k hk
    subst e
    obtain⟨a1,a2⟩:=List.getElem?_eq_some_iff.1 h14
    obtain⟨b1,b2⟩:=List.getElem?_eq_some_iff.1 h16
    have hpw:=List.pairwise_iff_getElem.1 ld.tk.nd
    rcases Nat.lt_trichotomy k1 k2 with h18|h18|h18
    ·exact absurd (a2.trans b2.symm) (hpw k1 k2 a1 b1 h18)
    ·rw[h18]
    ·exact absurd (b2.trans a2.symm) (hpw k2 k1 b1 a1 h18)
  obtain⟨hargs,halp⟩:=Ll (S':=Sc) (T:=T) (Γ:=Γ) m1 hSc (fun k g h=>by simp only[Γ,if_true];exact h) (fun k g h=>by simpa only[Γ,if_true] using h) (hmix T hT) h3 (by
   by_cases hr:ro
   ·refine .inl ?_
    have:∀{xs ys:List X} {bs:List Bool} {h h':Heap} {k:Nat} {L:dA},rS h k xs bs=some (ys,h',L)→roF xs bs=true→roF ys bs=true:=by
     intro xs
     induction xs with
     |nil =>
      intro ys bs h h' k L hb hr
      simp only[rS,oi,zqb] at hb
      obtain⟨rfl,_⟩:=hb
      exact hr
     |cons x xs ih =>
      intro ys bs h h' k L hb hr
      cases bs with
      |nil=>simp[rS] at hb
      |cons b bs =>
       cases b with
       |true =>
        simp only[rS,aA,aC] at hb
        obtain⟨p1,_,p2,hb2,hb3⟩:=hb
        simp only[zqb] at hb3
        obtain⟨rfl,rfl,rfl⟩:=hb3
        simp only[roF] at hr ⊢
        exact ih (ys:=p2.1) (h':=p2.2.1) (L:=p2.2.2) hb2 hr
       |false =>
        simp only[rS,aC] at hb
        obtain⟨p2,hb2,hb3⟩:=hb
        simp only[zqb] at hb3
        obtain⟨rfl,rfl,rfl⟩:=hb3
        simp only[roF,bE] at hr ⊢
        exact⟨hr.1,ih (ys:=p2.1) (h':=p2.2.1) (L:=p2.2.2) hb2 hr.2⟩
    exact this h2 hr
   ·refine .inr fun id g hg k hk=> ?_
    simp only[Sc,if_neg hr]
    exact⟨hlt1 _ _ hg k hk,hinl id g hg k hk⟩)
  have hy:=(bV R hf (y:= .d (.v (.func (.func f) #[] #[]))) rfl).1
  simp only[X.vr] at hy
  refine .enter f _ w (by
   have:=Av (w:=w) ho hy.1 hcal
   simpa using this) ((hcl (fun _=>True) Γ Sc w _ mB hargs halp (fun id d hd=>by
    obtain⟨e1,_⟩:=Nt 0 L id d hd
    exact⟨by omega,trivial⟩)).mono ?_)
  rintro e w' ⟨v,γ',S'',is',rfl,p⟩
  refine⟨v,rfl,?_⟩
  obtain⟨N,hN⟩:=p.mm.fin
  have hisN:∀i∈is',∃q,i=Sum.inr q∧q<N:=fun i hi=>by
   obtain⟨q,rfl⟩:=uQ p.res i hi
   refine⟨q,rfl,?_⟩
   obtain⟨g,hg⟩:=zyi p.res _ hi
   by_cases hq:q<N
   ·exact hq
   ·rw[hN q (by omega)] at hg;simp at hg
  let γm:=merged γ1 γ' N is' hB L.length
  let S2:Nat→Prop:=fun k=>if ro then S'' k else S k
  have hlent:∀(j:Nat) (x:Id×Path×D) (d:D),L[j]? = some x→hB (0,j)=some d→∃g' g,γ' (.inl (0,j))=some g'∧g'.er=d∧gs[j]? = some g∧Like g g':=fun j x d hx hd=>by
   obtain⟨g',h10,h11⟩:=p.mm.er _ _ hd
   have hk:=(List.getElem?_eq_some_iff.1 hx).1
   have hk2:j<gs.length:=by rw[ld.l2];exact hk
   have e4:=List.getElem?_eq_getElem hk2
   obtain⟨g0,h12,h13⟩:=p.hd (0,j) (by simp) g' (by simp[Gm.nav,h10,G.nav])
   simp only[Gm.nav,Γ,T,if_true,e4,obs,G.nav,oi] at h12
   subst h12
   exact⟨g',gs[j],h10,h11,e4,h13⟩
  have hmi:∀i g,γm i=some g→((∃id,i= .inl id)∧γ1 i=some g)∨∃i',γ' i'=some g∧(∃q,i= .inr q)∧((i'=i∧i∈is'∧∃q,i= .inr q∧q<N)∨∃j,i= .inr (N+j)∧i'= .inl (0,j)∧j<L.length∧∃d,hB (0,j)=some d):=fun i g hg=>by
   cases i with
   |inl id=>exact .inl ⟨⟨id,rfl⟩,hg⟩
   |inr q =>
    simp only[γm,merged] at hg
    split at hg
    ·rename_i hq
     split at hg
     ·rename_i hi
      exact .inr ⟨.inr q,hg,⟨q,rfl⟩,.inl ⟨rfl,hi,q,rfl,hq⟩⟩
     ·simp at hg
    ·rename_i hq
     split at hg
     ·rename_i hi
      obtain⟨d,hd⟩:=Option.isSome_iff_exists.1 hi.1
      exact .inr ⟨.inl (0,q-N),hg,⟨q,rfl⟩,.inr ⟨q-N,by rw[show N+(q-N)=q by omega],rfl,hi.2,d,hd⟩⟩
     ·simp at hg
  have hγ'bl:∀i g,γ' i=some g→∀k∈g.bl,Bl Γ k∨w.heap.size≤k:=fun i g hg k hk=>p.own k ⟨i,g,hg,hk⟩
  have hcross:∀id g,γ1 (.inl id)=some g→∀i' g',γ' i'=some g'→∀k∈g.bl,k∉g'.bl:=fun id g hg i' g' hg' k hk hk'=>by
   rcases hγ'bl i' g' hg' k hk' with h10|h10
   ·exact hinl id g hg k hk h10
   ·have:=hlt1 _ _ hg k hk
    omega
  have hnrm:¬ro→r.noR=true∧Zg hB 0 L=true:=fun hr=>by
   rcases hro with h10|h10
   ·exact absurd h10 hr
   ·exact h10
  have hmm:Mm hp γm S2 w':=by
   refine⟨fun id d hd=> ?_,fun i g hg=> ?_,fun i g hg=> ?_,fun i i' g g' hg hg' hne k hk=> ?_,fun k hk=> ?_,?_⟩
   ·exact m1.er id d hd
   ·rcases hmi i g hg with⟨⟨id,rfl⟩,h10⟩|⟨i',h10,⟨q,rfl⟩,h12⟩
    ·refine G.ok_congr (fun k hk=>⟨?_,p.keep k (m1.sd k hk).1 (hSΓ k hk)⟩) g (fun k hk=>p.keep k (hlt1 _ _ h10 k hk) (hinl id g h10 k hk)) (m1.ok _ _ h10)
     simp only[S2]
     split
     ·exact p.s0 k (hSc k hk)
     ·exact hk
    ·by_cases hr:ro
     ·simp only[S2,if_pos hr]
      exact p.mm.ok _ _ h10
     ·simp only[S2,if_neg hr]
      obtain⟨hn1,hn2⟩:=hnrm hr
      refine Rx g ?_ (p.mm.ok _ _ h10)
      rcases h12 with⟨e1,h13,_⟩|⟨j,e1,e2,h13,d,hd⟩
      ·subst e1
       exact(Fc (γ':=γ') (S':=S) hn1 p.res (fun _ _=>rfl)).2 _ h13 g h10
      ·subst e2
       obtain⟨g',e3,e4⟩:=p.mm.er _ _ hd
       rw[h10] at e3
       simp only[oi] at e3
       subst e3
       rw[e4]
       exact zqJ hn2 j h13 d (by rw[Nat.zero_add];exact hd)
   ·rcases hmi i g hg with⟨_,h10⟩|⟨i',h10,_⟩
    ·exact m1.nd _ _ h10
    ·exact p.mm.nd _ _ h10
   ·rcases hmi i g hg with⟨⟨id,rfl⟩,h10⟩|⟨i1,h10,h11,h12⟩
    ·rcases hmi i' g' hg' with⟨_,h13⟩|⟨i2,h13,_⟩
     ·exact m1.dj _ _ g g' h10 h13 hne k hk
     ·exact hcross id g h10 i2 g' h13 k hk
    ·rcases hmi i' g' hg' with⟨⟨id,rfl⟩,h13⟩|⟨i2,h13,h14,h15⟩
     ·exact fun hk'=>hcross id g' h13 i1 g h10 k hk' hk
     ·refine p.mm.dj i1 i2 g g' h10 h13 (fun e=>hne ?_) k hk
      subst e
      rcases h12 with⟨rfl,_,q,hq,_⟩|⟨j,e1,e2,_⟩
      ·rcases h15 with⟨e3,_⟩|⟨j,e3,e4,_⟩
       ·exact e3
       ·rw[hq] at e4;simp at e4
      ·rcases h15 with⟨e3,_,q,hq,_⟩|⟨j',e3,e4,_⟩
       ·rw[hq] at e3;rw[e2] at e3;simp at e3
       ·rw[e2] at e4
        simp only[Sum.inl.injEq,zqb,true_and] at e4
        rw[e1,e3,e4]
   ·by_cases hr:ro
    ·simp only[S2,if_pos hr] at hk
     refine⟨(p.mm.sd k hk).1,fun i g hg hk'=> ?_⟩
     rcases hmi i g hg with⟨⟨id,rfl⟩,h10⟩|⟨i',h10,_⟩
     ·rcases p.sg k hk with h11|h11
      ·simp only[Sc,if_pos hr] at h11
       exact(m1.sd k h11).2 _ _ h10 hk'
      ·have:=hlt1 _ _ h10 k hk'
       omega
     ·exact(p.mm.sd k hk).2 _ _ h10 hk'
    ·simp only[S2,if_neg hr] at hk
     refine⟨Nat.lt_of_lt_of_le (m1.sd k hk).1 p.size,fun i g hg hk'=> ?_⟩
     rcases hmi i g hg with⟨⟨id,rfl⟩,h10⟩|⟨i',h10,_⟩
     ·exact(m1.sd k hk).2 _ _ h10 hk'
     ·exact(p.mm.sd k (p.s0 k (hSc k hk))).2 _ _ h10 hk'
   ·refine⟨N+L.length,fun q hq=> ?_⟩
    simp only[γm,merged]
    rw[if_neg (by omega),if_neg (fun h=>by omega)]
  have hholes:∀(j:Nat) (x:Id×Path×D),L[j]? = some x→∃g,gs[j]? = some g∧γ.nav x.1 x.2.1=some g∧(∃sz b els,g= .s sz b els)∧γm.nav x.1 x.2.1=(if x.2.1=[] then none else some (.l .u g.val))∧st.heap x.1≠none:=fun j x hx=>by
   have hk:=(List.getElem?_eq_some_iff.1 hx).1
   have hk2:j<gs.length:=by rw[ld.l2];exact hk
   have e4:=List.getElem?_eq_getElem hk2
   obtain⟨_,r2,r3,r4,r5⟩:=ld.row j x _ hx e4
   exact⟨gs[j],e4,r3,r2,r4,r5⟩
  obtain⟨γ2,mm2,k1,k2,k3,k4,k5,k6⟩:=M3 (N:=N) (k:=0) hmm hap (fun j x hx d hd=>by
   rw[Nat.zero_add] at hd
   obtain⟨g',g,h10,h11,h12,h13⟩:=hlent j x d hx hd
   obtain⟨g0,e1,e2,e3,e4,_⟩:=hholes j x hx
   rw[h12] at e1
   simp only[oi] at e1
   subst e1
   have hk:=(List.getElem?_eq_some_iff.1 hx).1
   have hlike:g'.val=g.val∧g'.rowy=true:=by
    rcases h13 with⟨e,_⟩|⟨e,_,e'⟩
    ·rw[zql e3] at e;simp at e
    ·exact⟨e,e' (zql e3)⟩
   refine⟨g',?_,h11,?_,?_⟩
   ·simp only[γm,merged,Nat.zero_add]
    rw[if_neg (by omega),Nat.add_sub_cancel_left,if_pos ⟨by rw[hd];rfl,hk⟩]
    exact h10
   ·
    have hrow:∃sz els,d= .s sz els:=by
     have:∀{L:dA} {k:Nat} {h h2:Heap},Al h hB k L=some h2→∀j,j<L.length→∀d,hB (0,k+j)=some d→∃sz els,d= .s sz els:=by
      intro L
      induction L with
      |nil=>intro k h h2 _ j hj;simp at hj
      |cons y L ih =>
       intro k h h2 hb j hj d hd
       simp only[Al] at hb
       split at hb
       ·rename_i sz els he
        rw[aA] at hb
        obtain⟨h',_,hb2⟩:=hb
        cases j with
        |zero =>
         rw[Nat.add_zero,he] at hd
         simp only[oi] at hd
         exact⟨sz,els,hd.symm⟩
        |succ j=>exact ih hb2 j (by simpa using hj) d (by rw[show k+1+j=k+(j+1) by omega];exact hd)
       ·simp at hb
       ·rename_i he
        cases j with
        |zero=>rw[Nat.add_zero,he] at hd;simp at hd
        |succ j=>exact ih hb j (by simpa using hj) d (by rw[show k+1+j=k+(j+1) by omega];exact hd)
     exact this h6 j hk d (by rw[Nat.zero_add];exact hd)
    obtain⟨sz,els,rfl⟩:=hrow
    cases g' with
    |s sz' b' els'=>exact⟨_,_,_,rfl⟩
    |l d' v' =>
     have hok:=p.mm.ok _ _ h10
     simp only[G.ok] at hok
     simp only[G.er] at h11
     subst h11
     simp[D.leaf] at hok
   ·unfold zj5
    rw[hlike.1]
    exact e4) h6
  have hsame1:∀id p',Same γ γm id p':=fun id p'=>(ld.tk.same id p').trans (Same.of_eq rfl p')
  have hsame:∀id p',(∀x∈L,¬(id=x.1∧x.2.1 <+: p'∧p'≠x.2.1))→Same γ γ2 id p':=fun id p' hnot=>by
   by_cases hex:∃x∈L,id=x.1∧p'=x.2.1
   ·obtain⟨x,hxm,rfl,rfl⟩:=hex
    obtain⟨j,hj⟩:=List.getElem?_of_mem hxm
    obtain⟨g,e1,e2,e3,e4,_⟩:=hholes j x hj
    intro g2 hg2
    refine⟨g,e2,?_⟩
    rcases k4 j x hj with⟨_,h10⟩|⟨g',h10,h11,h12⟩
    ·rw[h10,e4] at hg2
     split at hg2
     ·simp at hg2
     ·simp only[oi] at hg2
      subst hg2
      exact .inr ⟨rfl,.inl rfl,fun _=>rfl⟩
    ·rw[h12] at hg2
     simp only[oi] at hg2
     subst hg2
     rw[Nat.zero_add] at h10 h11
     obtain⟨d,hd⟩:=Option.isSome_iff_exists.1 h11
     obtain⟨g1',g1,f1,f2,f3,f4⟩:=hlent j x d hj hd
     have hk:=(List.getElem?_eq_some_iff.1 hj).1
     simp only[γm,merged] at h10
     rw[if_neg (by omega),Nat.add_sub_cancel_left,if_pos ⟨h11,hk⟩,f1] at h10
     simp only[oi] at h10
     subst h10
     rw[e1] at f3
     simp only[oi] at f3
     subst f3
     exact f4
   ·refine(hsame1 id p').trans (k2 id p' (fun x hxm ⟨e1,e2⟩=> ?_))
    by_cases e3:p'=x.2.1
    ·exact hex ⟨x,hxm,e1,e3⟩
    ·exact hnot x hxm ⟨e1,e2,e3⟩
  have hdom:∀id,st.heap id=none→hb2 id=none:=fun id h0=>k6 id (ld.tk.mono id h0) (fun x hxm e=>by
   obtain⟨j,hj⟩:=List.getElem?_of_mem hxm
   obtain⟨_,_,_,_,_,e5⟩:=hholes j x hj
   rw[e] at e5
   exact e5 h0)
  have hres:cV γ2 w' S2 r v is':=by
   have hk:∀i∈is',γ2 i=γ' i:=fun i hi=>by
    obtain⟨q,rfl,hq⟩:=hisN i hi
    rw[k1 q hq]
    simp only[γm,merged]
    rw[if_pos hq,if_pos hi]
   by_cases hr:ro
   ·simp only[S2,if_pos hr]
    exact zYs (φ:=fun _ _=>False) ⟨fun id q h=>h.elim,fun k hk=>⟨hk,rfl⟩⟩ (Yz hnp) p.res hk
   ·simp only[S2,if_neg hr]
    exact(Fc (γ':=γ2) (S':=S) (hnrm hr).1 p.res hk).1
  have hpe:∀t x,rO L st.env t=some x→st.env t=some x∧wF x L=false:=fun t x hx=>by
   unfold rO at hx
   rw[aA] at hx
   obtain⟨x',h10,h11⟩:=hx
   split at h11
   ·simp at h11
   ·rename_i hne
    simp only[oi] at h11
    subst h11
    exact⟨h10,by simpa using hne⟩
  have hR:=(R.less (fun t x hx=>(hpe t x hx).1)).change (U':=U) mm2 p.os p.tape p.output p.size (fun k hk hnb=>p.keep k hk (fun hb=>hnb (hBlγ k hb).1)) (fun k ⟨i,g,h10,h11⟩=>by
    obtain⟨i0,g0,h12,h13⟩:=k5 i g h10 k h11
    rcases hmi i0 g0 h12 with⟨_,h14⟩|⟨i',h14,_⟩
    ·exact .inl (ld.tk.sub _ _ h14 k h13)
    ·exact(hγ'bl i' g0 h14 k h13).imp (fun h=>(hBlγ k h).1) (fun h=>h)) (fun t x hx=>zyq hsame (hpe t x hx).2) (fun id _=>hsame id [] (fun x _ ⟨_,e2,e3⟩=>e3 (List.prefix_nil.1 e2).symm)) (fun k hk=>by
    simp only[S2]
    split
    ·exact p.s0 k (hSc k hk)
    ·exact hk) (fun k hk=>by
    simp only[S2] at hk
    split at hk
    ·rename_i hr
     rcases p.sg k hk with h10|h10
     ·simp only[Sc,if_pos hr] at h10
      exact .inl h10
     ·exact .inr h10
    ·exact .inl hk) (fun id d hd=>by
    have hne:st.heap id≠none:=fun h0=>by rw[hdom id h0] at hd;simp at hd
    obtain⟨d0,hd0⟩:=Option.ne_none_iff_exists'.1 hne
    exact R.hid id d0 hd0) (fun _ h=>h) (fun id _ h0=>hdom id h0)
  exact Hf (st:={st with env:=rO L st.env,heap:=hb2}) hR hd hres p.nd (Yz hnp) hn hU h7
 ·simp at h5
end
end Go.Ev
